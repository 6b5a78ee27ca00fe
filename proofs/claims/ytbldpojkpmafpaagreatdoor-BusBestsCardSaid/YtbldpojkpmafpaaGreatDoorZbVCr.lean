/- The reference of package bus: Tracks whole; Tracks and Clique as contracts. -/
import Derived.Test.YtbldpojkpmafpaaGreatDoorZbVRef4
import Derived.Test.YtbldpojkpmafpaaGreatDoorZbVRef3
import Derived.Test.YtbldpojkpmafpaaGreatDoorZbBusRefNets
import Derived.Test.YtbldpojkpmafpaaGreatDoorZbOrdLaw
import Derived.Test.YtbldpojkpmafpaaGreatDoorZbBusTap1
import Derived.Deep.RegionWith
namespace Go.Proofs.YtbldpojkpmafpaaGreatDoor
open Go.RowKit Sv
set_option maxRecDepth 100000
set_option linter.unusedVariables false
noncomputable section
theorem tr_holds (nets : List (Int × List Int)) (order : List Int) (hn : nets.length ≤ 500) (ho : order.length ≤ 1000) (hg : ∀ x ∈ nets, x.2.length ≤ 140737488355328) :
    Holds Tryz.prog true 48 [nv nets, lv order] (.tuple [lv (rI nets order order.length 0).1, iv (cntUp (rI nets order order.length 0).1 nets.length)]) := by
  have hS := trk_ok
  have hcov : ∀ i, i < nets.length → (decide (order.length ≤ 1000) && decide ((nets.getD i (0, [])).2.length ≤ 140737488355328)) = true := fun i hi => by
    rw [decide_eq_true ho, decide_eq_true (hg _ (getN_mem hi))]; rfl
  refine holds_fl (c := BTr) Tryz.func48 rfl rfl fun w F => ?_
  refine GoalL.to known mixed hS 4 _ (tr_start nets order (by omega) (by simp) (by simp) (flat_zero _)) (by kernel_rfl) ?_
  refine GoalL.loop (ι := { p : Nat // p ≤ order.length }) (id := 0) (b := cat BTr pO) (rest := List.drop 5 (fl BTr [])) (by kernel_rfl) (fun p => STrP nets order (rI nets order p.1 0).1 (toI (rI nets order p.1 0).2) p.1) (fun p => order.length - p.1) ⟨0, Nat.zero_le _⟩ (fun _ => rfl) ?_
  rintro ⟨p, hp⟩
  by_cases hlt : p < order.length
  · refine GoalL.st (s := STrP nets order (rI nets order p 0).1 (toI (rI nets order p 0).2) p) known mixed hS 2 _ (tr_row nets order _ _ p (by omega)) (by kernel_rfl) ?_
    refine goalL_blk (id := 1) (c := cat BTr pB) (rest := List.drop 3 (fl BTr pO)) (by kernel_rfl) ?_
    refine GoalL.st (s := STrP nets order (rI nets order p 0).1 (toI (rI nets order p 0).2) p) known mixed hS 1 _ (tr_inner nets order _ _ p) (by kernel_rfl) ?_
    refine GoalL.loop (ι := { i : Nat // i ≤ nets.length }) (id := 2) (b := cat BTr pI) (rest := List.drop 2 (fl BTr pB)) (by kernel_rfl) (fun i => STrI nets order (rI nets order p i.1).1 (toI (rI nets order p i.1).2) p i.1) (fun i => nets.length - i.1) ⟨0, Nat.zero_le _⟩ (fun _ => rfl) ?_
    rintro ⟨i, hi⟩
    have hF := far_all nets order p i hi
    by_cases hlt2 : i < nets.length
    · refine GoalL.st (s := STrI nets order (rI nets order p i).1 (toI (rI nets order p i).2) p i) known mixed hS 2 _ (tr_irow nets order _ _ p i (by omega)) (by kernel_rfl) ?_
      refine goalL_blk (id := 3) (c := cat BTr pN) (rest := List.drop 3 (fl BTr pI)) (by kernel_rfl) ?_
      by_cases hlow : lowR nets order i = (p : Int)
      · refine tr_net hn ho hg (by omega) hF hlt2 hlow ?_
        have e := rI_here nets order p i hlow
        have e' : refStep (mtR nets order) ((rI nets order p i).1, (rI nets order p i).2) i = rI nets order p (i + 1) := e.symm
        rw [e']
        refine GoalL.all (s := STrI nets order (rI nets order p (i + 1)).1 (toI (rI nets order p (i + 1)).2) p i) known mixed hS _ (tr_inext nets order _ _ p i (by omega)) (by kernel_rfl) ?_
        exact ⟨⟨i + 1, hlt2⟩, by simp; omega, rfl, rfl⟩
      · refine GoalL.st (s := STrI nets order (rI nets order p i).1 (toI (rI nets order p i).2) p i) known mixed hS 3 _ (tr_other nets order _ _ p i hlt2 (hcov i hlt2) hlow) (by kernel_rfl) ?_
        refine onN_exit (inB_exit ?_)
        refine GoalL.all (s := STrI nets order (rI nets order p i).1 (toI (rI nets order p i).2) p i) known mixed hS _ (tr_inext nets order _ _ p i (by omega)) (by kernel_rfl) ?_
        have e := rI_other nets order p i hlow
        exact ⟨⟨i + 1, hlt2⟩, by simp; omega, by show _ = (STrI nets order (rI nets order p (i + 1)).1 (toI (rI nets order p (i + 1)).2) p (i + 1)).T; rw [e], by show _ = (STrI nets order (rI nets order p (i + 1)).1 (toI (rI nets order p (i + 1)).2) p (i + 1)).H; rw [e]⟩
    · refine GoalL.st (s := STrI nets order (rI nets order p i).1 (toI (rI nets order p i).2) p i) known mixed hS 2 _ (tr_istop nets order _ _ p i (by omega)) (by kernel_rfl) ?_
      refine onN_exit (onN_exit (inB_exit ?_))
      refine goalL_nil pB_end ?_
      obtain rfl : i = nets.length := by omega
      refine GoalL.all (s := STrI nets order (rI nets order p nets.length).1 (toI (rI nets order p nets.length).2) p nets.length) known mixed hS _ (tr_next nets order _ _ p _ (by omega)) (by kernel_rfl) ?_
      have e := rI_next nets order p
      exact ⟨⟨p + 1, hlt⟩, by simp; omega, by show _ = (STrP nets order (rI nets order (p + 1) 0).1 (toI (rI nets order (p + 1) 0).2) (p + 1)).T; rw [e], by show _ = (STrP nets order (rI nets order (p + 1) 0).1 (toI (rI nets order (p + 1) 0).2) (p + 1)).H; rw [e]⟩
  · refine GoalL.st (s := STrP nets order (rI nets order p 0).1 (toI (rI nets order p 0).2) p) known mixed hS 2 _ (tr_stop nets order _ _ p (by omega)) (by kernel_rfl) ?_
    refine onN_exit (onN_exit (inB_exit ?_))
    obtain rfl : p = order.length := by omega
    have hl := (far_all nets order order.length 0 (Nat.zero_le _)).len
    refine GoalL.allRet (s := STrP nets order (rI nets order order.length 0).1 (toI (rI nets order order.length 0).2) order.length) known mixed hS _ (tr_ret nets order _ _ _ (own_back2 _ _) (by rw [← lst_back]; omega) (lst_back _) (own_back _ _) (by simp) (by rw [← lst_back])) fun T H h => ?_
    rw [hl] at h
    exact h
def okNets (nets : List (Int × List Int)) (order : List Int) : Bool := decide (nets.length ≤ 500) && (decide (order.length ≤ 1000) && nets.all fun x => decide (x.2.length ≤ 140737488355328))
theorem okNets_iff {nets : List (Int × List Int)} {order : List Int} (h : okNets nets order = true) : nets.length ≤ 500 ∧ order.length ≤ 1000 ∧ ∀ x ∈ nets, x.2.length ≤ 140737488355328 := by
  unfold okNets at h
  simp only [Bool.and_eq_true, decide_eq_true_eq, List.all_eq_true] at h
  exact ⟨h.1, h.2.1, h.2.2⟩
noncomputable def cTracksR : Ctr := { f := 48, ps := [.list false tN, .list false (.int .i64)], rs := [.list false (.int .i64), .int .i64], fresh := true, pre := fun d => okNets d.1 d.2.1, fn := fun d => ((rI d.1 d.2.1 (List.length (α := Int) d.2.1) 0).1, (((cntUp (rI d.1 d.2.1 (List.length (α := Int) d.2.1) 0).1 (List.length (α := Int × List Int) d.1) : Nat) : Int), ())) }
theorem cTracksR_ok : cTracksR.Ok Tryz.prog := fun ⟨nets, order, _⟩ h => by
  obtain ⟨h1, h2, h3⟩ := okNets_iff h
  exact tr_holds nets order h1 h2 h3
end
end Go.Proofs.YtbldpojkpmafpaaGreatDoor

/- Package bus: the tracks of no nets at all. -/
namespace Go.Proofs.YtbldpojkpmafpaaGreatDoor
open Go.RowKit

set_option maxRecDepth 100000 in
theorem insertion_nil (bx : Nat) (w : World) :
    Calls Tryz.prog 170 #[.slice none 0 0, .int .i64 0, .int .i64 0, .func (.func 89) #[] #[.pointer (some ⟨bx, 0, none⟩)]] w fun e w' => (∃ v, e = .returned v) ∧ w' = w := by
  go_enter Tryz.func170, Tryz.ntmps170
  go_wp2_with fail
  refine wp_loop_rounds 1 ?_
  rw [rounds_succ]
  go_wp2_with fail
  go_end0
  exact ⟨⟨_, rfl⟩, rfl⟩
set_option maxRecDepth 100000 in
theorem stable_nil (bx : Nat) (w : World) :
    Calls Tryz.prog 131 #[.slice none 0 0, .int .i64 0, .func (.func 89) #[] #[.pointer (some ⟨bx, 0, none⟩)]] w fun e w' => (∃ v, e = .returned v) ∧ w' = w := by
  have HI := Lib.hid (insertion_nil bx w)
  go_enter Tryz.func131, Tryz.ntmps131
  go_wp2_with fail
  refine wp_loop_rounds 1 ?_
  rw [rounds_succ]
  go_wp2_with fail
  refine HI.out.mono ?_
  rintro e w1 ⟨⟨v, rfl⟩, rfl⟩
  go_wp2_with fail
  refine wp_loop_rounds 1 ?_
  rw [rounds_succ]
  go_wp2_with fail
  go_end0
  exact ⟨⟨_, rfl⟩, rfl⟩
set_option maxRecDepth 100000 in
theorem SortStable_nil (bx : Nat) (w : World) :
    Calls Tryz.prog 88 #[.slice none 0 0, .func (.func 89) #[] #[.pointer (some ⟨bx, 0, none⟩)]] w fun e w' => (∃ v, e = .returned v) ∧ w' = w := by
  have HI := Lib.hid (stable_nil bx w)
  go_enter Tryz.func88, Tryz.ntmps88
  go_wp2_with fail
  refine HI.out.mono ?_
  rintro e w1 ⟨⟨v, rfl⟩, rfl⟩
  go_wp2_with fail
  go_end0
  exact ⟨⟨_, rfl⟩, rfl⟩

set_option maxHeartbeats 4000000 in
set_option maxRecDepth 100000 in
theorem tracks_nil (g : Nat) (F : Nat → Int) (A An : Option Addr) (c cn : Nat) (w : World) (h : RowAt w g (.slice An 0 cn) F (.slice A 0 c)) :
    Calls Tryz.prog 43 #[.pointer (some ⟨g, 0, none⟩)] w fun e w' => ∃ (Ao : Option Addr) (co : Nat), e = .returned (.tuple #[.slice Ao 0 co, .int .i64 0]) ∧ Below w.heap.size w w' := by
  have hgl := h.lt
  have hnets : w.cell? ⟨g, 0, none⟩ = some (.slice An 0 cn) := h.nets
  obtain ⟨i0, hi0, iz0, iz1, iz2⟩ := info_parts Tryz.info3
  clear h
  go_enter Tryz.func43, Tryz.ntmps43
  go_wp2_with fail
  have e0 := (Below.refl w.heap.size w).alloc (Nat.le_refl _) (.cells #[.pointer (some ⟨g, 0, none⟩)] 73)
  have d0 := Blk.new w 73 #[.pointer (some ⟨g, 0, none⟩)]
  have hn2 := (e0.cell (p := ⟨g, 0, none⟩) hgl).trans hnets
  have hp0 : (w.alloc (.cells #[.pointer (some ⟨g, 0, none⟩)] 73)).cell? ⟨w.heap.size, 0, none⟩ = some (.pointer (some ⟨g, 0, none⟩)) := d0.cell 0
  have HS := Lib.hid (SortStable_nil w.heap.size)
  generalize w.alloc (.cells #[.pointer (some ⟨g, 0, none⟩)] 73) = W0 at e0 d0 hn2 hp0 ⊢
  refine wp_loop_rounds 1 ?_
  rw [rounds_succ]
  go_wp2_with fail
  refine (HS.out _).mono ?_
  rintro e w1 ⟨⟨v, rfl⟩, rfl⟩
  go_wp2_with fail
  rw [run_makeSlice w1 24 3 i0 (.int .i64 0) Tryz.underlying24 hi0 iz0 .i64 .i64 0 0 (by decide) (by decide) (by simp) (by simp) (by decide)]
  simp only [Result.andThen]
  rw [Oper.upon_value]
  have e1 := e0.alloc e0.size (.cells (madeCells (Value.int .i64 0).cells ((0 : Int).toNat * i0.size)) 3)
  generalize w1.alloc _ = W2 at e1 ⊢
  go_wp2_with fail
  refine wp_loop_rounds 1 ?_
  rw [rounds_succ]
  go_wp2_with fail
  go_ret2
  exact ⟨_, _, rfl, e1⟩

end Go.Proofs.YtbldpojkpmafpaaGreatDoor

/- Package bus: Tracks, Clique as contracts on plain data. -/
namespace Go.Proofs.YtbldpojkpmafpaaGreatDoor
open Go.RowKit Sv
set_option maxRecDepth 100000
set_option linter.unusedVariables false
noncomputable section
theorem track_len (xs : List (Int × Int)) : ∀ (L : List Nat) (s : List Int × List Nat), (L.foldl (trackStep xs) s).2.length = s.2.length
  | [], s => rfl
  | i :: L, s => by
    rw [List.foldl_cons, track_len xs L]
    unfold trackStep
    simp only
    split <;> simp
theorem tracksOf_len (xs : List (Int × Int)) : (tracksOf xs).2.length = xs.length := by
  unfold tracksOf
  rw [track_len]; simp
abbrev extsOf (nets : List (Int × List Int)) (order : List Int) : List (Int × Int) := Bus.exts (Bus.atUp order order.length) nets
end
end Go.Proofs.YtbldpojkpmafpaaGreatDoor

/- integraphlaw07.awake: it returns true in every world, and leaves what lay there: the kernel runs it. -/
namespace Go.Proofs.YtbldpojkpmafpaaGreatDoor
open Go.RowKit Sv

set_option maxRecDepth 1000000
theorem awake_runs : okv (acall Tryz.prog (acode Tryz.prog (sdraw Tryz.prog noS) 400) 8 [] H64) = true := by kernel_rfl
theorem awake_calls (w : World) : Calls Tryz.prog 8 #[] w fun e w' => e = .returned (.bool true) ∧ Below w.heap.size w w' := opened known mixed 400 awake_runs w
end Go.Proofs.YtbldpojkpmafpaaGreatDoor

/- Of integraphlaw07: what the laws share: awake; facts on plain data. -/
namespace Go.Proofs.YtbldpojkpmafpaaGreatDoor
open Go.RowKit Sv
set_option maxRecDepth 100000
set_option linter.unusedVariables false
noncomputable section
noncomputable def cAwake : Ctr := { f := 8, ps := [], rs := [.bool], fresh := true, pre := fun _ => true, fn := fun _ => (true, ()) }
--{
theorem cAwake_ok : cAwake.Ok Tryz.prog := fun _ _ => holds_raw fun w F xs hF hd => by
  cases hd
  exact awake_calls w
def mkNets (nets : List (Int × List Int)) : List NetAt := nets.map fun x => ⟨x.1, x.2, none, 0⟩
theorem mkNets_net (nets : List (Int × List Int)) : (mkNets nets).map NetAt.net = nets := by
  unfold mkNets
  rw [List.map_map]
  exact List.map_id _
theorem ext_at {nets : List (Int × List Int)} {n : Int} {order : List Int} (hE : Bus.bothErr nets n order = 0) (i : Nat) (hi : i < nets.length) :
    (extsOf nets order).getD i (0, 0) = refExt order (nets.getD i (0, [])).2 ∧ 0 ≤ (refExt order (nets.getD i (0, [])).2).1 ∧ (refExt order (nets.getD i (0, [])).2).1 ≤ (refExt order (nets.getD i (0, [])).2).2 ∧ (refExt order (nets.getD i (0, [])).2).2 < order.length := by
  have h := valid_ext (l := mkNets nets) (n := n) (order := order) (by rw [mkNets_net]; exact hE) i (by unfold mkNets; simpa using hi)
  have e : ((mkNets nets).map NetAt.cols).getD i [] = (nets.getD i (0, [])).2 := by
    unfold mkNets
    simp only [List.getD_eq_getElem?_getD, List.getElem?_map, List.getElem?_eq_getElem hi, Option.map_some, Option.getD_some]
  rw [mkNets_net, e] at h
  exact h
theorem refOrd_congr {K K' : Nat → Int} {n : Nat} (h : ∀ i, i < n → K i = K' i) : ∀ p, refOrd K n p = refOrd K' n p
  | 0 => rfl
  | p + 1 => by
    unfold refOrd
    rw [refOrd_congr h p]
    congr 1
    refine List.filter_congr fun i hi => ?_
    rw [h i (List.mem_range.1 hi)]
theorem extsOf_len (nets : List (Int × List Int)) (order : List Int) : (extsOf nets order).length = nets.length := by simp [Bus.exts]
theorem both_iff {nets : List (Int × List Int)} {n : Int} {order : List Int} : Bus.bothErr nets n order = 0 ↔ Bus.netsErr nets n = 0 ∧ Bus.orderErr order n = 0 := by
  unfold Bus.bothErr
  split
  · rename_i h; exact ⟨fun e => absurd e h, fun e => absurd e.1 h⟩
  · rename_i h; exact ⟨fun e => ⟨Classical.not_not.1 h, e⟩, fun e => e.2⟩
theorem tracks_fact {nets : List (Int × List Int)} {n : Int} {order : List Int} (hE : Bus.bothErr nets n order = 0) :
    (rI nets order order.length 0).1 = toI (tracksOf (extsOf nets order)).2 ∧ cntUp (rI nets order order.length 0).1 nets.length = (tracksOf (extsOf nets order)).1.length := by
  have hl := extsOf_len nets order
  have h := tracks_same (extsOf nets order) (mtR nets order) order.length (fun i hi => ?_) (fun i hi => ?_) (fun j i hj hi => ?_)
  · have e : rI nets order order.length 0 = (refOrd (lowAt (extsOf nets order)) (extsOf nets order).length order.length).foldl (refStep (mtR nets order)) (List.replicate (extsOf nets order).length 0, []) := by
      unfold rI
      rw [hl, refOrd_congr (K' := lowAt (extsOf nets order)) fun i hi => ?_]
      · simp
      · unfold lowAt lowR
        rw [(ext_at hE i hi).1]; rfl
    rw [e]
    rw [hl] at h ⊢
    exact h
  · obtain ⟨h1, h2, h3, h4⟩ := ext_at hE i (by omega)
    rw [h1]; exact ⟨h2, by omega⟩
  · obtain ⟨h1, h2, h3, h4⟩ := ext_at hE i (by omega)
    rw [h1]; exact h3
  · obtain ⟨h1, h2, h3, h4⟩ := ext_at hE i (by omega)
    obtain ⟨g1, g2, g3, g4⟩ := ext_at hE j (by omega)
    rw [h1, g1]
    exact meetFrom_eq _ _ _ ⟨g2, g3, g4⟩ ⟨h2, h3, h4⟩
--}
end
end Go.Proofs.YtbldpojkpmafpaaGreatDoor

/- Package bus, plain: the tracks are a layout, as many as the nets of the clique; any layout has at least so many. -/
namespace Go.Proofs.YtbldpojkpmafpaaGreatDoor
open Go.RowKit Sv
set_option linter.unusedVariables false

structure Col (xs : List (Int × Int)) (n : Nat) (ends : List Int) (tr dn : List Nat) : Prop where
  len : tr.length = n
  mem : ∀ j ∈ dn, j < n ∧ tr.getD j 0 < ends.length ∧ (xs.getD j (0, 0)).2 ≤ ends.getD (tr.getD j 0) 0
  top : ∀ t, t < ends.length → ∃ j ∈ dn, tr.getD j 0 = t ∧ ends.getD t 0 = (xs.getD j (0, 0)).2
  apart : ∀ j ∈ dn, ∀ k ∈ dn, j ≠ k → tr.getD j 0 = tr.getD k 0 → meetB xs j k = false
  full : ∃ (p : Int) (C : List Nat), (ends.length = 0 ∨ ∃ i ∈ dn, p = (xs.getD i (0, 0)).1) ∧ C.Nodup ∧ C.length = ends.length ∧ ∀ j ∈ C, j ∈ dn ∧ (xs.getD j (0, 0)).1 ≤ p ∧ p ≤ (xs.getD j (0, 0)).2
theorem meetB_comm (xs : List (Int × Int)) (j k : Nat) : meetB xs j k = meetB xs k j := by
  unfold meetB
  rw [Bool.and_comm]
theorem meetB_far {xs : List (Int × Int)} {j k : Nat} (h : (xs.getD j (0, 0)).2 < (xs.getD k (0, 0)).1) : meetB xs j k = false := by
  unfold meetB
  rw [decide_eq_false (p := (xs.getD k (0, 0)).1 ≤ (xs.getD j (0, 0)).2) (by omega), Bool.and_false]
theorem col_step (xs : List (Int × Int)) (n : Nat) {ends : List Int} {tr dn : List Nat} (i : Nat) (hn : i < n) (hid : i ∉ dn)
    (hle : ∀ j ∈ dn, (xs.getD j (0, 0)).1 ≤ (xs.getD i (0, 0)).1) (hii : (xs.getD i (0, 0)).1 ≤ (xs.getD i (0, 0)).2)
    (h : Col xs n ends tr dn) : Col xs n (trackStep xs (ends, tr) i).1 (trackStep xs (ends, tr) i).2 (dn ++ [i]) := by
  obtain ⟨hl, hmem, htop, hap, p, C, hp, hC1, hC2, hC3⟩ := h
  have hil : i < tr.length := by omega
  have hne : ∀ j ∈ dn, i ≠ j := fun j hj e => hid (e ▸ hj)
  unfold trackStep
  simp only
  rcases freeFrom_spec (xs.getD i (0, 0)).1 ends 0 with ⟨f1, f2⟩ | ⟨t, f1, f2, f3, f4⟩
  · rw [if_pos f1]
    simp only
    refine ⟨by simpa using hl, fun j hj => ?_, fun u hu => ?_, fun j hj k hk hjk e => ?_, ?_⟩
    · rcases List.mem_append.1 hj with hj | hj
      · obtain ⟨m1, m2, m3⟩ := hmem j hj
        rw [getN_set_ne (hne j hj)]
        refine ⟨m1, by rw [List.length_append]; exact Nat.lt_of_lt_of_le m2 (Nat.le_add_right _ _), ?_⟩
        rw [getD_app m2]
        exact m3
      · rw [List.mem_singleton.1 hj, getN_set_self hil]
        refine ⟨hn, by simp, ?_⟩
        simp [List.getD_eq_getElem?_getD]
    · by_cases hue : u < ends.length
      · obtain ⟨j, hj, e1, e2⟩ := htop u hue
        refine ⟨j, List.mem_append_left _ hj, by rw [getN_set_ne (hne j hj)]; exact e1, ?_⟩
        rw [getD_app hue]
        exact e2
      · obtain rfl : u = ends.length := by simp at hu; omega
        refine ⟨i, by simp, getN_set_self hil, ?_⟩
        simp [List.getD_eq_getElem?_getD]
    · rcases List.mem_append.1 hj with hj | hj <;> rcases List.mem_append.1 hk with hk | hk
      · rw [getN_set_ne (hne j hj), getN_set_ne (hne k hk)] at e
        exact hap j hj k hk hjk e
      · rw [List.mem_singleton.1 hk, getN_set_ne (hne j hj), getN_set_self hil] at e
        have := (hmem j hj).2.1
        omega
      · rw [List.mem_singleton.1 hj, getN_set_ne (hne k hk), getN_set_self hil] at e
        have := (hmem k hk).2.1
        omega
      · exact absurd ((List.mem_singleton.1 hj).trans (List.mem_singleton.1 hk).symm) hjk
    · have hch : ∃ f : Nat → Nat, ∀ t, t < ends.length → f t ∈ dn ∧ tr.getD (f t) 0 = t ∧ ends.getD t 0 = (xs.getD (f t) (0, 0)).2 := by
        refine ⟨fun t => if h : t < ends.length then (htop t h).choose else 0, fun t ht => ?_⟩
        simp only [dif_pos ht]
        exact (htop t ht).choose_spec
      obtain ⟨f, hf⟩ := hch
      refine ⟨(xs.getD i (0, 0)).1, i :: (List.range ends.length).map f, .inr ⟨i, by simp, rfl⟩, List.nodup_cons.2 ⟨fun hm => ?_, ?_⟩, by simp, fun j hj => ?_⟩
      · obtain ⟨t, ht, e⟩ := List.mem_map.1 hm
        exact hid (e ▸ (hf t (List.mem_range.1 ht)).1)
      · unfold List.Nodup
        rw [List.pairwise_map]
        refine (List.nodup_range (n := ends.length)).imp_of_mem fun {a b} ha hb hab e => hab ?_
        rw [← (hf a (List.mem_range.1 ha)).2.1, ← (hf b (List.mem_range.1 hb)).2.1, e]
      · rcases List.mem_cons.1 hj with rfl | hj
        · exact ⟨by simp, Int.le_refl _, hii⟩
        · obtain ⟨t, ht, rfl⟩ := List.mem_map.1 hj
          have ht := List.mem_range.1 ht
          obtain ⟨g1, g2, g3⟩ := hf t ht
          exact ⟨List.mem_append_left _ g1, hle _ g1, by rw [← g3]; exact f2 t ht⟩
  · have hnn : ¬ freeFrom (xs.getD i (0, 0)).1 0 ends < 0 := by rw [f2]; omega
    have ht : (freeFrom (xs.getD i (0, 0)).1 0 ends).toNat = t := by rw [f2]; omega
    rw [if_neg hnn, ht]
    simp only
    have far : ∀ j ∈ dn, tr.getD j 0 = t → meetB xs j i = false := fun j hj e => by
      have := (hmem j hj).2.2
      rw [e] at this
      exact meetB_far (by omega)
    refine ⟨by simpa using hl, fun j hj => ?_, fun u hu => ?_, fun j hj k hk hjk e => ?_, ?_⟩
    · rcases List.mem_append.1 hj with hj | hj
      · obtain ⟨m1, m2, m3⟩ := hmem j hj
        rw [getN_set_ne (hne j hj)]
        refine ⟨m1, by simpa using m2, ?_⟩
        by_cases htt : t = tr.getD j 0
        · rw [← htt] at m3 ⊢
          rw [getD_set_self f1]
          omega
        · rw [getD_set_ne htt]; exact m3
      · rw [List.mem_singleton.1 hj, getN_set_self hil]
        refine ⟨hn, by simpa using f1, ?_⟩
        rw [getD_set_self f1]
        exact Int.le_refl _
    · have hu : u < ends.length := by simpa using hu
      by_cases htt : t = u
      · subst htt
        exact ⟨i, by simp, getN_set_self hil, by rw [getD_set_self f1]⟩
      · obtain ⟨j, hj, e1, e2⟩ := htop u hu
        exact ⟨j, List.mem_append_left _ hj, by rw [getN_set_ne (hne j hj)]; exact e1, by rw [getD_set_ne htt]; exact e2⟩
    · rcases List.mem_append.1 hj with hj | hj <;> rcases List.mem_append.1 hk with hk | hk
      · rw [getN_set_ne (hne j hj), getN_set_ne (hne k hk)] at e
        exact hap j hj k hk hjk e
      · rw [List.mem_singleton.1 hk, getN_set_ne (hne j hj), getN_set_self hil] at e
        rw [List.mem_singleton.1 hk]
        exact far j hj e
      · rw [List.mem_singleton.1 hj, getN_set_ne (hne k hk), getN_set_self hil] at e
        rw [List.mem_singleton.1 hj, meetB_comm]
        exact far k hk e.symm
      · exact absurd ((List.mem_singleton.1 hj).trans (List.mem_singleton.1 hk).symm) hjk
    · refine ⟨p, C, ?_, hC1, by simpa using hC2, fun j hj => ?_⟩
      · rcases hp with hp | ⟨q, hq, e⟩
        · exact .inl (by simpa using hp)
        · exact .inr ⟨q, List.mem_append_left _ hq, e⟩
      · obtain ⟨g1, g2⟩ := hC3 j hj
        exact ⟨List.mem_append_left _ g1, g2⟩
theorem col_all (xs : List (Int × Int)) (n : Nat) (hii : ∀ i, i < n → (xs.getD i (0, 0)).1 ≤ (xs.getD i (0, 0)).2) :
    ∀ (L : List Nat) (s : List Int × List Nat) (dn : List Nat), L.Pairwise (Lo (lowAt xs)) → (∀ b ∈ L, b < n ∧ b ∉ dn ∧ ∀ a ∈ dn, Lo (lowAt xs) a b) → Col xs n s.1 s.2 dn →
      Col xs n (L.foldl (trackStep xs) s).1 (L.foldl (trackStep xs) s).2 (dn ++ L)
  | [], s, dn, _, _, h => by rw [List.append_nil]; exact h
  | i :: L, s, dn, hp, hb, h => by
    obtain ⟨p1, p2⟩ := List.pairwise_cons.1 hp
    obtain ⟨b1, b2, b3⟩ := hb i List.mem_cons_self
    rw [List.foldl_cons]
    have := col_all xs n hii L (trackStep xs s i) (dn ++ [i]) p2 (fun b hb' => ?_) (col_step xs n i b1 b2 (fun j hj => ?_) (hii i b1) h)
    · rwa [List.append_assoc] at this
    · obtain ⟨c1, c2, c3⟩ := hb b (List.mem_cons_of_mem _ hb')
      have hib := p1 b hb'
      refine ⟨c1, fun hmem => ?_, fun a ha => ?_⟩
      · rcases List.mem_append.1 hmem with g | g
        · exact c2 g
        · rw [List.mem_singleton.1 g] at hib; exact hib.asymm hib
      · rcases List.mem_append.1 ha with g | g
        · exact c3 a g
        · rw [List.mem_singleton.1 g]; exact hib
    · have := b3 j hj
      unfold Lo lowAt at this
      omega
theorem col_tracks (xs : List (Int × Int)) (P : Nat) (hlo : ∀ i, i < xs.length → 0 ≤ (xs.getD i (0, 0)).1 ∧ (xs.getD i (0, 0)).1 < P) (hii : ∀ i, i < xs.length → (xs.getD i (0, 0)).1 ≤ (xs.getD i (0, 0)).2) :
    ∃ dn, Col xs xs.length (tracksOf xs).1 (tracksOf xs).2 dn ∧ ∀ j, j < xs.length → j ∈ dn := by
  obtain ⟨o1, o2⟩ := refOrd_spec (lowAt xs) xs.length P
  have h := col_all xs xs.length hii (refOrd (lowAt xs) xs.length P) ([], List.replicate xs.length 0) [] o1 (fun b hb => ⟨((o2 b).1 hb).1, by simp, fun a ha => by cases ha⟩)
    ⟨by simp, fun j hj => (by cases hj), fun t ht => absurd ht (Nat.not_lt_zero _), fun j hj => (by cases hj), 0, [], .inl rfl, List.nodup_nil, rfl, fun j hj => by cases hj⟩
  have hT : tracksOf xs = (refOrd (lowAt xs) xs.length P).foldl (trackStep xs) ([], List.replicate xs.length 0) := by
    unfold tracksOf
    rw [sort_refOrd (lowAt xs) xs.length P hlo]
  rw [← hT, List.nil_append] at h
  exact ⟨_, h, fun j hj => (o2 j).2 ⟨hj, hlo j hj⟩⟩

theorem mem_cover (xs : List (Int × Int)) (p : Int) : ∀ (k : Nat) (v : Int), v ∈ coverUp xs p k ↔ ∃ j, j < k ∧ v = (j : Int) ∧ covB xs j p = true
  | 0, v => by simp [coverUp]
  | k + 1, v => by
    unfold coverUp
    have ih := mem_cover xs p k v
    split
    · rename_i h
      rw [List.mem_append, List.mem_singleton, ih]
      constructor
      · rintro (⟨j, h1, h2, h3⟩ | rfl)
        · exact ⟨j, by omega, h2, h3⟩
        · exact ⟨k, by omega, rfl, h⟩
      · rintro ⟨j, h1, h2, h3⟩
        by_cases hj : j = k
        · subst hj; exact .inr h2
        · exact .inl ⟨j, by omega, h2, h3⟩
    · rename_i h
      rw [ih]
      constructor
      · rintro ⟨j, h1, h2, h3⟩; exact ⟨j, by omega, h2, h3⟩
      · rintro ⟨j, h1, h2, h3⟩
        refine ⟨j, ?_, h2, h3⟩
        by_cases hj : j = k
        · subst hj; exact absurd h3 h
        · omega
theorem conf_false {xs : List (Int × Int)} {ts : List Int} {n : Nat} : conf xs ts n = false ↔ ∀ i k, i < n → k < n → i ≠ k → ts.getD i 0 = ts.getD k 0 → meetB xs i k = false := by
  rw [conf_hit, ← Bool.not_eq_true, allHit_iff]
  constructor
  · intro h i k hi hk hik e
    cases hm : meetB xs i k with
    | false => rfl
    | true =>
      exfalso
      rcases Nat.lt_or_gt_of_ne hik with hlt | hlt
      · exact h ⟨k, i, hlt, hk, by rw [meetB_comm, hm, e, beq_self_eq_true]; rfl⟩
      · exact h ⟨i, k, hlt, hi, by rw [hm, e, beq_self_eq_true]; rfl⟩
  · rintro h ⟨i, k, hk, hi, hc⟩
    rw [Bool.and_eq_true, beq_iff_eq] at hc
    rw [h i k hi (by omega) (by omega) hc.1] at hc
    cases hc.2
section
variable {nets : List (Int × List Int)} {n : Int} {order : List Int}
theorem ext_bd (hE : Bus.bothErr nets n order = 0) (i : Nat) (hi : i < nets.length) : 0 ≤ ((extsOf nets order).getD i (0, 0)).1 ∧ ((extsOf nets order).getD i (0, 0)).1 ≤ ((extsOf nets order).getD i (0, 0)).2 ∧ ((extsOf nets order).getD i (0, 0)).2 < order.length := by
  obtain ⟨h1, h2, h3, h4⟩ := ext_at hE i hi
  rw [h1]; exact ⟨h2, h3, h4⟩
theorem low_conf (hE : Bus.bothErr nets n order = 0) : conf (extsOf nets order) (toI (tracksOf (extsOf nets order)).2) nets.length = false ∧
    (∀ t ∈ toI (tracksOf (extsOf nets order)).2, 0 ≤ t ∧ t < nets.length) ∧
    (toI (tracksOf (extsOf nets order)).2).length = nets.length ∧ cntUp (toI (tracksOf (extsOf nets order)).2) nets.length = (tracksOf (extsOf nets order)).1.length ∧
    ∃ p : Nat, p < order.length ∧ (tracksOf (extsOf nets order)).1.length ≤ (coverUp (extsOf nets order) (p : Int) (extsOf nets order).length).length := by
  have hl := extsOf_len nets order
  obtain ⟨t1, t2⟩ := tracks_fact hE
  have hpos : 0 < order.length := by
    have h1 := (Bus.orderErr_zero (both_iff.1 hE).2).1
    have h2 := (Bus.netsErr_zero (both_iff.1 hE).1).1
    omega
  obtain ⟨dn, hC, hall⟩ := col_tracks (extsOf nets order) order.length (fun i hi => by have := ext_bd hE i (by omega); omega) (fun i hi => (ext_bd hE i (by omega)).2.1)
  rw [hl] at hC hall
  have hlen : (toI (tracksOf (extsOf nets order)).2).length = nets.length := by rw [List.length_map, hC.len]
  rw [t1] at t2
  have hfew : (tracksOf (extsOf nets order)).1.length ≤ nets.length := by
    rw [← t2]
    obtain ⟨D, d1, d2, d3⟩ := cnt_spec (toI (tracksOf (extsOf nets order)).2) nets.length (by omega)
    have := nodup_le d1 fun v hv => (d3 v).1 hv
    rw [List.length_take] at this
    omega
  refine ⟨conf_false.2 fun i k hi hk hik e => ?_, fun t ht => ?_, hlen, t2, ?_⟩
  · rw [map_getD, map_getD] at e
    exact hC.apart i (hall i hi) k (hall k hk) hik (by omega)
  · obtain ⟨x, hx, rfl⟩ := List.mem_map.1 ht
    obtain ⟨j, hj, rfl⟩ := List.mem_iff_getElem.1 hx
    have := (hC.mem j (hall j (by rw [← hC.len]; exact hj))).2.1
    rw [List.getD_eq_getElem?_getD, List.getElem?_eq_getElem hj] at this
    simp only [Option.getD_some] at this
    omega
  · obtain ⟨p, C, hp, c1, c2, c3⟩ := hC.full
    have key : ∀ q : Nat, (q : Int) = p → (tracksOf (extsOf nets order)).1.length ≤ (coverUp (extsOf nets order) (q : Int) (extsOf nets order).length).length := fun q hq => by
      rw [← c2]
      have e : C.length = (C.map fun (x : Nat) => (x : Int)).length := by simp
      rw [e]
      refine nodup_le ?_ fun v hv => ?_
      · unfold List.Nodup
        rw [List.pairwise_map]
        exact c1.imp fun h e => h (Int.ofNat.inj e)
      · obtain ⟨j, hj, rfl⟩ := List.mem_map.1 hv
        obtain ⟨g1, g2, g3⟩ := c3 j hj
        refine (mem_cover _ _ _ _).2 ⟨j, by have := (hC.mem j g1).1; omega, rfl, ?_⟩
        unfold covB
        rw [Bool.and_eq_true, decide_eq_true_eq, decide_eq_true_eq]
        omega
    rcases hp with hp | ⟨i, hi, rfl⟩
    · exact ⟨0, hpos, by rw [hp]; exact Nat.zero_le _⟩
    · have := ext_bd hE i (hC.mem i hi).1
      refine ⟨((extsOf nets order).getD i (0, 0)).1.toNat, by omega, key _ (by omega)⟩
theorem low_lay (hE : Bus.bothErr nets n order = 0) : layErr nets n order (toI (tracksOf (extsOf nets order)).2) = 0 := by
  obtain ⟨h1, h2, h3, _⟩ := low_conf hE
  have h64 := (Bus.netsErr_zero (both_iff.1 hE).1).2.2.1
  unfold layErr
  have hf : ¬ farB (toI (tracksOf (extsOf nets order)).2) = true := fun h => by
    unfold farB at h
    rw [List.any_eq_true] at h
    obtain ⟨t, ht, h⟩ := h
    have := h2 t ht
    rw [Bool.or_eq_true, decide_eq_true_eq, decide_eq_true_eq] at h
    omega
  have hc : ¬ conf (extsOf nets order) (toI (tracksOf (extsOf nets order)).2) nets.length = true := by rw [h1]; exact Bool.false_ne_true
  rw [if_neg (fun h => h hE), if_neg (fun h => h h3), if_neg hf, if_neg hc]
theorem lay_zero {ts : List Int} (hE : Bus.bothErr nets n order = 0) (h : layErr nets n order ts = 0) : ts.length = nets.length ∧ (∀ t ∈ ts, 0 ≤ t ∧ t < 64) ∧ conf (extsOf nets order) ts nets.length = false := by
  unfold layErr at h
  rw [if_neg (fun g => g hE)] at h
  by_cases h1 : ts.length ≠ nets.length
  · rw [if_pos h1] at h; cases h
  · rw [if_neg h1] at h
    by_cases h2 : farB ts = true
    · rw [if_pos h2] at h; cases h
    · rw [if_neg h2] at h
      by_cases h3 : conf (extsOf nets order) ts nets.length = true
      · rw [if_pos h3] at h; cases h
      · refine ⟨Classical.not_not.1 h1, fun t ht => ?_, by simpa using h3⟩
        unfold farB at h2
        rw [List.any_eq_true] at h2
        by_cases hh : 0 ≤ t ∧ t < 64
        · exact hh
        · exact absurd ⟨t, ht, by rw [Bool.or_eq_true, decide_eq_true_eq, decide_eq_true_eq]; omega⟩ h2
theorem orderFrom_ok (N : Int) : ∀ (l seen : List Int), (∀ c ∈ l, 0 ≤ c ∧ c < N ∧ c ∉ seen) → l.Nodup → Bus.orderFrom N seen l = 0
  | [], _, _, _ => rfl
  | c :: r, seen, h, hn => by
    obtain ⟨h1, h2, h3⟩ := h c List.mem_cons_self
    obtain ⟨n1, n2⟩ := List.nodup_cons.1 hn
    unfold Bus.orderFrom
    rw [if_neg (by omega), if_neg h3]
    refine orderFrom_ok N r (seen ++ [c]) (fun d hd => ?_) n2
    obtain ⟨g1, g2, g3⟩ := h d (List.mem_cons_of_mem _ hd)
    refine ⟨g1, g2, fun hm => ?_⟩
    rcases List.mem_append.1 hm with g | g
    · exact g3 g
    · rw [List.mem_singleton.1 g] at hd; exact n1 hd
end
end Go.Proofs.YtbldpojkpmafpaaGreatDoor

/- Package bus and its reference: CheckLayout, CheckClique, Width as contracts on plain data. -/
namespace Go.Proofs.YtbldpojkpmafpaaGreatDoor
open Go.RowKit Sv
set_option maxRecDepth 100000
set_option linter.unusedVariables false
noncomputable section
abbrev yv (a b : List Int) : AV := .agg [lv a, lv b]
end
end Go.Proofs.YtbldpojkpmafpaaGreatDoor

/- Package bus: Crossings of a layout that the check passes. -/
namespace Go.Proofs.YtbldpojkpmafpaaGreatDoor
open Go.RowKit

theorem col_few (n : Int) : ∀ (cs : List Int) (last : Int), last < n → Bus.colErr n last cs = 0 → (cs.length : Int) ≤ n - 1 - last
  | [], last, h, _ => by simp; omega
  | c :: r, last, h, he => by
    unfold Bus.colErr at he
    split at he
    · cases he
    · split at he
      · cases he
      · rename_i h1 h2
        have := col_few n r c (by omega) he
        simp; omega
theorem nets_few (n : Int) (hn : 1 ≤ n) : ∀ (l : List Bus.Net) (seen : List Int), Bus.netsFrom n seen l = 0 → ∀ x ∈ l, (x.2.length : Int) ≤ n
  | [], _, _ => by intro x hx; cases hx
  | x :: r, seen, h => by
    unfold Bus.netsFrom at h
    split at h
    · cases h
    · split at h
      · cases h
      · split at h
        · cases h
        · split at h
          · exact absurd h (by assumption)
          · intro y hy
            rcases List.mem_cons.1 hy with rfl | hy
            · have := col_few n y.2 (-1) (by omega) (by rename_i h4; exact Classical.not_not.1 h4)
              omega
            · exact nets_few n hn r _ h y hy
theorem cnt_bd (M : Nat) : ∀ (ls : List (List Int)), (∀ x ∈ ls, x.length ≤ M) → cntTo ls ls.length ≤ ls.length * M
  | [], _ => by simp [cntTo]
  | c :: r, h => by
    have h1 := h c List.mem_cons_self
    have h2 := cnt_bd M r fun x hx => h x (List.mem_cons_of_mem _ hx)
    show c.length + cntTo r r.length ≤ (r.length + 1) * M
    rw [Nat.add_mul, Nat.one_mul]; omega
theorem taps_few {l : List NetAt} {n : Int} (h : Bus.netsErr (l.map NetAt.net) n = 0) (Fp : Nat → Int) : (tapFrom Fp 0 (l.map NetAt.cols)).length ≤ 6208 := by
  obtain ⟨n1, n97, l64, _⟩ := Bus.netsErr_zero h
  have hf : Bus.netsFrom n [] (l.map NetAt.net) = 0 := by
    unfold Bus.netsErr at h
    rw [if_neg (by omega), if_neg (by omega)] at h
    exact h
  have hc : ∀ x ∈ l.map NetAt.cols, x.length ≤ 97 := fun x hx => by
    obtain ⟨y, hy, rfl⟩ := List.mem_map.1 hx
    have := nets_few n n1 _ [] hf y.net (List.mem_map_of_mem hy)
    have e : y.net.2 = y.cols := rfl
    rw [e] at this
    omega
  have := cnt_bd 97 (l.map NetAt.cols) hc
  rw [tap_len]
  rw [List.length_map] at this l64 ⊢
  omega

def crossOf (nets : List Bus.Net) (order ts : List Int) (most : Int) : Int :=
  (crossRun (tapF (Bus.exts (Bus.atUp order order.length) nets) ts (tapFrom (Bus.atUp order order.length) 0 (nets.map Prod.snd))) most 0 (List.range (tapFrom (Bus.atUp order order.length) 0 (nets.map Prod.snd)).length)).1

end Go.Proofs.YtbldpojkpmafpaaGreatDoor

/- Package bus: Crossings and Extents as contracts on plain data. -/
namespace Go.Proofs.YtbldpojkpmafpaaGreatDoor
open Go.RowKit Sv
set_option maxRecDepth 100000
set_option linter.unusedVariables false
noncomputable section
abbrev tP : Ty := .pair (.int .i64) (.int .i64)
abbrev pv (l : List (Int × Int)) : AV := .lst false tP l
theorem pairs_den {ρ : Env} : ∀ (xs : List (Int × Int)), Dens ρ (Ty.flat tP xs) (xcells xs)
  | [] => .nil
  | x :: r => by
    have e : Ty.flat tP (x :: r) = .raw (.int .i64 x.1) :: .raw (.int .i64 x.2) :: Ty.flat tP r := rfl
    rw [e]
    exact .cons (.raw _) (.cons (.raw _) (pairs_den r))
end
noncomputable section
end
end Go.Proofs.YtbldpojkpmafpaaGreatDoor
