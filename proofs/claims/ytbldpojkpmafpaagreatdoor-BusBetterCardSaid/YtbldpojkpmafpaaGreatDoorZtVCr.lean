/- Package bus: Tracks, Clique as contracts on plain data. -/
import Derived.Test.YtbldpojkpmafpaaGreatDoorZtBusTracks0
import Derived.Test.YtbldpojkpmafpaaGreatDoorZtBusRefNets
import Derived.Test.YtbldpojkpmafpaaGreatDoorZtBusTap1
import Derived.Test.YtbldpojkpmafpaaGreatDoorZtBusOwn
import Derived.Deep.RegionWith
namespace Go.Proofs.YtbldpojkpmafpaaGreatDoor
open Go.RowKit Sv
set_option maxRecDepth 100000
set_option linter.unusedVariables false
noncomputable section
theorem holds_row {f : FuncId} {args : List AV} {l : List Int} {a b : Int} (h : ∀ (w : World) (F : Env) (xs : List Value), OkF w F → Dens F args xs → Calls Tryz.prog f xs.toArray w fun e w' =>
      ∃ A c, e = .returned (.tuple #[.slice A l.length c, .int .i64 a, .int .i64 b]) ∧ Row w' w'.heap.size A (l.map (Value.int .i64)) ∧ (l = [] ∨ FreshA w.heap.size A) ∧ l.length ≤ c ∧ Below w.heap.size w w') :
    Holds Tryz.prog true f args (.tuple [lv l, iv a, iv b]) := fun w F xs hF hd =>
  (h w F xs hF hd).mono fun e w' ⟨A, c, h1, h2, h3, h4, h5⟩ => by
    have hd := ints_den (n0 := w.heap.size) (at' := F.at') h2 h3 h4
    refine ⟨_, _, h1, .tuple (.cons hd (.cons (.raw _) (.cons (.raw _) .nil))), ⟨hF.glob, hF.all, fun b A hb => ?_⟩, fun b A hb => .inr ?_, h5⟩
    · have hb : (if w.heap.size ≤ b then cellsOf? w' b else none) = some A := hb
      split at hb
      · exact cellsOf?_some.1 hb
      · cases hb
    · have hb : (if w.heap.size ≤ b then cellsOf? w' b else none) = some A := hb
      split at hb
      · assumption
      · cases hb
theorem track_len (xs : List (Int × Int)) : ∀ (L : List Nat) (s : List Int × List Nat), (L.foldl (trackStep xs) s).2.length = s.2.length
  | [], s => rfl
  | i :: L, s => by
    rw [List.foldl_cons, track_len xs L]
    unfold trackStep
    simp only
    split <;> simp
theorem tracksOf_len (xs : List (Int × Int)) : (tracksOf xs).2.length = xs.length := by
  unfold tracksOf
  rw [track_len]; simp
abbrev extsOf (nets : List (Int × List Int)) (order : List Int) : List (Int × Int) := Bus.exts (Bus.atUp order order.length) nets
def trkB (nets : List (Int × List Int)) (n : Int) (order : List Int) : List Int × Int × Int :=
  if Bus.bothErr nets n order = 0 then (toI (tracksOf (extsOf nets order)).2, (((tracksOf (extsOf nets order)).1.length : Nat) : Int), 0) else ([], 0, Bus.bothErr nets n order)
def okBus (nets : List (Int × List Int)) (n : Int) (order : List Int) : Bool :=
  goodB nets && (decide (nets.length ≤ 70) && (decide (order.length ≤ 1000) && (order.all (fun c => decide (I64 c)) && (decide (Bus.bothErr nets n order ≠ 0) || decide (nets.length < 20)))))
noncomputable def cTracksB : Ctr := { f := 24, ps := [.list false tN, .int .i64, .list false (.int .i64)], rs := [.list false (.int .i64), .int .i64, .int .i64], fresh := true, pre := fun d => okBus d.1 d.2.1 d.2.2.1, fn := fun d => ((trkB d.1 d.2.1 d.2.2.1).1, ((trkB d.1 d.2.1 d.2.2.1).2.1, ((trkB d.1 d.2.1 d.2.2.1).2.2, ()))) }
theorem okBus_iff {nets : List (Int × List Int)} {n : Int} {order : List Int} (h : okBus nets n order = true) :
    GoodNets nets ∧ nets.length ≤ 70 ∧ order.length ≤ 1000 ∧ (∀ c ∈ order, I64 c) ∧ (Bus.bothErr nets n order = 0 → nets.length < 20) := by
  unfold okBus at h
  simp only [Bool.and_eq_true, Bool.or_eq_true, decide_eq_true_eq, List.all_eq_true] at h
  obtain ⟨h1, h2, h3, h4, h5⟩ := h
  exact ⟨goodB_iff.1 h1, h2, h3, h4, fun e => h5.resolve_left fun g => g e⟩
theorem dens_bus {F : Env} {w : World} {nets : List (Int × List Int)} {n : Int} {order : List Int} {xs : List Value} (hF : OkF w F) (hg : GoodNets nets) (hd : Dens F [nv nets, iv n, lv order] xs) :
    ∃ (A A2 : Option Addr) (c c2 : Nat) (l : List NetAt), xs = [.slice A l.length c, .int .i64 n, .slice A2 order.length c2] ∧ l.map NetAt.net = nets ∧ NetsIn w w.heap.size A l ∧ Row w w.heap.size A2 (order.map (Value.int .i64)) := by
  cases hd with
  | cons d1 d2 =>
    cases d2 with
    | cons d2 d3 =>
      cases d3 with
      | cons d3 d4 =>
        cases d4
        obtain ⟨A, c, l, rfl, h1, h2⟩ := den_nets hF hg d1
        obtain ⟨A2, c2, rfl, _, h3⟩ := den_ints hF d3
        exact ⟨A, A2, c, c2, l, by rw [d2.raw_eq], h1, h2, h3⟩
theorem tracksB_holds (nets : List (Int × List Int)) (n : Int) (order : List Int) (h : okBus nets n order = true) : Holds Tryz.prog true 24 [nv nets, iv n, lv order] (.tuple [lv (trkB nets n order).1, iv (trkB nets n order).2.1, iv (trkB nets n order).2.2]) := by
  obtain ⟨h1, h2, h3, h4, h5⟩ := okBus_iff h
  refine holds_row fun w F xs hF hd => ?_
  obtain ⟨A, A2, c, c2, l, rfl, hl, hN, hR⟩ := dens_bus hF h1 hd
  have hll : l.length = nets.length := by rw [← hl, List.length_map]
  by_cases hE : Bus.bothErr nets n order = 0
  · have e : trkB nets n order = (toI (tracksOf (extsOf nets order)).2, (((tracksOf (extsOf nets order)).1.length : Nat) : Int), 0) := by unfold trkB; rw [if_pos hE]
    rw [e]
    have := h5 hE
    refine (Tracks_any A A2 c c2 w.heap.size l order n w hN hR h4 (Nat.le_refl _) (by omega) (by rw [hl]; exact hE) (by omega)).mono fun e w' ⟨Ao, co, g1, g2, g3, g4, g5⟩ => ?_
    rw [hl] at g1 g2 g4 g5
    have hlen : (toI (tracksOf (extsOf nets order)).2).length = (extsOf nets order).length := by rw [List.length_map]; exact tracksOf_len _
    refine ⟨Ao, co, by rw [g1]; simp only [hlen], ?_, ?_, by simp only [hlen]; exact g5, g3⟩
    · rw [List.map_map]; exact g2
    · rcases g4 with g4 | g4
      · exact .inl (List.length_eq_zero_iff.1 (by simp only [g4]; rfl))
      · exact .inr g4
  · have e : trkB nets n order = ([], 0, Bus.bothErr nets n order) := by unfold trkB; rw [if_neg hE]
    rw [e]
    refine (Tracks_bad A A2 c c2 w.heap.size l order n w hN hR h4 (Nat.le_refl _) (by omega) (by omega) (Bus.bothErr nets n order) (by rw [hl]) hE).mono fun e w' ⟨g1, g2⟩ => ?_
    exact ⟨none, 0, g1, .inl rfl, .inl rfl, Nat.le_refl _, g2⟩
theorem cTracksB_ok : cTracksB.Ok Tryz.prog := fun ⟨nets, n, order, _⟩ h => tracksB_holds nets n order h
end
end Go.Proofs.YtbldpojkpmafpaaGreatDoor

/- integraphlaw07.awake: it returns true in every world, and leaves what lay there: the kernel runs it. -/
namespace Go.Proofs.YtbldpojkpmafpaaGreatDoor
open Go.RowKit Sv

set_option maxRecDepth 1000000
theorem awake_runs : okv (acall Tryz.prog (acode Tryz.prog (sdraw Tryz.prog noS) 400) 8 [] H64) = true := by kernel_rfl
theorem awake_calls (w : World) : Calls Tryz.prog 8 #[] w fun e w' => e = .returned (.bool true) ∧ Below w.heap.size w w' := opened known mixed 400 awake_runs w
end Go.Proofs.YtbldpojkpmafpaaGreatDoor

/- Of integraphlaw07: what the laws share: awake; facts on plain data. -/
namespace Go.Proofs.YtbldpojkpmafpaaGreatDoor
open Go.RowKit Sv
set_option maxRecDepth 100000
set_option linter.unusedVariables false
noncomputable section
noncomputable def cAwake : Ctr := { f := 8, ps := [], rs := [.bool], fresh := true, pre := fun _ => true, fn := fun _ => (true, ()) }
--{
theorem cAwake_ok : cAwake.Ok Tryz.prog := fun _ _ => holds_raw fun w F xs hF hd => by
  cases hd
  exact awake_calls w
def mkNets (nets : List (Int × List Int)) : List NetAt := nets.map fun x => ⟨x.1, x.2, none, 0⟩
theorem mkNets_net (nets : List (Int × List Int)) : (mkNets nets).map NetAt.net = nets := by
  unfold mkNets
  rw [List.map_map]
  exact List.map_id _
theorem ext_at {nets : List (Int × List Int)} {n : Int} {order : List Int} (hE : Bus.bothErr nets n order = 0) (i : Nat) (hi : i < nets.length) :
    (extsOf nets order).getD i (0, 0) = refExt order (nets.getD i (0, [])).2 ∧ 0 ≤ (refExt order (nets.getD i (0, [])).2).1 ∧ (refExt order (nets.getD i (0, [])).2).1 ≤ (refExt order (nets.getD i (0, [])).2).2 ∧ (refExt order (nets.getD i (0, [])).2).2 < order.length := by
  have h := valid_ext (l := mkNets nets) (n := n) (order := order) (by rw [mkNets_net]; exact hE) i (by unfold mkNets; simpa using hi)
  have e : ((mkNets nets).map NetAt.cols).getD i [] = (nets.getD i (0, [])).2 := by
    unfold mkNets
    simp only [List.getD_eq_getElem?_getD, List.getElem?_map, List.getElem?_eq_getElem hi, Option.map_some, Option.getD_some]
  rw [mkNets_net, e] at h
  exact h
theorem refOrd_congr {K K' : Nat → Int} {n : Nat} (h : ∀ i, i < n → K i = K' i) : ∀ p, refOrd K n p = refOrd K' n p
  | 0 => rfl
  | p + 1 => by
    unfold refOrd
    rw [refOrd_congr h p]
    congr 1
    refine List.filter_congr fun i hi => ?_
    rw [h i (List.mem_range.1 hi)]
theorem extsOf_len (nets : List (Int × List Int)) (order : List Int) : (extsOf nets order).length = nets.length := by simp [Bus.exts]
theorem both_iff {nets : List (Int × List Int)} {n : Int} {order : List Int} : Bus.bothErr nets n order = 0 ↔ Bus.netsErr nets n = 0 ∧ Bus.orderErr order n = 0 := by
  unfold Bus.bothErr
  split
  · rename_i h; exact ⟨fun e => absurd e h, fun e => absurd e.1 h⟩
  · rename_i h; exact ⟨fun e => ⟨Classical.not_not.1 h, e⟩, fun e => e.2⟩
theorem tracks_fact {nets : List (Int × List Int)} {n : Int} {order : List Int} (hE : Bus.bothErr nets n order = 0) :
    (rI nets order order.length 0).1 = toI (tracksOf (extsOf nets order)).2 ∧ cntUp (rI nets order order.length 0).1 nets.length = (tracksOf (extsOf nets order)).1.length := by
  have hl := extsOf_len nets order
  have h := tracks_same (extsOf nets order) (mtR nets order) order.length (fun i hi => ?_) (fun i hi => ?_) (fun j i hj hi => ?_)
  · have e : rI nets order order.length 0 = (refOrd (lowAt (extsOf nets order)) (extsOf nets order).length order.length).foldl (refStep (mtR nets order)) (List.replicate (extsOf nets order).length 0, []) := by
      unfold rI
      rw [hl, refOrd_congr (K' := lowAt (extsOf nets order)) fun i hi => ?_]
      · simp
      · unfold lowAt lowR
        rw [(ext_at hE i hi).1]; rfl
    rw [e]
    rw [hl] at h ⊢
    exact h
  · obtain ⟨h1, h2, h3, h4⟩ := ext_at hE i (by omega)
    rw [h1]; exact ⟨h2, by omega⟩
  · obtain ⟨h1, h2, h3, h4⟩ := ext_at hE i (by omega)
    rw [h1]; exact h3
  · obtain ⟨h1, h2, h3, h4⟩ := ext_at hE i (by omega)
    obtain ⟨g1, g2, g3, g4⟩ := ext_at hE j (by omega)
    rw [h1, g1]
    exact meetFrom_eq _ _ _ ⟨g2, g3, g4⟩ ⟨h2, h3, h4⟩
--}
end
end Go.Proofs.YtbldpojkpmafpaaGreatDoor

/- Package bus, plain: the tracks are a layout, as many as the nets of the clique; any layout has at least so many. -/
namespace Go.Proofs.YtbldpojkpmafpaaGreatDoor
open Go.RowKit Sv
set_option linter.unusedVariables false

structure Col (xs : List (Int × Int)) (n : Nat) (ends : List Int) (tr dn : List Nat) : Prop where
  len : tr.length = n
  mem : ∀ j ∈ dn, j < n ∧ tr.getD j 0 < ends.length ∧ (xs.getD j (0, 0)).2 ≤ ends.getD (tr.getD j 0) 0
  top : ∀ t, t < ends.length → ∃ j ∈ dn, tr.getD j 0 = t ∧ ends.getD t 0 = (xs.getD j (0, 0)).2
  apart : ∀ j ∈ dn, ∀ k ∈ dn, j ≠ k → tr.getD j 0 = tr.getD k 0 → meetB xs j k = false
  full : ∃ (p : Int) (C : List Nat), (ends.length = 0 ∨ ∃ i ∈ dn, p = (xs.getD i (0, 0)).1) ∧ C.Nodup ∧ C.length = ends.length ∧ ∀ j ∈ C, j ∈ dn ∧ (xs.getD j (0, 0)).1 ≤ p ∧ p ≤ (xs.getD j (0, 0)).2
theorem meetB_comm (xs : List (Int × Int)) (j k : Nat) : meetB xs j k = meetB xs k j := by
  unfold meetB
  rw [Bool.and_comm]
theorem meetB_far {xs : List (Int × Int)} {j k : Nat} (h : (xs.getD j (0, 0)).2 < (xs.getD k (0, 0)).1) : meetB xs j k = false := by
  unfold meetB
  rw [decide_eq_false (p := (xs.getD k (0, 0)).1 ≤ (xs.getD j (0, 0)).2) (by omega), Bool.and_false]
theorem col_step (xs : List (Int × Int)) (n : Nat) {ends : List Int} {tr dn : List Nat} (i : Nat) (hn : i < n) (hid : i ∉ dn)
    (hle : ∀ j ∈ dn, (xs.getD j (0, 0)).1 ≤ (xs.getD i (0, 0)).1) (hii : (xs.getD i (0, 0)).1 ≤ (xs.getD i (0, 0)).2)
    (h : Col xs n ends tr dn) : Col xs n (trackStep xs (ends, tr) i).1 (trackStep xs (ends, tr) i).2 (dn ++ [i]) := by
  obtain ⟨hl, hmem, htop, hap, p, C, hp, hC1, hC2, hC3⟩ := h
  have hil : i < tr.length := by omega
  have hne : ∀ j ∈ dn, i ≠ j := fun j hj e => hid (e ▸ hj)
  unfold trackStep
  simp only
  rcases freeFrom_spec (xs.getD i (0, 0)).1 ends 0 with ⟨f1, f2⟩ | ⟨t, f1, f2, f3, f4⟩
  · rw [if_pos f1]
    simp only
    refine ⟨by simpa using hl, fun j hj => ?_, fun u hu => ?_, fun j hj k hk hjk e => ?_, ?_⟩
    · rcases List.mem_append.1 hj with hj | hj
      · obtain ⟨m1, m2, m3⟩ := hmem j hj
        rw [getN_set_ne (hne j hj)]
        refine ⟨m1, by rw [List.length_append]; exact Nat.lt_of_lt_of_le m2 (Nat.le_add_right _ _), ?_⟩
        rw [getD_app m2]
        exact m3
      · rw [List.mem_singleton.1 hj, getN_set_self hil]
        refine ⟨hn, by simp, ?_⟩
        simp [List.getD_eq_getElem?_getD]
    · by_cases hue : u < ends.length
      · obtain ⟨j, hj, e1, e2⟩ := htop u hue
        refine ⟨j, List.mem_append_left _ hj, by rw [getN_set_ne (hne j hj)]; exact e1, ?_⟩
        rw [getD_app hue]
        exact e2
      · obtain rfl : u = ends.length := by simp at hu; omega
        refine ⟨i, by simp, getN_set_self hil, ?_⟩
        simp [List.getD_eq_getElem?_getD]
    · rcases List.mem_append.1 hj with hj | hj <;> rcases List.mem_append.1 hk with hk | hk
      · rw [getN_set_ne (hne j hj), getN_set_ne (hne k hk)] at e
        exact hap j hj k hk hjk e
      · rw [List.mem_singleton.1 hk, getN_set_ne (hne j hj), getN_set_self hil] at e
        have := (hmem j hj).2.1
        omega
      · rw [List.mem_singleton.1 hj, getN_set_ne (hne k hk), getN_set_self hil] at e
        have := (hmem k hk).2.1
        omega
      · exact absurd ((List.mem_singleton.1 hj).trans (List.mem_singleton.1 hk).symm) hjk
    · have hch : ∃ f : Nat → Nat, ∀ t, t < ends.length → f t ∈ dn ∧ tr.getD (f t) 0 = t ∧ ends.getD t 0 = (xs.getD (f t) (0, 0)).2 := by
        refine ⟨fun t => if h : t < ends.length then (htop t h).choose else 0, fun t ht => ?_⟩
        simp only [dif_pos ht]
        exact (htop t ht).choose_spec
      obtain ⟨f, hf⟩ := hch
      refine ⟨(xs.getD i (0, 0)).1, i :: (List.range ends.length).map f, .inr ⟨i, by simp, rfl⟩, List.nodup_cons.2 ⟨fun hm => ?_, ?_⟩, by simp, fun j hj => ?_⟩
      · obtain ⟨t, ht, e⟩ := List.mem_map.1 hm
        exact hid (e ▸ (hf t (List.mem_range.1 ht)).1)
      · unfold List.Nodup
        rw [List.pairwise_map]
        refine (List.nodup_range (n := ends.length)).imp_of_mem fun {a b} ha hb hab e => hab ?_
        rw [← (hf a (List.mem_range.1 ha)).2.1, ← (hf b (List.mem_range.1 hb)).2.1, e]
      · rcases List.mem_cons.1 hj with rfl | hj
        · exact ⟨by simp, Int.le_refl _, hii⟩
        · obtain ⟨t, ht, rfl⟩ := List.mem_map.1 hj
          have ht := List.mem_range.1 ht
          obtain ⟨g1, g2, g3⟩ := hf t ht
          exact ⟨List.mem_append_left _ g1, hle _ g1, by rw [← g3]; exact f2 t ht⟩
  · have hnn : ¬ freeFrom (xs.getD i (0, 0)).1 0 ends < 0 := by rw [f2]; omega
    have ht : (freeFrom (xs.getD i (0, 0)).1 0 ends).toNat = t := by rw [f2]; omega
    rw [if_neg hnn, ht]
    simp only
    have far : ∀ j ∈ dn, tr.getD j 0 = t → meetB xs j i = false := fun j hj e => by
      have := (hmem j hj).2.2
      rw [e] at this
      exact meetB_far (by omega)
    refine ⟨by simpa using hl, fun j hj => ?_, fun u hu => ?_, fun j hj k hk hjk e => ?_, ?_⟩
    · rcases List.mem_append.1 hj with hj | hj
      · obtain ⟨m1, m2, m3⟩ := hmem j hj
        rw [getN_set_ne (hne j hj)]
        refine ⟨m1, by simpa using m2, ?_⟩
        by_cases htt : t = tr.getD j 0
        · rw [← htt] at m3 ⊢
          rw [getD_set_self f1]
          omega
        · rw [getD_set_ne htt]; exact m3
      · rw [List.mem_singleton.1 hj, getN_set_self hil]
        refine ⟨hn, by simpa using f1, ?_⟩
        rw [getD_set_self f1]
        exact Int.le_refl _
    · have hu : u < ends.length := by simpa using hu
      by_cases htt : t = u
      · subst htt
        exact ⟨i, by simp, getN_set_self hil, by rw [getD_set_self f1]⟩
      · obtain ⟨j, hj, e1, e2⟩ := htop u hu
        exact ⟨j, List.mem_append_left _ hj, by rw [getN_set_ne (hne j hj)]; exact e1, by rw [getD_set_ne htt]; exact e2⟩
    · rcases List.mem_append.1 hj with hj | hj <;> rcases List.mem_append.1 hk with hk | hk
      · rw [getN_set_ne (hne j hj), getN_set_ne (hne k hk)] at e
        exact hap j hj k hk hjk e
      · rw [List.mem_singleton.1 hk, getN_set_ne (hne j hj), getN_set_self hil] at e
        rw [List.mem_singleton.1 hk]
        exact far j hj e
      · rw [List.mem_singleton.1 hj, getN_set_ne (hne k hk), getN_set_self hil] at e
        rw [List.mem_singleton.1 hj, meetB_comm]
        exact far k hk e.symm
      · exact absurd ((List.mem_singleton.1 hj).trans (List.mem_singleton.1 hk).symm) hjk
    · refine ⟨p, C, ?_, hC1, by simpa using hC2, fun j hj => ?_⟩
      · rcases hp with hp | ⟨q, hq, e⟩
        · exact .inl (by simpa using hp)
        · exact .inr ⟨q, List.mem_append_left _ hq, e⟩
      · obtain ⟨g1, g2⟩ := hC3 j hj
        exact ⟨List.mem_append_left _ g1, g2⟩
theorem col_all (xs : List (Int × Int)) (n : Nat) (hii : ∀ i, i < n → (xs.getD i (0, 0)).1 ≤ (xs.getD i (0, 0)).2) :
    ∀ (L : List Nat) (s : List Int × List Nat) (dn : List Nat), L.Pairwise (Lo (lowAt xs)) → (∀ b ∈ L, b < n ∧ b ∉ dn ∧ ∀ a ∈ dn, Lo (lowAt xs) a b) → Col xs n s.1 s.2 dn →
      Col xs n (L.foldl (trackStep xs) s).1 (L.foldl (trackStep xs) s).2 (dn ++ L)
  | [], s, dn, _, _, h => by rw [List.append_nil]; exact h
  | i :: L, s, dn, hp, hb, h => by
    obtain ⟨p1, p2⟩ := List.pairwise_cons.1 hp
    obtain ⟨b1, b2, b3⟩ := hb i List.mem_cons_self
    rw [List.foldl_cons]
    have := col_all xs n hii L (trackStep xs s i) (dn ++ [i]) p2 (fun b hb' => ?_) (col_step xs n i b1 b2 (fun j hj => ?_) (hii i b1) h)
    · rwa [List.append_assoc] at this
    · obtain ⟨c1, c2, c3⟩ := hb b (List.mem_cons_of_mem _ hb')
      have hib := p1 b hb'
      refine ⟨c1, fun hmem => ?_, fun a ha => ?_⟩
      · rcases List.mem_append.1 hmem with g | g
        · exact c2 g
        · rw [List.mem_singleton.1 g] at hib; exact hib.asymm hib
      · rcases List.mem_append.1 ha with g | g
        · exact c3 a g
        · rw [List.mem_singleton.1 g]; exact hib
    · have := b3 j hj
      unfold Lo lowAt at this
      omega
theorem col_tracks (xs : List (Int × Int)) (P : Nat) (hlo : ∀ i, i < xs.length → 0 ≤ (xs.getD i (0, 0)).1 ∧ (xs.getD i (0, 0)).1 < P) (hii : ∀ i, i < xs.length → (xs.getD i (0, 0)).1 ≤ (xs.getD i (0, 0)).2) :
    ∃ dn, Col xs xs.length (tracksOf xs).1 (tracksOf xs).2 dn ∧ ∀ j, j < xs.length → j ∈ dn := by
  obtain ⟨o1, o2⟩ := refOrd_spec (lowAt xs) xs.length P
  have h := col_all xs xs.length hii (refOrd (lowAt xs) xs.length P) ([], List.replicate xs.length 0) [] o1 (fun b hb => ⟨((o2 b).1 hb).1, by simp, fun a ha => by cases ha⟩)
    ⟨by simp, fun j hj => (by cases hj), fun t ht => absurd ht (Nat.not_lt_zero _), fun j hj => (by cases hj), 0, [], .inl rfl, List.nodup_nil, rfl, fun j hj => by cases hj⟩
  have hT : tracksOf xs = (refOrd (lowAt xs) xs.length P).foldl (trackStep xs) ([], List.replicate xs.length 0) := by
    unfold tracksOf
    rw [sort_refOrd (lowAt xs) xs.length P hlo]
  rw [← hT, List.nil_append] at h
  exact ⟨_, h, fun j hj => (o2 j).2 ⟨hj, hlo j hj⟩⟩

theorem mem_cover (xs : List (Int × Int)) (p : Int) : ∀ (k : Nat) (v : Int), v ∈ coverUp xs p k ↔ ∃ j, j < k ∧ v = (j : Int) ∧ covB xs j p = true
  | 0, v => by simp [coverUp]
  | k + 1, v => by
    unfold coverUp
    have ih := mem_cover xs p k v
    split
    · rename_i h
      rw [List.mem_append, List.mem_singleton, ih]
      constructor
      · rintro (⟨j, h1, h2, h3⟩ | rfl)
        · exact ⟨j, by omega, h2, h3⟩
        · exact ⟨k, by omega, rfl, h⟩
      · rintro ⟨j, h1, h2, h3⟩
        by_cases hj : j = k
        · subst hj; exact .inr h2
        · exact .inl ⟨j, by omega, h2, h3⟩
    · rename_i h
      rw [ih]
      constructor
      · rintro ⟨j, h1, h2, h3⟩; exact ⟨j, by omega, h2, h3⟩
      · rintro ⟨j, h1, h2, h3⟩
        refine ⟨j, ?_, h2, h3⟩
        by_cases hj : j = k
        · subst hj; exact absurd h3 h
        · omega
theorem conf_false {xs : List (Int × Int)} {ts : List Int} {n : Nat} : conf xs ts n = false ↔ ∀ i k, i < n → k < n → i ≠ k → ts.getD i 0 = ts.getD k 0 → meetB xs i k = false := by
  rw [conf_hit, ← Bool.not_eq_true, allHit_iff]
  constructor
  · intro h i k hi hk hik e
    cases hm : meetB xs i k with
    | false => rfl
    | true =>
      exfalso
      rcases Nat.lt_or_gt_of_ne hik with hlt | hlt
      · exact h ⟨k, i, hlt, hk, by rw [meetB_comm, hm, e, beq_self_eq_true]; rfl⟩
      · exact h ⟨i, k, hlt, hi, by rw [hm, e, beq_self_eq_true]; rfl⟩
  · rintro h ⟨i, k, hk, hi, hc⟩
    rw [Bool.and_eq_true, beq_iff_eq] at hc
    rw [h i k hi (by omega) (by omega) hc.1] at hc
    cases hc.2
section
variable {nets : List (Int × List Int)} {n : Int} {order : List Int}
theorem ext_bd (hE : Bus.bothErr nets n order = 0) (i : Nat) (hi : i < nets.length) : 0 ≤ ((extsOf nets order).getD i (0, 0)).1 ∧ ((extsOf nets order).getD i (0, 0)).1 ≤ ((extsOf nets order).getD i (0, 0)).2 ∧ ((extsOf nets order).getD i (0, 0)).2 < order.length := by
  obtain ⟨h1, h2, h3, h4⟩ := ext_at hE i hi
  rw [h1]; exact ⟨h2, h3, h4⟩
theorem low_conf (hE : Bus.bothErr nets n order = 0) : conf (extsOf nets order) (toI (tracksOf (extsOf nets order)).2) nets.length = false ∧
    (∀ t ∈ toI (tracksOf (extsOf nets order)).2, 0 ≤ t ∧ t < nets.length) ∧
    (toI (tracksOf (extsOf nets order)).2).length = nets.length ∧ cntUp (toI (tracksOf (extsOf nets order)).2) nets.length = (tracksOf (extsOf nets order)).1.length ∧
    ∃ p : Nat, p < order.length ∧ (tracksOf (extsOf nets order)).1.length ≤ (coverUp (extsOf nets order) (p : Int) (extsOf nets order).length).length := by
  have hl := extsOf_len nets order
  obtain ⟨t1, t2⟩ := tracks_fact hE
  have hpos : 0 < order.length := by
    have h1 := (Bus.orderErr_zero (both_iff.1 hE).2).1
    have h2 := (Bus.netsErr_zero (both_iff.1 hE).1).1
    omega
  obtain ⟨dn, hC, hall⟩ := col_tracks (extsOf nets order) order.length (fun i hi => by have := ext_bd hE i (by omega); omega) (fun i hi => (ext_bd hE i (by omega)).2.1)
  rw [hl] at hC hall
  have hlen : (toI (tracksOf (extsOf nets order)).2).length = nets.length := by rw [List.length_map, hC.len]
  rw [t1] at t2
  have hfew : (tracksOf (extsOf nets order)).1.length ≤ nets.length := by
    rw [← t2]
    obtain ⟨D, d1, d2, d3⟩ := cnt_spec (toI (tracksOf (extsOf nets order)).2) nets.length (by omega)
    have := nodup_le d1 fun v hv => (d3 v).1 hv
    rw [List.length_take] at this
    omega
  refine ⟨conf_false.2 fun i k hi hk hik e => ?_, fun t ht => ?_, hlen, t2, ?_⟩
  · rw [map_getD, map_getD] at e
    exact hC.apart i (hall i hi) k (hall k hk) hik (by omega)
  · obtain ⟨x, hx, rfl⟩ := List.mem_map.1 ht
    obtain ⟨j, hj, rfl⟩ := List.mem_iff_getElem.1 hx
    have := (hC.mem j (hall j (by rw [← hC.len]; exact hj))).2.1
    rw [List.getD_eq_getElem?_getD, List.getElem?_eq_getElem hj] at this
    simp only [Option.getD_some] at this
    omega
  · obtain ⟨p, C, hp, c1, c2, c3⟩ := hC.full
    have key : ∀ q : Nat, (q : Int) = p → (tracksOf (extsOf nets order)).1.length ≤ (coverUp (extsOf nets order) (q : Int) (extsOf nets order).length).length := fun q hq => by
      rw [← c2]
      have e : C.length = (C.map fun (x : Nat) => (x : Int)).length := by simp
      rw [e]
      refine nodup_le ?_ fun v hv => ?_
      · unfold List.Nodup
        rw [List.pairwise_map]
        exact c1.imp fun h e => h (Int.ofNat.inj e)
      · obtain ⟨j, hj, rfl⟩ := List.mem_map.1 hv
        obtain ⟨g1, g2, g3⟩ := c3 j hj
        refine (mem_cover _ _ _ _).2 ⟨j, by have := (hC.mem j g1).1; omega, rfl, ?_⟩
        unfold covB
        rw [Bool.and_eq_true, decide_eq_true_eq, decide_eq_true_eq]
        omega
    rcases hp with hp | ⟨i, hi, rfl⟩
    · exact ⟨0, hpos, by rw [hp]; exact Nat.zero_le _⟩
    · have := ext_bd hE i (hC.mem i hi).1
      refine ⟨((extsOf nets order).getD i (0, 0)).1.toNat, by omega, key _ (by omega)⟩
theorem low_lay (hE : Bus.bothErr nets n order = 0) : layErr nets n order (toI (tracksOf (extsOf nets order)).2) = 0 := by
  obtain ⟨h1, h2, h3, _⟩ := low_conf hE
  have h64 := (Bus.netsErr_zero (both_iff.1 hE).1).2.2.1
  unfold layErr
  have hf : ¬ farB (toI (tracksOf (extsOf nets order)).2) = true := fun h => by
    unfold farB at h
    rw [List.any_eq_true] at h
    obtain ⟨t, ht, h⟩ := h
    have := h2 t ht
    rw [Bool.or_eq_true, decide_eq_true_eq, decide_eq_true_eq] at h
    omega
  have hc : ¬ conf (extsOf nets order) (toI (tracksOf (extsOf nets order)).2) nets.length = true := by rw [h1]; exact Bool.false_ne_true
  rw [if_neg (fun h => h hE), if_neg (fun h => h h3), if_neg hf, if_neg hc]
theorem lay_zero {ts : List Int} (hE : Bus.bothErr nets n order = 0) (h : layErr nets n order ts = 0) : ts.length = nets.length ∧ (∀ t ∈ ts, 0 ≤ t ∧ t < 64) ∧ conf (extsOf nets order) ts nets.length = false := by
  unfold layErr at h
  rw [if_neg (fun g => g hE)] at h
  by_cases h1 : ts.length ≠ nets.length
  · rw [if_pos h1] at h; cases h
  · rw [if_neg h1] at h
    by_cases h2 : farB ts = true
    · rw [if_pos h2] at h; cases h
    · rw [if_neg h2] at h
      by_cases h3 : conf (extsOf nets order) ts nets.length = true
      · rw [if_pos h3] at h; cases h
      · refine ⟨Classical.not_not.1 h1, fun t ht => ?_, by simpa using h3⟩
        unfold farB at h2
        rw [List.any_eq_true] at h2
        by_cases hh : 0 ≤ t ∧ t < 64
        · exact hh
        · exact absurd ⟨t, ht, by rw [Bool.or_eq_true, decide_eq_true_eq, decide_eq_true_eq]; omega⟩ h2
theorem orderFrom_ok (N : Int) : ∀ (l seen : List Int), (∀ c ∈ l, 0 ≤ c ∧ c < N ∧ c ∉ seen) → l.Nodup → Bus.orderFrom N seen l = 0
  | [], _, _, _ => rfl
  | c :: r, seen, h, hn => by
    obtain ⟨h1, h2, h3⟩ := h c List.mem_cons_self
    obtain ⟨n1, n2⟩ := List.nodup_cons.1 hn
    unfold Bus.orderFrom
    rw [if_neg (by omega), if_neg h3]
    refine orderFrom_ok N r (seen ++ [c]) (fun d hd => ?_) n2
    obtain ⟨g1, g2, g3⟩ := h d (List.mem_cons_of_mem _ hd)
    refine ⟨g1, g2, fun hm => ?_⟩
    rcases List.mem_append.1 hm with g | g
    · exact g3 g
    · rw [List.mem_singleton.1 g] at hd; exact n1 hd
end
end Go.Proofs.YtbldpojkpmafpaaGreatDoor

/- Package bus and its reference: CheckLayout, CheckClique, Width as contracts on plain data. -/
namespace Go.Proofs.YtbldpojkpmafpaaGreatDoor
open Go.RowKit Sv
set_option maxRecDepth 100000
set_option linter.unusedVariables false
theorem refCheckLayout_any (A A2 A3 : Option Addr) (c c2 c3 B : Nat) (l : List NetAt) (order ts : List Int) (n : Int) (w : World) (h : NetsIn w B A l) (h2 : Row w B A2 (order.map (Value.int .i64))) (h3 : Row w B A3 (ts.map (Value.int .i64))) (hB : B ≤ w.heap.size) (hl : l.length ≤ 140737488355328) (hl2 : order.length ≤ 1000000) (hl3 : ts.length ≤ 1000000) (hc2 : order.length ≤ c2) :
    Calls Tryz.prog 18 #[.slice A l.length c, .int .i64 n, .agg #[.slice A2 order.length c2, .slice A3 ts.length c3]] w fun e w' => e = .returned (.int .i64 (layErrR l n order ts)) ∧ Below w.heap.size w w' := by
  by_cases hE : Bus.bothErr (l.map NetAt.net) n order = 0
  · exact refCheckLayout_ok A A2 A3 c c2 c3 B l order ts n w h h2 h3 hB hl hl2 hl3 hc2 hE
  · have := refCheckLayout_bad A A2 A3 c c2 c3 B l order ts n w h h2 hB hl hl2 hc2 _ rfl hE
    unfold layErrR
    rw [if_pos hE]
    exact this
noncomputable section
abbrev yv (a b : List Int) : AV := .agg [lv a, lv b]
def okLay (nets : List (Int × List Int)) (order ts : List Int) : Bool := goodB nets && (decide (nets.length ≤ 1000) && (decide (order.length ≤ 1000) && (order.all (fun c => decide (I64 c)) && decide (ts.length ≤ 1000))))
theorem okLay_iff {nets : List (Int × List Int)} {order ts : List Int} (h : okLay nets order ts = true) : GoodNets nets ∧ nets.length ≤ 1000 ∧ order.length ≤ 1000 ∧ (∀ c ∈ order, I64 c) ∧ ts.length ≤ 1000 := by
  unfold okLay at h
  simp only [Bool.and_eq_true, decide_eq_true_eq, List.all_eq_true] at h
  obtain ⟨h1, h2, h3, h4, h5⟩ := h
  exact ⟨goodB_iff.1 h1, h2, h3, h4, h5⟩
noncomputable def cLayR : Ctr := { f := 18, ps := [.list false tN, .int .i64, .pair (.list false (.int .i64)) (.list false (.int .i64))], rs := [.int .i64], fresh := true, pre := fun d => okLay d.1 d.2.2.1.1 d.2.2.1.2, fn := fun d => (layErr d.1 d.2.1 d.2.2.1.1 d.2.2.1.2, ()) }
theorem dens_lay {F : Env} {w : World} {nets : List (Int × List Int)} {n : Int} {order ts : List Int} {xs : List Value} (hF : OkF w F) (hg : GoodNets nets) (hd : Dens F [nv nets, iv n, yv order ts] xs) :
    ∃ (A A2 A3 : Option Addr) (c c2 c3 : Nat) (l : List NetAt), xs = [.slice A l.length c, .int .i64 n, .agg #[.slice A2 order.length c2, .slice A3 ts.length c3]] ∧ l.map NetAt.net = nets ∧ NetsIn w w.heap.size A l ∧ Row w w.heap.size A2 (order.map (Value.int .i64)) ∧ Row w w.heap.size A3 (ts.map (Value.int .i64)) ∧ order.length ≤ c2 ∧ ts.length ≤ c3 := by
  cases hd with
  | cons d1 d2 =>
    cases d2 with
    | cons d2 d3 =>
      cases d3 with
      | cons d3 d4 =>
        cases d4
        obtain ⟨A, c, l, rfl, h1, h2⟩ := den_nets hF hg d1
        obtain ⟨ys, e1, rfl⟩ := Den.agg_inv (cs := [lv order, lv ts]) d3
        cases e1 with
        | cons e1 e2 =>
          cases e2 with
          | cons e2 e3 =>
            cases e3
            obtain ⟨A2, c2, rfl, hc2, h3⟩ := den_ints hF e1
            obtain ⟨A3, c3, rfl, hc3, h4⟩ := den_ints hF e2
            exact ⟨A, A2, A3, c, c2, c3, l, by rw [d2.raw_eq], h1, h2, h3, h4, hc2, hc3⟩
theorem cLayB_holds (nets : List (Int × List Int)) (n : Int) (order ts : List Int) (h : okLay nets order ts = true) : Holds Tryz.prog true 51 [nv nets, iv n, yv order ts] (iv (layErr nets n order ts)) := holds_raw fun w F xs hF hd => by
  obtain ⟨h1, h2, h3, h4, h5⟩ := okLay_iff h
  obtain ⟨A, A2, A3, c, c2, c3, l, rfl, hl, hN, hR, hS, q2, q3⟩ := dens_lay hF h1 hd
  have hll : l.length = nets.length := by rw [← hl, List.length_map]
  have := CheckLayout_any A A2 A3 c c2 c3 w.heap.size l order ts n w hN hR hS h4 (Nat.le_refl _) (by omega) (by omega) (by omega)
  rw [hl] at this
  exact this
theorem cLayR_holds (nets : List (Int × List Int)) (n : Int) (order ts : List Int) (h : okLay nets order ts = true) : Holds Tryz.prog true 18 [nv nets, iv n, yv order ts] (iv (layErr nets n order ts)) := holds_raw fun w F xs hF hd => by
  obtain ⟨h1, h2, h3, h4, h5⟩ := okLay_iff h
  obtain ⟨A, A2, A3, c, c2, c3, l, rfl, hl, hN, hR, hS, q2, q3⟩ := dens_lay hF h1 hd
  have hll : l.length = nets.length := by rw [← hl, List.length_map]
  have := refCheckLayout_any A A2 A3 c c2 c3 w.heap.size l order ts n w hN hR hS (Nat.le_refl _) (by omega) (by omega) (by omega) (by omega)
  rw [← lay_same, hl] at this
  exact this
theorem cLayR_ok : cLayR.Ok Tryz.prog := fun ⟨nets, n, ⟨order, ts⟩, _⟩ h => cLayR_holds nets n order ts h
def okOrd (n : Int) (order : List Int) : Bool := decide (order.length ≤ 1000000) || decide ((order.length : Int) ≠ n)
noncomputable def cOrder2 : Ctr := { f := 23, ps := [.int .i64, .list false (.int .i64)], rs := [.int .i64], fresh := true, pre := fun d => okOrd d.1 d.2.1, fn := fun d => (Bus.orderErr d.2.1 d.1, ()) }
def BOrd : Code := (Tryz.f23.body).getD .skip
theorem ord_shape (n : Int) (order : List Int) (h1 : ¬(↑(List.length order) : Int) = n) :
    Tst.path (vrun0 Tryz.prog (ctrs []) (fl BOrd []) 4 37 [iv n, lv order]) [true] (toRet Tryz.prog Tryz.f23 true (iv 2)) := by
  have eTst : (Tst.path (vrun0 Tryz.prog (ctrs []) (fl BOrd []) 4 37 [iv n, lv order]) [true] (toRet Tryz.prog Tryz.f23 true (iv 2))) = ((((↑(List.length order) : Int) != n) = true) ∧ ((2 : Int)) = ((2 : Int))) := by kernel_rfl
  exact eTst.mpr ⟨bne_iff_ne.mpr h1, rfl⟩
theorem okOrd_of {n : Int} {order : List Int} (h : n ≤ 97) : okOrd n order = true := by
  unfold okOrd
  rw [Bool.or_eq_true, decide_eq_true_eq, decide_eq_true_eq]
  omega
theorem order2_holds (n : Int) (order : List Int) (h : okOrd n order = true) : Holds Tryz.prog true 23 [iv n, lv order] (iv (Bus.orderErr order n)) := by
  unfold okOrd at h
  rw [Bool.or_eq_true, decide_eq_true_eq] at h
  by_cases h2 : (order.length : Int) = n
  · exact cOrder_ok (n, order, ()) (decide_eq_true (h.resolve_right fun g => (of_decide_eq_true g) h2))
  · have e : Bus.orderErr order n = 2 := by unfold Bus.orderErr; rw [if_pos h2]
    rw [e]
    refine holds_fl (c := BOrd) Tryz.func23 rfl rfl fun w F => ?_
    exact GoalL.ret known mixed none_ok 4 _ (ord_shape n order h2) fun T H h => h
theorem cOrder2_ok : cOrder2.Ok Tryz.prog := fun ⟨n, order, _⟩ h => order2_holds n order h
end
end Go.Proofs.YtbldpojkpmafpaaGreatDoor

/- Package bus: Crossings of a layout that the check refuses. -/
namespace Go.Proofs.YtbldpojkpmafpaaGreatDoor
open Go.RowKit

set_option maxHeartbeats 8000000 in
set_option maxRecDepth 100000 in
theorem Crossings_bad (A A2 A3 : Option Addr) (c c2 c3 B : Nat) (l : List NetAt) (order ts : List Int) (n : Int) (w : World) (h : NetsIn w B A l) (h2 : Row w B A2 (order.map (Value.int .i64))) (h3 : Row w B A3 (ts.map (Value.int .i64))) (hi : ∀ c ∈ order, I64 c) (hB : B ≤ w.heap.size) (hl : l.length ≤ 140737488355328) (hl2 : order.length ≤ 1000000) (hl3 : ts.length ≤ 1000000)
    (E : Int) (hE : layErr (l.map NetAt.net) n order ts = E) (h0 : E ≠ 0) :
    Calls Tryz.prog 15 #[.slice A l.length c, .int .i64 n, .agg #[.slice A2 order.length c2, .slice A3 ts.length c3]] w fun e w' => e = .returned (.tuple #[.int .i64 0, .int .i64 E]) ∧ Below w.heap.size w w' := by
  have HC := Lib.hid (fun w' (hb : Below w.heap.size w w') => CheckLayout_any A A2 A3 c c2 c3 B l order ts n w' (h.below hb hB) (h2.below hb hB) (h3.below hb hB) hi (by have := hb.size; omega) hl hl2 hl3)
  rw [hE] at HC
  have hne : (E != 0) = true := by rw [bne_iff_ne]; exact h0
  clear h h2 h3 hi hE
  go_enter Tryz.func15, Tryz.ntmps15
  go_wp2_with fail
  generalize hW0 : World.alloc w _ = W0
  have e0 : Below w.heap.size w W0 := by rw [← hW0]; exact (Below.refl _ w).alloc (Nat.le_refl _) _
  clear hW0
  refine (HC.out _ e0).mono ?_
  rintro e w1 ⟨rfl, hb1⟩
  have e1 := below_after e0 hb1 (Nat.le_refl _)
  go_wp2_with fail
  go_ret2
  exact ⟨rfl, e1⟩
end Go.Proofs.YtbldpojkpmafpaaGreatDoor

/- Package bus: Crossings of a layout that the check passes. -/
namespace Go.Proofs.YtbldpojkpmafpaaGreatDoor
open Go.RowKit

theorem col_few (n : Int) : ∀ (cs : List Int) (last : Int), last < n → Bus.colErr n last cs = 0 → (cs.length : Int) ≤ n - 1 - last
  | [], last, h, _ => by simp; omega
  | c :: r, last, h, he => by
    unfold Bus.colErr at he
    split at he
    · cases he
    · split at he
      · cases he
      · rename_i h1 h2
        have := col_few n r c (by omega) he
        simp; omega
theorem nets_few (n : Int) (hn : 1 ≤ n) : ∀ (l : List Bus.Net) (seen : List Int), Bus.netsFrom n seen l = 0 → ∀ x ∈ l, (x.2.length : Int) ≤ n
  | [], _, _ => by intro x hx; cases hx
  | x :: r, seen, h => by
    unfold Bus.netsFrom at h
    split at h
    · cases h
    · split at h
      · cases h
      · split at h
        · cases h
        · split at h
          · exact absurd h (by assumption)
          · intro y hy
            rcases List.mem_cons.1 hy with rfl | hy
            · have := col_few n y.2 (-1) (by omega) (by rename_i h4; exact Classical.not_not.1 h4)
              omega
            · exact nets_few n hn r _ h y hy
theorem cnt_bd (M : Nat) : ∀ (ls : List (List Int)), (∀ x ∈ ls, x.length ≤ M) → cntTo ls ls.length ≤ ls.length * M
  | [], _ => by simp [cntTo]
  | c :: r, h => by
    have h1 := h c List.mem_cons_self
    have h2 := cnt_bd M r fun x hx => h x (List.mem_cons_of_mem _ hx)
    show c.length + cntTo r r.length ≤ (r.length + 1) * M
    rw [Nat.add_mul, Nat.one_mul]; omega
theorem taps_few {l : List NetAt} {n : Int} (h : Bus.netsErr (l.map NetAt.net) n = 0) (Fp : Nat → Int) : (tapFrom Fp 0 (l.map NetAt.cols)).length ≤ 6208 := by
  obtain ⟨n1, n97, l64, _⟩ := Bus.netsErr_zero h
  have hf : Bus.netsFrom n [] (l.map NetAt.net) = 0 := by
    unfold Bus.netsErr at h
    rw [if_neg (by omega), if_neg (by omega)] at h
    exact h
  have hc : ∀ x ∈ l.map NetAt.cols, x.length ≤ 97 := fun x hx => by
    obtain ⟨y, hy, rfl⟩ := List.mem_map.1 hx
    have := nets_few n n1 _ [] hf y.net (List.mem_map_of_mem hy)
    have e : y.net.2 = y.cols := rfl
    rw [e] at this
    omega
  have := cnt_bd 97 (l.map NetAt.cols) hc
  rw [tap_len]
  rw [List.length_map] at this l64 ⊢
  omega

def crossOf (nets : List Bus.Net) (order ts : List Int) (most : Int) : Int :=
  (crossRun (tapF (Bus.exts (Bus.atUp order order.length) nets) ts (tapFrom (Bus.atUp order order.length) 0 (nets.map Prod.snd))) most 0 (List.range (tapFrom (Bus.atUp order order.length) 0 (nets.map Prod.snd)).length)).1

set_option maxHeartbeats 8000000 in
set_option maxRecDepth 100000 in
theorem Crossings_ok (A A2 A3 : Option Addr) (c c2 c3 B : Nat) (l : List NetAt) (order ts : List Int) (n : Int) (w : World) (h : NetsIn w B A l) (h2 : Row w B A2 (order.map (Value.int .i64))) (h3 : Row w B A3 (ts.map (Value.int .i64))) (hi : ∀ c ∈ order, I64 c) (hB : B ≤ w.heap.size) (hl : l.length ≤ 140737488355328) (hl2 : order.length ≤ 1000000) (hl3 : ts.length ≤ 1000000)
    (hE : Bus.bothErr (l.map NetAt.net) n order = 0) (hL : layErr (l.map NetAt.net) n order ts = 0) :
    Calls Tryz.prog 15 #[.slice A l.length c, .int .i64 n, .agg #[.slice A2 order.length c2, .slice A3 ts.length c3]] w fun e w' => e = .returned (.tuple #[.int .i64 (crossOf (l.map NetAt.net) order ts 1099511627776), .int .i64 0]) ∧ Below w.heap.size w w' := by
  have HC := Lib.hid (fun w' (hb : Below w.heap.size w w') => CheckLayout_any A A2 A3 c c2 c3 B l order ts n w' (h.below hb hB) (h2.below hb hB) (h3.below hb hB) hi (by have := hb.size; omega) hl hl2 hl3)
  rw [hL] at HC
  obtain ⟨z1, z2⟩ := both_zero hE
  have htl : ts.length = l.length := by
    unfold layErr at hL
    rw [if_neg (fun g => g hE)] at hL
    by_cases h1 : ts.length ≠ (l.map NetAt.net).length
    · rw [if_pos h1] at hL; cases hL
    · rw [List.length_map] at h1; exact Classical.not_not.1 h1
  obtain ⟨n1, n97, l64, hcols⟩ := Bus.netsErr_zero z1
  rw [List.length_map] at l64
  have hc97 : ∀ x ∈ l, ∀ c ∈ x.cols, 0 ≤ c ∧ c < 97 := fun x hx c hc => by
    have := (hcols x.net (List.mem_map_of_mem hx)).2 c hc
    omega
  have hT := taps_few z1 (Bus.atUp order order.length)
  have e1 : (l.map NetAt.net).map Prod.snd = l.map NetAt.cols := by rw [List.map_map]; rfl
  obtain ⟨r, hr⟩ : ∃ r, crossOf (l.map NetAt.net) order ts 1099511627776 = r := ⟨_, rfl⟩
  rw [hr]
  unfold crossOf at hr
  rw [e1] at hr
  have HST := Lib.hid (fun w' (hb : Below w.heap.size w w') => stand_any A A2 c c2 B l order n w' (h.below hb hB) (h2.below hb hB) (by have := hb.size; omega) z2 z1)
  obtain ⟨F, hF⟩ : ∃ F, Bus.atUp order order.length = F := ⟨_, rfl⟩
  rw [hF] at HST hr hT
  have hlen := exts_len F l
  obtain ⟨xs, hxs⟩ : ∃ xs, Bus.exts F (l.map NetAt.net) = xs := ⟨_, rfl⟩
  rw [hxs] at hlen hr
  have HXS := Lib.hid hxs
  obtain ⟨M, hM⟩ : ∃ M : Int, (1099511627776 : Int) = M := ⟨_, rfl⟩
  rw [hM] at hr
  have HCR0 : ∀ (g : Nat) (Ax : Option Addr) (cx : Nat) w' (_ : Below w.heap.size w w') (_ : RowAt w' g (.slice A l.length c) F (.slice Ax xs.length cx)) (_ : Row w' w'.heap.size Ax (xcells xs)),
      Calls Tryz.prog 44 #[.pointer (some ⟨g, 0, none⟩), .slice A3 ts.length c3, .int .i64 M] w' fun e w'' => e = .returned (.int .i64 r) ∧ Below w'.heap.size w' w'' := fun g Ax cx w' hb hrow hx => by
    have := crossings_any g A Ax A3 c cx c3 xs ts F l M w' hrow hx ((h.below hb hB).more (by have := hb.size; omega)) ((h3.below hb hB).more (by have := hb.size; omega)) hlen htl (by omega) hc97 (by omega)
    rw [hr] at this
    exact this
  rw [← hM] at HCR0
  have HCR := Lib.hid HCR0
  clear HCR0 hM
  clear h h2 h3 hi hE hL z1 z2 hcols hc97 hT e1 hr hF hxs M htl
  have HL := Lib.hid hlen
  clear hlen
  go_enter Tryz.func15, Tryz.ntmps15
  go_wp2_with fail
  generalize hW0 : World.alloc w _ = W0
  have d0 : Blk W0 w.heap.size 29 #[.slice A2 order.length c2, .slice A3 ts.length c3] := by rw [← hW0]; exact Blk.new _ _ _
  have e0 : Below w.heap.size w W0 := by rw [← hW0]; exact (Below.refl _ w).alloc (Nat.le_refl _) _
  clear hW0
  refine (HC.out _ e0).mono ?_
  rintro e w1 ⟨rfl, hb1⟩
  have e1 := below_after e0 hb1 (Nat.le_refl _)
  have d1 := d0.below hb1 d0.lt
  have x0 := d1.cell 0
  have x1 := d1.cell 1
  clear d0 e0 hb1 HC
  have e1d := e1.drew
  have d1d := d1.drew
  clear e1 d1
  go_wp2_with fail
  go_region_with (first
    | (go_at_call 42; refine (HST.out _ (by with_reducible assumption)).mono ?_; rintro e w2 ⟨g, v, rfl, hg, hrow, hown, hb2⟩; rw [HXS.out] at hown; obtain ⟨Av, cv, rfl, _, hr⟩ := own_cap hown; have hrow2 : RowAt w2 g (.slice A l.length c) F (.slice Av xs.length cv) := (by rw [HL.out]; exact hrow); have e2 := below_after (B := w.heap.size) (by with_reducible assumption) hb2 (Nat.le_refl _); have HRW := Lib.hid (And.intro hrow2 hr); have x1' := (Blk.below d1d hb2 d1d.lt).cell 1; clear hown hrow hrow2 hr)
    | (go_at_call 44; refine (HCR.out _ _ _ _ (by with_reducible assumption) HRW.out.1 HRW.out.2).mono ?_; rintro e w3 ⟨rfl, hb3⟩))
  all_goals go_wp2_with fail
  all_goals go_ret2
  all_goals exact ⟨rfl, below_after (W := w2) (by with_reducible assumption) (by with_reducible assumption) (Nat.le_refl _)⟩
end Go.Proofs.YtbldpojkpmafpaaGreatDoor

/- Package bus: Crossings and Extents as contracts on plain data. -/
namespace Go.Proofs.YtbldpojkpmafpaaGreatDoor
open Go.RowKit Sv
set_option maxRecDepth 100000
set_option linter.unusedVariables false
theorem holds_pair {f : FuncId} {args : List AV} {a b : Int} {fresh : Bool} (h : ∀ (w : World) (F : Env) (xs : List Value), OkF w F → Dens F args xs → Calls Tryz.prog f xs.toArray w fun e w' => e = .returned (.tuple #[.int .i64 a, .int .i64 b]) ∧ Below w.heap.size w w') :
    Holds Tryz.prog fresh f args (.tuple [iv a, iv b]) := fun w F xs hF hd =>
  (h w F xs hF hd).mono fun e w' ⟨g1, g2⟩ => ⟨_, ⟨F.at', fun _ => none⟩, g1, .tuple (.cons (.raw _) (.cons (.raw _) .nil)), ⟨hF.glob, hF.all, fun b A h => by cases h⟩, (fun b A h => by cases h), g2⟩
noncomputable section
def crsB (nets : List (Int × List Int)) (n : Int) (order ts : List Int) : Int × Int := if layErr nets n order ts = 0 then (crossOf nets order ts 1099511627776, 0) else (0, layErr nets n order ts)
noncomputable def cCrossB : Ctr := { f := 15, ps := [.list false tN, .int .i64, .pair (.list false (.int .i64)) (.list false (.int .i64))], rs := [.int .i64, .int .i64], fresh := true, pre := fun d => okLay d.1 d.2.2.1.1 d.2.2.1.2, fn := fun d => ((crsB d.1 d.2.1 d.2.2.1.1 d.2.2.1.2).1, ((crsB d.1 d.2.1 d.2.2.1.1 d.2.2.1.2).2, ())) }
theorem both_of_lay {nets : List (Int × List Int)} {n : Int} {order ts : List Int} (h : layErr nets n order ts = 0) : Bus.bothErr nets n order = 0 := by
  unfold layErr at h
  by_cases hE : Bus.bothErr nets n order = 0
  · exact hE
  · rw [if_pos hE] at h; exact absurd h hE
theorem cross_holds (nets : List (Int × List Int)) (n : Int) (order ts : List Int) (h : okLay nets order ts = true) : Holds Tryz.prog true 15 [nv nets, iv n, yv order ts] (.tuple [iv (crsB nets n order ts).1, iv (crsB nets n order ts).2]) := by
  obtain ⟨h1, h2, h3, h4, h5⟩ := okLay_iff h
  refine holds_pair fun w F xs hF hd => ?_
  obtain ⟨A, A2, A3, c, c2, c3, l, rfl, hl, hN, hR, hS, q2, q3⟩ := dens_lay hF h1 hd
  have hll : l.length = nets.length := by rw [← hl, List.length_map]
  by_cases hE : layErr nets n order ts = 0
  · have e : crsB nets n order ts = (crossOf nets order ts 1099511627776, 0) := by unfold crsB; rw [if_pos hE]
    rw [e]
    have := Crossings_ok A A2 A3 c c2 c3 w.heap.size l order ts n w hN hR hS h4 (Nat.le_refl _) (by omega) (by omega) (by omega) (by rw [hl]; exact both_of_lay hE) (by rw [hl]; exact hE)
    rw [hl] at this
    exact this
  · have e : crsB nets n order ts = (0, layErr nets n order ts) := by unfold crsB; rw [if_neg hE]
    rw [e]
    exact Crossings_bad A A2 A3 c c2 c3 w.heap.size l order ts n w hN hR hS h4 (Nat.le_refl _) (by omega) (by omega) (by omega) (layErr nets n order ts) (by rw [hl]) hE
theorem cCrossB_ok : cCrossB.Ok Tryz.prog := fun ⟨nets, n, ⟨order, ts⟩, _⟩ h => cross_holds nets n order ts h

abbrev tP : Ty := .pair (.int .i64) (.int .i64)
abbrev pv (l : List (Int × Int)) : AV := .lst false tP l
theorem pairs_den {ρ : Env} : ∀ (xs : List (Int × Int)), Dens ρ (Ty.flat tP xs) (xcells xs)
  | [] => .nil
  | x :: r => by
    have e : Ty.flat tP (x :: r) = .raw (.int .i64 x.1) :: .raw (.int .i64 x.2) :: Ty.flat tP r := rfl
    rw [e]
    exact .cons (.raw _) (.cons (.raw _) (pairs_den r))
end
noncomputable section
def okChk (nets : List (Int × List Int)) (order : List Int) : Bool := goodB nets && (decide (nets.length ≤ 1000) && (decide (order.length ≤ 1000) && order.all (fun c => decide (I64 c))))
end
end Go.Proofs.YtbldpojkpmafpaaGreatDoor
