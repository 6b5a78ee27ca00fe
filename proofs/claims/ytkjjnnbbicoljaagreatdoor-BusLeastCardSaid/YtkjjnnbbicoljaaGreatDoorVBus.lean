/- Package bus: Tracks, Clique as contracts on plain data. -/
import Derived.Test.YtkjjnnbbicoljaaGreatDoorVRef5
import Derived.Test.YtkjjnnbbicoljaaGreatDoorBusTracks0
namespace Go.Proofs.YtkjjnnbbicoljaaGreatDoor
open Go.RowKit Sv
set_option maxRecDepth 100000
set_option linter.unusedVariables false
noncomputable section
theorem holds_row {f : FuncId} {args : List AV} {l : List Int} {a b : Int} (h : ∀ (w : World) (F : Env) (xs : List Value), OkF w F → Dens F args xs → Calls Tryz.prog f xs.toArray w fun e w' =>
      ∃ A c, e = .returned (.tuple #[.slice A l.length c, .int .i64 a, .int .i64 b]) ∧ Row w' w'.heap.size A (l.map (Value.int .i64)) ∧ (l = [] ∨ FreshA w.heap.size A) ∧ l.length ≤ c ∧ Below w.heap.size w w') :
    Holds Tryz.prog true f args (.tuple [lv l, iv a, iv b]) := fun w F xs hF hd =>
  (h w F xs hF hd).mono fun e w' ⟨A, c, h1, h2, h3, h4, h5⟩ => by
    have hd := ints_den (n0 := w.heap.size) (at' := F.at') h2 h3 h4
    refine ⟨_, _, h1, .tuple (.cons hd (.cons (.raw _) (.cons (.raw _) .nil))), ⟨hF.glob, hF.all, fun b A hb => ?_⟩, fun b A hb => .inr ?_, h5⟩
    · have hb : (if w.heap.size ≤ b then cellsOf? w' b else none) = some A := hb
      split at hb
      · exact cellsOf?_some.1 hb
      · cases hb
    · have hb : (if w.heap.size ≤ b then cellsOf? w' b else none) = some A := hb
      split at hb
      · assumption
      · cases hb
theorem track_len (xs : List (Int × Int)) : ∀ (L : List Nat) (s : List Int × List Nat), (L.foldl (trackStep xs) s).2.length = s.2.length
  | [], s => rfl
  | i :: L, s => by
    rw [List.foldl_cons, track_len xs L]
    unfold trackStep
    simp only
    split <;> simp
theorem tracksOf_len (xs : List (Int × Int)) : (tracksOf xs).2.length = xs.length := by
  unfold tracksOf
  rw [track_len]; simp
abbrev extsOf (nets : List (Int × List Int)) (order : List Int) : List (Int × Int) := Bus.exts (Bus.atUp order order.length) nets
def trkB (nets : List (Int × List Int)) (n : Int) (order : List Int) : List Int × Int × Int :=
  if Bus.bothErr nets n order = 0 then (toI (tracksOf (extsOf nets order)).2, (((tracksOf (extsOf nets order)).1.length : Nat) : Int), 0) else ([], 0, Bus.bothErr nets n order)
def clqB (nets : List (Int × List Int)) (n : Int) (order : List Int) : List Int × Int × Int :=
  if Bus.bothErr nets n order = 0 then ((cliqueUp (extsOf nets order) n.toNat).1, (cliqueUp (extsOf nets order) n.toNat).2, 0) else ([], 0, Bus.bothErr nets n order)
def okBus (nets : List (Int × List Int)) (n : Int) (order : List Int) : Bool :=
  goodB nets && (decide (nets.length ≤ 70) && (decide (order.length ≤ 1000) && (order.all (fun c => decide (I64 c)) && (decide (Bus.bothErr nets n order ≠ 0) || decide (nets.length < 20)))))
noncomputable def cTracksB : Ctr := { f := 13, ps := [.list false tN, .int .i64, .list false (.int .i64)], rs := [.list false (.int .i64), .int .i64, .int .i64], fresh := true, pre := fun d => okBus d.1 d.2.1 d.2.2.1, fn := fun d => ((trkB d.1 d.2.1 d.2.2.1).1, ((trkB d.1 d.2.1 d.2.2.1).2.1, ((trkB d.1 d.2.1 d.2.2.1).2.2, ()))) }
noncomputable def cCliqueB : Ctr := { f := 14, ps := [.list false tN, .int .i64, .list false (.int .i64)], rs := [.list false (.int .i64), .int .i64, .int .i64], fresh := true, pre := fun d => okBus d.1 d.2.1 d.2.2.1, fn := fun d => ((clqB d.1 d.2.1 d.2.2.1).1, ((clqB d.1 d.2.1 d.2.2.1).2.1, ((clqB d.1 d.2.1 d.2.2.1).2.2, ()))) }
theorem okBus_iff {nets : List (Int × List Int)} {n : Int} {order : List Int} (h : okBus nets n order = true) :
    GoodNets nets ∧ nets.length ≤ 70 ∧ order.length ≤ 1000 ∧ (∀ c ∈ order, I64 c) ∧ (Bus.bothErr nets n order = 0 → nets.length < 20) := by
  unfold okBus at h
  simp only [Bool.and_eq_true, Bool.or_eq_true, decide_eq_true_eq, List.all_eq_true] at h
  obtain ⟨h1, h2, h3, h4, h5⟩ := h
  exact ⟨goodB_iff.1 h1, h2, h3, h4, fun e => h5.resolve_left fun g => g e⟩
theorem dens_bus {F : Env} {w : World} {nets : List (Int × List Int)} {n : Int} {order : List Int} {xs : List Value} (hF : OkF w F) (hg : GoodNets nets) (hd : Dens F [nv nets, iv n, lv order] xs) :
    ∃ (A A2 : Option Addr) (c c2 : Nat) (l : List NetAt), xs = [.slice A l.length c, .int .i64 n, .slice A2 order.length c2] ∧ l.map NetAt.net = nets ∧ NetsIn w w.heap.size A l ∧ Row w w.heap.size A2 (order.map (Value.int .i64)) := by
  cases hd with
  | cons d1 d2 =>
    cases d2 with
    | cons d2 d3 =>
      cases d3 with
      | cons d3 d4 =>
        cases d4
        obtain ⟨A, c, l, rfl, h1, h2⟩ := den_nets hF hg d1
        obtain ⟨A2, c2, rfl, _, h3⟩ := den_ints hF d3
        exact ⟨A, A2, c, c2, l, by rw [d2.raw_eq], h1, h2, h3⟩
theorem tracksB_holds (nets : List (Int × List Int)) (n : Int) (order : List Int) (h : okBus nets n order = true) : Holds Tryz.prog true 13 [nv nets, iv n, lv order] (.tuple [lv (trkB nets n order).1, iv (trkB nets n order).2.1, iv (trkB nets n order).2.2]) := by
  obtain ⟨h1, h2, h3, h4, h5⟩ := okBus_iff h
  refine holds_row fun w F xs hF hd => ?_
  obtain ⟨A, A2, c, c2, l, rfl, hl, hN, hR⟩ := dens_bus hF h1 hd
  have hll : l.length = nets.length := by rw [← hl, List.length_map]
  by_cases hE : Bus.bothErr nets n order = 0
  · have e : trkB nets n order = (toI (tracksOf (extsOf nets order)).2, (((tracksOf (extsOf nets order)).1.length : Nat) : Int), 0) := by unfold trkB; rw [if_pos hE]
    rw [e]
    have := h5 hE
    refine (Tracks_any A A2 c c2 w.heap.size l order n w hN hR h4 (Nat.le_refl _) (by omega) (by rw [hl]; exact hE) (by omega)).mono fun e w' ⟨Ao, co, g1, g2, g3, g4, g5⟩ => ?_
    rw [hl] at g1 g2 g4 g5
    have hlen : (toI (tracksOf (extsOf nets order)).2).length = (extsOf nets order).length := by rw [List.length_map]; exact tracksOf_len _
    refine ⟨Ao, co, by rw [g1]; simp only [hlen], ?_, ?_, by simp only [hlen]; exact g5, g3⟩
    · rw [List.map_map]; exact g2
    · rcases g4 with g4 | g4
      · exact .inl (List.length_eq_zero_iff.1 (by simp only [g4]; rfl))
      · exact .inr g4
  · have e : trkB nets n order = ([], 0, Bus.bothErr nets n order) := by unfold trkB; rw [if_neg hE]
    rw [e]
    refine (Tracks_bad A A2 c c2 w.heap.size l order n w hN hR h4 (Nat.le_refl _) (by omega) (by omega) (Bus.bothErr nets n order) (by rw [hl]) hE).mono fun e w' ⟨g1, g2⟩ => ?_
    exact ⟨none, 0, g1, .inl rfl, .inl rfl, Nat.le_refl _, g2⟩
theorem cliqueB_holds (nets : List (Int × List Int)) (n : Int) (order : List Int) (h : okBus nets n order = true) : Holds Tryz.prog true 14 [nv nets, iv n, lv order] (.tuple [lv (clqB nets n order).1, iv (clqB nets n order).2.1, iv (clqB nets n order).2.2]) := by
  obtain ⟨h1, h2, h3, h4, h5⟩ := okBus_iff h
  refine holds_row fun w F xs hF hd => ?_
  obtain ⟨A, A2, c, c2, l, rfl, hl, hN, hR⟩ := dens_bus hF h1 hd
  have hll : l.length = nets.length := by rw [← hl, List.length_map]
  by_cases hE : Bus.bothErr nets n order = 0
  · have e : clqB nets n order = ((cliqueUp (extsOf nets order) n.toNat).1, (cliqueUp (extsOf nets order) n.toNat).2, 0) := by unfold clqB; rw [if_pos hE]
    rw [e]
    refine (Clique_ok A A2 c c2 w.heap.size l order n w hN hR h4 (Nat.le_refl _) (by omega) (by omega) (by rw [hl]; exact hE)).mono fun e w' ⟨Ao, co, g1, g2, g3, g4, g5⟩ => ?_
    rw [hl] at g1 g2 g5
    exact ⟨Ao, co, g1, g2, .inr g4, g5, g3⟩
  · have e : clqB nets n order = ([], 0, Bus.bothErr nets n order) := by unfold clqB; rw [if_neg hE]
    rw [e]
    refine (Clique_bad A A2 c c2 w.heap.size l order n w hN hR h4 (Nat.le_refl _) (by omega) (by omega) (Bus.bothErr nets n order) (by rw [hl]) hE).mono fun e w' ⟨g1, g2⟩ => ?_
    exact ⟨none, 0, g1, .inl rfl, .inl rfl, Nat.le_refl _, g2⟩
theorem cTracksB_ok : cTracksB.Ok Tryz.prog := fun ⟨nets, n, order, _⟩ h => tracksB_holds nets n order h
theorem cCliqueB_ok : cCliqueB.Ok Tryz.prog := fun ⟨nets, n, order, _⟩ h => cliqueB_holds nets n order h
end
end Go.Proofs.YtkjjnnbbicoljaaGreatDoor
