/- Of integraphlaw07: what the laws share: awake; facts on plain data. -/
import Derived.Test.YtbldpojkpmafpaaGreatDoorZVBus
import Derived.Test.YtbldpojkpmafpaaGreatDoorZBusAwakeV
import Derived.Test.YtbldpojkpmafpaaGreatDoorZBusTaps
import Derived.Test.YtbldpojkpmafpaaGreatDoorZBusTab
import Derived.Deep.RegionWith
import Derived.Lib.SlicesCompact
namespace Go.Proofs.YtbldpojkpmafpaaGreatDoor
open Go.RowKit Sv
set_option maxRecDepth 100000
set_option linter.unusedVariables false
noncomputable section
noncomputable def cAwake : Ctr := { f := 8, ps := [], rs := [.bool], fresh := true, pre := fun _ => true, fn := fun _ => (true, ()) }
--{
theorem cAwake_ok : cAwake.Ok Tryz.prog := fun _ _ => holds_raw fun w F xs hF hd => by
  cases hd
  exact awake_calls w
def mkNets (nets : List (Int × List Int)) : List NetAt := nets.map fun x => ⟨x.1, x.2, none, 0⟩
theorem mkNets_net (nets : List (Int × List Int)) : (mkNets nets).map NetAt.net = nets := by
  unfold mkNets
  rw [List.map_map]
  exact List.map_id _
theorem ext_at {nets : List (Int × List Int)} {n : Int} {order : List Int} (hE : Bus.bothErr nets n order = 0) (i : Nat) (hi : i < nets.length) :
    (extsOf nets order).getD i (0, 0) = refExt order (nets.getD i (0, [])).2 ∧ 0 ≤ (refExt order (nets.getD i (0, [])).2).1 ∧ (refExt order (nets.getD i (0, [])).2).1 ≤ (refExt order (nets.getD i (0, [])).2).2 ∧ (refExt order (nets.getD i (0, [])).2).2 < order.length := by
  have h := valid_ext (l := mkNets nets) (n := n) (order := order) (by rw [mkNets_net]; exact hE) i (by unfold mkNets; simpa using hi)
  have e : ((mkNets nets).map NetAt.cols).getD i [] = (nets.getD i (0, [])).2 := by
    unfold mkNets
    simp only [List.getD_eq_getElem?_getD, List.getElem?_map, List.getElem?_eq_getElem hi, Option.map_some, Option.getD_some]
  rw [mkNets_net, e] at h
  exact h
theorem extsOf_len (nets : List (Int × List Int)) (order : List Int) : (extsOf nets order).length = nets.length := by simp [Bus.exts]
theorem both_iff {nets : List (Int × List Int)} {n : Int} {order : List Int} : Bus.bothErr nets n order = 0 ↔ Bus.netsErr nets n = 0 ∧ Bus.orderErr order n = 0 := by
  unfold Bus.bothErr
  split
  · rename_i h; exact ⟨fun e => absurd e h, fun e => absurd e.1 h⟩
  · rename_i h; exact ⟨fun e => ⟨Classical.not_not.1 h, e⟩, fun e => e.2⟩
--}
end
end Go.Proofs.YtbldpojkpmafpaaGreatDoor

/- Package bus, plain: the tracks are a layout, as many as the nets of the clique; any layout has at least so many. -/
namespace Go.Proofs.YtbldpojkpmafpaaGreatDoor
open Go.RowKit Sv
set_option linter.unusedVariables false

/-! ### the tracks, net by net -/
/-! ### the nets at a position -/
/-! ### nets that pass the checks -/
section
variable {nets : List (Int × List Int)} {n : Int} {order : List Int}
theorem lay_zero {ts : List Int} (hE : Bus.bothErr nets n order = 0) (h : layErr nets n order ts = 0) : ts.length = nets.length ∧ (∀ t ∈ ts, 0 ≤ t ∧ t < 64) ∧ conf (extsOf nets order) ts nets.length = false := by
  unfold layErr at h
  rw [if_neg (fun g => g hE)] at h
  by_cases h1 : ts.length ≠ nets.length
  · rw [if_pos h1] at h; cases h
  · rw [if_neg h1] at h
    by_cases h2 : farB ts = true
    · rw [if_pos h2] at h; cases h
    · rw [if_neg h2] at h
      by_cases h3 : conf (extsOf nets order) ts nets.length = true
      · rw [if_pos h3] at h; cases h
      · refine ⟨Classical.not_not.1 h1, fun t ht => ?_, by simpa using h3⟩
        unfold farB at h2
        rw [List.any_eq_true] at h2
        by_cases hh : 0 ≤ t ∧ t < 64
        · exact hh
        · exact absurd ⟨t, ht, by rw [Bool.or_eq_true, decide_eq_true_eq, decide_eq_true_eq]; omega⟩ h2
end
end Go.Proofs.YtbldpojkpmafpaaGreatDoor

/- Package bus and its reference: CheckLayout, CheckClique, Width as contracts on plain data. -/
namespace Go.Proofs.YtbldpojkpmafpaaGreatDoor
open Go.RowKit Sv
set_option maxRecDepth 100000
set_option linter.unusedVariables false
theorem refCheckLayout_any (A A2 A3 : Option Addr) (c c2 c3 B : Nat) (l : List NetAt) (order ts : List Int) (n : Int) (w : World) (h : NetsIn w B A l) (h2 : Row w B A2 (order.map (Value.int .i64))) (h3 : Row w B A3 (ts.map (Value.int .i64))) (hB : B ≤ w.heap.size) (hl : l.length ≤ 140737488355328) (hl2 : order.length ≤ 1000000) (hl3 : ts.length ≤ 1000000) (hc2 : order.length ≤ c2) :
    Calls Tryz.prog 18 #[.slice A l.length c, .int .i64 n, .agg #[.slice A2 order.length c2, .slice A3 ts.length c3]] w fun e w' => e = .returned (.int .i64 (layErrR l n order ts)) ∧ Below w.heap.size w w' := by
  by_cases hE : Bus.bothErr (l.map NetAt.net) n order = 0
  · exact refCheckLayout_ok A A2 A3 c c2 c3 B l order ts n w h h2 h3 hB hl hl2 hl3 hc2 hE
  · have := refCheckLayout_bad A A2 A3 c c2 c3 B l order ts n w h h2 hB hl hl2 hc2 _ rfl hE
    unfold layErrR
    rw [if_pos hE]
    exact this
noncomputable section
abbrev yv (a b : List Int) : AV := .agg [lv a, lv b]
def okLay (nets : List (Int × List Int)) (order ts : List Int) : Bool := goodB nets && (decide (nets.length ≤ 1000) && (decide (order.length ≤ 1000) && (order.all (fun c => decide (I64 c)) && decide (ts.length ≤ 1000))))
theorem okLay_iff {nets : List (Int × List Int)} {order ts : List Int} (h : okLay nets order ts = true) : GoodNets nets ∧ nets.length ≤ 1000 ∧ order.length ≤ 1000 ∧ (∀ c ∈ order, I64 c) ∧ ts.length ≤ 1000 := by
  unfold okLay at h
  simp only [Bool.and_eq_true, decide_eq_true_eq, List.all_eq_true] at h
  obtain ⟨h1, h2, h3, h4, h5⟩ := h
  exact ⟨goodB_iff.1 h1, h2, h3, h4, h5⟩
noncomputable def cLayB : Ctr := { f := 51, ps := [.list false tN, .int .i64, .pair (.list false (.int .i64)) (.list false (.int .i64))], rs := [.int .i64], fresh := true, pre := fun d => okLay d.1 d.2.2.1.1 d.2.2.1.2, fn := fun d => (layErr d.1 d.2.1 d.2.2.1.1 d.2.2.1.2, ()) }
noncomputable def cLayR : Ctr := { f := 18, ps := [.list false tN, .int .i64, .pair (.list false (.int .i64)) (.list false (.int .i64))], rs := [.int .i64], fresh := true, pre := fun d => okLay d.1 d.2.2.1.1 d.2.2.1.2, fn := fun d => (layErr d.1 d.2.1 d.2.2.1.1 d.2.2.1.2, ()) }
theorem dens_lay {F : Env} {w : World} {nets : List (Int × List Int)} {n : Int} {order ts : List Int} {xs : List Value} (hF : OkF w F) (hg : GoodNets nets) (hd : Dens F [nv nets, iv n, yv order ts] xs) :
    ∃ (A A2 A3 : Option Addr) (c c2 c3 : Nat) (l : List NetAt), xs = [.slice A l.length c, .int .i64 n, .agg #[.slice A2 order.length c2, .slice A3 ts.length c3]] ∧ l.map NetAt.net = nets ∧ NetsIn w w.heap.size A l ∧ Row w w.heap.size A2 (order.map (Value.int .i64)) ∧ Row w w.heap.size A3 (ts.map (Value.int .i64)) ∧ order.length ≤ c2 ∧ ts.length ≤ c3 := by
  cases hd with
  | cons d1 d2 =>
    cases d2 with
    | cons d2 d3 =>
      cases d3 with
      | cons d3 d4 =>
        cases d4
        obtain ⟨A, c, l, rfl, h1, h2⟩ := den_nets hF hg d1
        obtain ⟨ys, e1, rfl⟩ := Den.agg_inv (cs := [lv order, lv ts]) d3
        cases e1 with
        | cons e1 e2 =>
          cases e2 with
          | cons e2 e3 =>
            cases e3
            obtain ⟨A2, c2, rfl, hc2, h3⟩ := den_ints hF e1
            obtain ⟨A3, c3, rfl, hc3, h4⟩ := den_ints hF e2
            exact ⟨A, A2, A3, c, c2, c3, l, by rw [d2.raw_eq], h1, h2, h3, h4, hc2, hc3⟩
theorem cLayB_holds (nets : List (Int × List Int)) (n : Int) (order ts : List Int) (h : okLay nets order ts = true) : Holds Tryz.prog true 51 [nv nets, iv n, yv order ts] (iv (layErr nets n order ts)) := holds_raw fun w F xs hF hd => by
  obtain ⟨h1, h2, h3, h4, h5⟩ := okLay_iff h
  obtain ⟨A, A2, A3, c, c2, c3, l, rfl, hl, hN, hR, hS, q2, q3⟩ := dens_lay hF h1 hd
  have hll : l.length = nets.length := by rw [← hl, List.length_map]
  have := CheckLayout_any A A2 A3 c c2 c3 w.heap.size l order ts n w hN hR hS h4 (Nat.le_refl _) (by omega) (by omega) (by omega)
  rw [hl] at this
  exact this
theorem cLayB_ok : cLayB.Ok Tryz.prog := fun ⟨nets, n, ⟨order, ts⟩, _⟩ h => cLayB_holds nets n order ts h
theorem cLayR_holds (nets : List (Int × List Int)) (n : Int) (order ts : List Int) (h : okLay nets order ts = true) : Holds Tryz.prog true 18 [nv nets, iv n, yv order ts] (iv (layErr nets n order ts)) := holds_raw fun w F xs hF hd => by
  obtain ⟨h1, h2, h3, h4, h5⟩ := okLay_iff h
  obtain ⟨A, A2, A3, c, c2, c3, l, rfl, hl, hN, hR, hS, q2, q3⟩ := dens_lay hF h1 hd
  have hll : l.length = nets.length := by rw [← hl, List.length_map]
  have := refCheckLayout_any A A2 A3 c c2 c3 w.heap.size l order ts n w hN hR hS (Nat.le_refl _) (by omega) (by omega) (by omega) (by omega)
  rw [← lay_same, hl] at this
  exact this
theorem cLayR_ok : cLayR.Ok Tryz.prog := fun ⟨nets, n, ⟨order, ts⟩, _⟩ h => cLayR_holds nets n order ts h
/-! ### cliques -/
/-! ### Width -/
/-! ### CheckOrder of the reference, orders of any length -/
end
end Go.Proofs.YtbldpojkpmafpaaGreatDoor

/- Package bus: Crossings of a layout that the check refuses. -/
namespace Go.Proofs.YtbldpojkpmafpaaGreatDoor
open Go.RowKit

set_option maxHeartbeats 8000000 in
set_option maxRecDepth 100000 in
theorem Crossings_bad (A A2 A3 : Option Addr) (c c2 c3 B : Nat) (l : List NetAt) (order ts : List Int) (n : Int) (w : World) (h : NetsIn w B A l) (h2 : Row w B A2 (order.map (Value.int .i64))) (h3 : Row w B A3 (ts.map (Value.int .i64))) (hi : ∀ c ∈ order, I64 c) (hB : B ≤ w.heap.size) (hl : l.length ≤ 140737488355328) (hl2 : order.length ≤ 1000000) (hl3 : ts.length ≤ 1000000)
    (E : Int) (hE : layErr (l.map NetAt.net) n order ts = E) (h0 : E ≠ 0) :
    Calls Tryz.prog 15 #[.slice A l.length c, .int .i64 n, .agg #[.slice A2 order.length c2, .slice A3 ts.length c3]] w fun e w' => e = .returned (.tuple #[.int .i64 0, .int .i64 E]) ∧ Below w.heap.size w w' := by
  have HC := Lib.hid (fun w' (hb : Below w.heap.size w w') => CheckLayout_any A A2 A3 c c2 c3 B l order ts n w' (h.below hb hB) (h2.below hb hB) (h3.below hb hB) hi (by have := hb.size; omega) hl hl2 hl3)
  rw [hE] at HC
  have hne : (E != 0) = true := by rw [bne_iff_ne]; exact h0
  clear h h2 h3 hi hE
  go_enter Tryz.func15, Tryz.ntmps15
  go_wp2_with fail
  generalize hW0 : World.alloc w _ = W0
  have e0 : Below w.heap.size w W0 := by rw [← hW0]; exact (Below.refl _ w).alloc (Nat.le_refl _) _
  clear hW0
  refine (HC.out _ e0).mono ?_
  rintro e w1 ⟨rfl, hb1⟩
  have e1 := below_after e0 hb1 (Nat.le_refl _)
  go_wp2_with fail
  go_ret2
  exact ⟨rfl, e1⟩
end Go.Proofs.YtbldpojkpmafpaaGreatDoor

/- Package bus: Crossings of a layout that the check passes. -/
namespace Go.Proofs.YtbldpojkpmafpaaGreatDoor
open Go.RowKit

theorem col_few (n : Int) : ∀ (cs : List Int) (last : Int), last < n → Bus.colErr n last cs = 0 → (cs.length : Int) ≤ n - 1 - last
  | [], last, h, _ => by simp; omega
  | c :: r, last, h, he => by
    unfold Bus.colErr at he
    split at he
    · cases he
    · split at he
      · cases he
      · rename_i h1 h2
        have := col_few n r c (by omega) he
        simp; omega
theorem nets_few (n : Int) (hn : 1 ≤ n) : ∀ (l : List Bus.Net) (seen : List Int), Bus.netsFrom n seen l = 0 → ∀ x ∈ l, (x.2.length : Int) ≤ n
  | [], _, _ => by intro x hx; cases hx
  | x :: r, seen, h => by
    unfold Bus.netsFrom at h
    split at h
    · cases h
    · split at h
      · cases h
      · split at h
        · cases h
        · split at h
          · exact absurd h (by assumption)
          · intro y hy
            rcases List.mem_cons.1 hy with rfl | hy
            · have := col_few n y.2 (-1) (by omega) (by rename_i h4; exact Classical.not_not.1 h4)
              omega
            · exact nets_few n hn r _ h y hy
theorem cnt_bd (M : Nat) : ∀ (ls : List (List Int)), (∀ x ∈ ls, x.length ≤ M) → cntTo ls ls.length ≤ ls.length * M
  | [], _ => by simp [cntTo]
  | c :: r, h => by
    have h1 := h c List.mem_cons_self
    have h2 := cnt_bd M r fun x hx => h x (List.mem_cons_of_mem _ hx)
    show c.length + cntTo r r.length ≤ (r.length + 1) * M
    rw [Nat.add_mul, Nat.one_mul]; omega
theorem taps_few {l : List NetAt} {n : Int} (h : Bus.netsErr (l.map NetAt.net) n = 0) (Fp : Nat → Int) : (tapFrom Fp 0 (l.map NetAt.cols)).length ≤ 6208 := by
  obtain ⟨n1, n97, l64, _⟩ := Bus.netsErr_zero h
  have hf : Bus.netsFrom n [] (l.map NetAt.net) = 0 := by
    unfold Bus.netsErr at h
    rw [if_neg (by omega), if_neg (by omega)] at h
    exact h
  have hc : ∀ x ∈ l.map NetAt.cols, x.length ≤ 97 := fun x hx => by
    obtain ⟨y, hy, rfl⟩ := List.mem_map.1 hx
    have := nets_few n n1 _ [] hf y.net (List.mem_map_of_mem hy)
    have e : y.net.2 = y.cols := rfl
    rw [e] at this
    omega
  have := cnt_bd 97 (l.map NetAt.cols) hc
  rw [tap_len]
  rw [List.length_map] at this l64 ⊢
  omega

/-- the crossings of a layout, by the program's way -/
def crossOf (nets : List Bus.Net) (order ts : List Int) (most : Int) : Int :=
  (crossRun (tapF (Bus.exts (Bus.atUp order order.length) nets) ts (tapFrom (Bus.atUp order order.length) 0 (nets.map Prod.snd))) most 0 (List.range (tapFrom (Bus.atUp order order.length) 0 (nets.map Prod.snd)).length)).1

set_option maxHeartbeats 8000000 in
set_option maxRecDepth 100000 in
theorem Crossings_ok (A A2 A3 : Option Addr) (c c2 c3 B : Nat) (l : List NetAt) (order ts : List Int) (n : Int) (w : World) (h : NetsIn w B A l) (h2 : Row w B A2 (order.map (Value.int .i64))) (h3 : Row w B A3 (ts.map (Value.int .i64))) (hi : ∀ c ∈ order, I64 c) (hB : B ≤ w.heap.size) (hl : l.length ≤ 140737488355328) (hl2 : order.length ≤ 1000000) (hl3 : ts.length ≤ 1000000)
    (hE : Bus.bothErr (l.map NetAt.net) n order = 0) (hL : layErr (l.map NetAt.net) n order ts = 0) :
    Calls Tryz.prog 15 #[.slice A l.length c, .int .i64 n, .agg #[.slice A2 order.length c2, .slice A3 ts.length c3]] w fun e w' => e = .returned (.tuple #[.int .i64 (crossOf (l.map NetAt.net) order ts 1099511627776), .int .i64 0]) ∧ Below w.heap.size w w' := by
  have HC := Lib.hid (fun w' (hb : Below w.heap.size w w') => CheckLayout_any A A2 A3 c c2 c3 B l order ts n w' (h.below hb hB) (h2.below hb hB) (h3.below hb hB) hi (by have := hb.size; omega) hl hl2 hl3)
  rw [hL] at HC
  obtain ⟨z1, z2⟩ := both_zero hE
  have htl : ts.length = l.length := by
    unfold layErr at hL
    rw [if_neg (fun g => g hE)] at hL
    by_cases h1 : ts.length ≠ (l.map NetAt.net).length
    · rw [if_pos h1] at hL; cases hL
    · rw [List.length_map] at h1; exact Classical.not_not.1 h1
  obtain ⟨n1, n97, l64, hcols⟩ := Bus.netsErr_zero z1
  rw [List.length_map] at l64
  have hc97 : ∀ x ∈ l, ∀ c ∈ x.cols, 0 ≤ c ∧ c < 97 := fun x hx c hc => by
    have := (hcols x.net (List.mem_map_of_mem hx)).2 c hc
    omega
  have hT := taps_few z1 (Bus.atUp order order.length)
  have e1 : (l.map NetAt.net).map Prod.snd = l.map NetAt.cols := by rw [List.map_map]; rfl
  obtain ⟨r, hr⟩ : ∃ r, crossOf (l.map NetAt.net) order ts 1099511627776 = r := ⟨_, rfl⟩
  rw [hr]
  unfold crossOf at hr
  rw [e1] at hr
  have HST := Lib.hid (fun w' (hb : Below w.heap.size w w') => stand_any A A2 c c2 B l order n w' (h.below hb hB) (h2.below hb hB) (by have := hb.size; omega) z2 z1)
  obtain ⟨F, hF⟩ : ∃ F, Bus.atUp order order.length = F := ⟨_, rfl⟩
  rw [hF] at HST hr hT
  have hlen := exts_len F l
  obtain ⟨xs, hxs⟩ : ∃ xs, Bus.exts F (l.map NetAt.net) = xs := ⟨_, rfl⟩
  rw [hxs] at hlen hr
  have HXS := Lib.hid hxs
  obtain ⟨M, hM⟩ : ∃ M : Int, (1099511627776 : Int) = M := ⟨_, rfl⟩
  rw [hM] at hr
  have HCR0 : ∀ (g : Nat) (Ax : Option Addr) (cx : Nat) w' (_ : Below w.heap.size w w') (_ : RowAt w' g (.slice A l.length c) F (.slice Ax xs.length cx)) (_ : Row w' w'.heap.size Ax (xcells xs)),
      Calls Tryz.prog 44 #[.pointer (some ⟨g, 0, none⟩), .slice A3 ts.length c3, .int .i64 M] w' fun e w'' => e = .returned (.int .i64 r) ∧ Below w'.heap.size w' w'' := fun g Ax cx w' hb hrow hx => by
    have := crossings_any g A Ax A3 c cx c3 xs ts F l M w' hrow hx ((h.below hb hB).more (by have := hb.size; omega)) ((h3.below hb hB).more (by have := hb.size; omega)) hlen htl (by omega) hc97 (by omega)
    rw [hr] at this
    exact this
  rw [← hM] at HCR0
  have HCR := Lib.hid HCR0
  clear HCR0 hM
  clear h h2 h3 hi hE hL z1 z2 hcols hc97 hT e1 hr hF hxs M htl
  have HL := Lib.hid hlen
  clear hlen
  go_enter Tryz.func15, Tryz.ntmps15
  go_wp2_with fail
  generalize hW0 : World.alloc w _ = W0
  have d0 : Blk W0 w.heap.size 29 #[.slice A2 order.length c2, .slice A3 ts.length c3] := by rw [← hW0]; exact Blk.new _ _ _
  have e0 : Below w.heap.size w W0 := by rw [← hW0]; exact (Below.refl _ w).alloc (Nat.le_refl _) _
  clear hW0
  refine (HC.out _ e0).mono ?_
  rintro e w1 ⟨rfl, hb1⟩
  have e1 := below_after e0 hb1 (Nat.le_refl _)
  have d1 := d0.below hb1 d0.lt
  have x0 := d1.cell 0
  have x1 := d1.cell 1
  clear d0 e0 hb1 HC
  have e1d := e1.drew
  have d1d := d1.drew
  clear e1 d1
  go_wp2_with fail
  go_region_with (first
    | (go_at_call 42; refine (HST.out _ (by with_reducible assumption)).mono ?_; rintro e w2 ⟨g, v, rfl, hg, hrow, hown, hb2⟩; rw [HXS.out] at hown; obtain ⟨Av, cv, rfl, _, hr⟩ := own_cap hown; have hrow2 : RowAt w2 g (.slice A l.length c) F (.slice Av xs.length cv) := (by rw [HL.out]; exact hrow); have e2 := below_after (B := w.heap.size) (by with_reducible assumption) hb2 (Nat.le_refl _); have HRW := Lib.hid (And.intro hrow2 hr); have x1' := (Blk.below d1d hb2 d1d.lt).cell 1; clear hown hrow hrow2 hr)
    | (go_at_call 44; refine (HCR.out _ _ _ _ (by with_reducible assumption) HRW.out.1 HRW.out.2).mono ?_; rintro e w3 ⟨rfl, hb3⟩))
  all_goals go_wp2_with fail
  all_goals go_ret2
  all_goals exact ⟨rfl, below_after (W := w2) (by with_reducible assumption) (by with_reducible assumption) (Nat.le_refl _)⟩
end Go.Proofs.YtbldpojkpmafpaaGreatDoor

/- Package bus: Crossings and Extents as contracts on plain data. -/
namespace Go.Proofs.YtbldpojkpmafpaaGreatDoor
open Go.RowKit Sv
set_option maxRecDepth 100000
set_option linter.unusedVariables false
theorem holds_pair {f : FuncId} {args : List AV} {a b : Int} {fresh : Bool} (h : ∀ (w : World) (F : Env) (xs : List Value), OkF w F → Dens F args xs → Calls Tryz.prog f xs.toArray w fun e w' => e = .returned (.tuple #[.int .i64 a, .int .i64 b]) ∧ Below w.heap.size w w') :
    Holds Tryz.prog fresh f args (.tuple [iv a, iv b]) := fun w F xs hF hd =>
  (h w F xs hF hd).mono fun e w' ⟨g1, g2⟩ => ⟨_, ⟨F.at', fun _ => none⟩, g1, .tuple (.cons (.raw _) (.cons (.raw _) .nil)), ⟨hF.glob, hF.all, fun b A h => by cases h⟩, (fun b A h => by cases h), g2⟩
noncomputable section
def crsB (nets : List (Int × List Int)) (n : Int) (order ts : List Int) : Int × Int := if layErr nets n order ts = 0 then (crossOf nets order ts 1099511627776, 0) else (0, layErr nets n order ts)
noncomputable def cCrossB : Ctr := { f := 15, ps := [.list false tN, .int .i64, .pair (.list false (.int .i64)) (.list false (.int .i64))], rs := [.int .i64, .int .i64], fresh := true, pre := fun d => okLay d.1 d.2.2.1.1 d.2.2.1.2, fn := fun d => ((crsB d.1 d.2.1 d.2.2.1.1 d.2.2.1.2).1, ((crsB d.1 d.2.1 d.2.2.1.1 d.2.2.1.2).2, ())) }
theorem both_of_lay {nets : List (Int × List Int)} {n : Int} {order ts : List Int} (h : layErr nets n order ts = 0) : Bus.bothErr nets n order = 0 := by
  unfold layErr at h
  by_cases hE : Bus.bothErr nets n order = 0
  · exact hE
  · rw [if_pos hE] at h; exact absurd h hE
theorem cross_holds (nets : List (Int × List Int)) (n : Int) (order ts : List Int) (h : okLay nets order ts = true) : Holds Tryz.prog true 15 [nv nets, iv n, yv order ts] (.tuple [iv (crsB nets n order ts).1, iv (crsB nets n order ts).2]) := by
  obtain ⟨h1, h2, h3, h4, h5⟩ := okLay_iff h
  refine holds_pair fun w F xs hF hd => ?_
  obtain ⟨A, A2, A3, c, c2, c3, l, rfl, hl, hN, hR, hS, q2, q3⟩ := dens_lay hF h1 hd
  have hll : l.length = nets.length := by rw [← hl, List.length_map]
  by_cases hE : layErr nets n order ts = 0
  · have e : crsB nets n order ts = (crossOf nets order ts 1099511627776, 0) := by unfold crsB; rw [if_pos hE]
    rw [e]
    have := Crossings_ok A A2 A3 c c2 c3 w.heap.size l order ts n w hN hR hS h4 (Nat.le_refl _) (by omega) (by omega) (by omega) (by rw [hl]; exact both_of_lay hE) (by rw [hl]; exact hE)
    rw [hl] at this
    exact this
  · have e : crsB nets n order ts = (0, layErr nets n order ts) := by unfold crsB; rw [if_neg hE]
    rw [e]
    exact Crossings_bad A A2 A3 c c2 c3 w.heap.size l order ts n w hN hR hS h4 (Nat.le_refl _) (by omega) (by omega) (by omega) (layErr nets n order ts) (by rw [hl]) hE
theorem cCrossB_ok : cCrossB.Ok Tryz.prog := fun ⟨nets, n, ⟨order, ts⟩, _⟩ h => cross_holds nets n order ts h

/-! ### Extents -/
theorem fresh_den {w' : World} {n0 : Nat} {at' : Nat → Option (Nat × Nat)} {t : Ty} {xs : List t.den} {ys : List Value} {A : Option Addr} {c : Nat} (h : Row w' w'.heap.size A ys) (hd : Dens ⟨at', fun b => if n0 ≤ b then cellsOf? w' b else none⟩ (t.flat xs) ys) (hs : 1 ≤ t.size) (hf : xs = [] ∨ FreshA n0 A) (hc : xs.length ≤ c) :
    Den ⟨at', fun b => if n0 ≤ b then cellsOf? w' b else none⟩ (.lst false t xs) (.slice A xs.length c) := by
  by_cases hx : xs = []
  · subst hx; exact .lstNil fun e => by cases e
  · have hf := hf.resolve_left hx
    have hlen := hd.length
    rw [t.flat_len] at hlen
    have hxl : 0 < xs.length := List.length_pos_iff.2 hx
    have hpos : 0 < ys.length := by rw [hlen]; exact Nat.mul_pos hxl hs
    rcases h with h | ⟨b, off, rfl, hlt, hcs⟩
    · subst h; exact absurd hpos (Nat.lt_irrefl 0)
    · have hb := hf b off rfl
      have h0 := hcs 0 hpos
      cases ho : w'.heap[b]? with
      | none => simp [World.cell?, ho] at h0
      | some o =>
        cases o with
        | cells Arr e fr =>
          have hall : ∀ i (hi : i < ys.length), Arr[off + i]? = some ys[i] := fun i hi => by
            have := hcs i hi
            rw [cell_of ho] at this
            rw [this]
            simp [List.getD_eq_getElem?_getD, List.getElem?_eq_getElem hi]
          have hsz : off + ys.length ≤ Arr.size := by
            have := hall (ys.length - 1) (by omega)
            have := (Array.getElem?_eq_some_iff.1 this).1
            omega
          have hfl : (t.flat xs).length = ys.length := hd.length.symm
          have hys : (Arr.toList.drop off).take (t.flat xs).length = ys := by
            rw [hfl]
            apply List.ext_getElem?
            intro i
            rw [List.getElem?_take]
            by_cases hi : i < ys.length
            · rw [if_pos hi, List.getElem?_drop, Array.getElem?_toList, hall i hi, List.getElem?_eq_getElem hi]
            · rw [if_neg hi, List.getElem?_eq_none (by omega)]
          refine .lst (A := Arr) (b := b) (off := off) ?_ (by rw [hfl]; exact hsz) hys hd hc fun e => by cases e
          show (if n0 ≤ b then cellsOf? w' b else none) = some Arr
          rw [if_pos hb]; exact cellsOf?_some.2 ⟨e, fr, ho⟩
        | _ => simp [World.cell?, ho] at h0
end
noncomputable section
end
end Go.Proofs.YtbldpojkpmafpaaGreatDoor

/- Package bus, plain: columns under other numbers leave the extents and the crossings as they were. -/
namespace Go.Proofs.YtbldpojkpmafpaaGreatDoor
open Go.RowKit Sv
set_option linter.unusedVariables false
def isum : List Int → Int
  | [] => 0
  | x :: r => x + isum r
theorem isum_app : ∀ (a b : List Int), isum (a ++ b) = isum a + isum b
  | [], b => by simp [isum]
  | x :: r, b => by
    show x + isum (r ++ b) = x + isum r + isum b
    rw [isum_app r b]; omega
/-! ### the columns under other numbers -/
def nameOf (names : List Int) (x : Int) : Int := names.getD x.toNat 0
section
variable {nets : List (Int × List Int)} {n : Int} {order names : List Int}
theorem name_in (hN : Bus.orderErr names n = 0) {x : Int} (hx : 0 ≤ x ∧ x < n) : 0 ≤ nameOf names x ∧ nameOf names x < n := by
  obtain ⟨h1, h2, h3⟩ := Bus.orderErr_zero hN
  unfold nameOf
  rw [getD_lt (by omega)]
  exact h3 _ (List.getElem_mem _)
theorem name_inj (hN : Bus.orderErr names n = 0) {x y : Int} (hx : 0 ≤ x ∧ x < n) (hy : 0 ≤ y ∧ y < n) (h : nameOf names x = nameOf names y) : x = y := by
  obtain ⟨h1, h2, h3⟩ := Bus.orderErr_zero hN
  unfold nameOf at h
  rw [getD_lt (by omega), getD_lt (by omega)] at h
  have := (List.getElem_inj h2).1 h
  omega
/-! ### strictly ascending -/
/-! ### nets and order under other numbers -/
def renOrd (names order : List Int) : List Int := order.map (nameOf names)
theorem ren_at (hO : Bus.orderErr order n = 0) (hN : Bus.orderErr names n = 0) {c : Int} (hc : 0 ≤ c ∧ c < n) : ∀ k, k ≤ order.length → Bus.atUp (renOrd names order) k (nameOf names c).toNat = Bus.atUp order k c.toNat
  | 0, _ => rfl
  | k + 1, hk => by
    obtain ⟨o1, o2, o3⟩ := Bus.orderErr_zero hO
    have ih := ren_at hO hN hc k (by omega)
    have hk' : k < order.length := by omega
    have hm := o3 _ (List.getElem_mem hk')
    have hn := name_in hN hc
    have e1 : (renOrd names order).getD k (-1) = nameOf names order[k] := by
      unfold renOrd
      simp [List.getD_eq_getElem?_getD, hk']
    have e2 : order.getD k (-1) = order[k] := by simp [List.getD_eq_getElem?_getD, hk']
    unfold Bus.atUp
    rw [ih, e1, e2]
    by_cases h : c = order[k]
    · rw [if_pos (by rw [← h]; omega), if_pos (by omega)]
    · rw [if_neg (fun e => h (name_inj hN hc hm (by omega))), if_neg (by omega)]
/-! ### the crossings -/
theorem run_free (f : Nat → Int) (most : Int) (L : Nat) (hf : ∀ x, 0 ≤ f x ∧ f x ≤ L) : ∀ (pre : List Nat) (s0 : Int), 0 ≤ s0 → s0 + (pre.length * L : Nat) ≤ most → crossRun f most s0 pre = (s0 + isum (pre.map f), false)
  | [], s0, _, _ => by simp [crossRun, isum]
  | x :: r, s0, h0, h => by
    have h1 := hf x
    have e : ((x :: r).length * L : Nat) = r.length * L + L := by rw [List.length_cons, Nat.add_mul, Nat.one_mul]
    rw [e] at h
    unfold crossRun
    rw [if_neg (by omega), run_free f most L hf r (s0 + f x) (by omega) (by omega)]
    show (s0 + f x + isum (r.map f), false) = (s0 + (f x + isum (r.map f)), false)
    rw [Int.add_assoc]
theorem range_getD (taps : List (Nat × Int)) (h : Nat × Int → Int) : (List.range taps.length).map (fun x => h (taps.getD x (0, 0))) = taps.map h := by
  apply List.ext_getElem
  · simp
  · intro i h1 h2
    have hi : i < taps.length := by simpa using h1
    simp [List.getD_eq_getElem?_getD, hi]
/-- the crossings as a sum over all taps -/
def crossSum (xs : List (Int × Int)) (ts : List Int) (taps : List (Nat × Int)) : Int := isum (taps.map fun t => crossUp xs ts t.1 t.2 xs.length)
theorem cross_sum (hE : Bus.bothErr nets n order = 0) (ts : List Int) : crossOf nets order ts 1099511627776 = crossSum (extsOf nets order) ts (tapFrom (Bus.atUp order order.length) 0 (nets.map Prod.snd)) := by
  obtain ⟨e1, e2⟩ := both_iff.1 hE
  obtain ⟨n1, n97, l64, _⟩ := Bus.netsErr_zero e1
  have hT := taps_few (l := mkNets nets) (n := n) (by rw [mkNets_net]; exact e1) (Bus.atUp order order.length)
  have e : (mkNets nets).map NetAt.cols = nets.map Prod.snd := by
    have : (mkNets nets).map NetAt.cols = ((mkNets nets).map NetAt.net).map Prod.snd := by rw [List.map_map]; rfl
    rw [this, mkNets_net]
  rw [e] at hT
  have hxl := extsOf_len nets order
  unfold crossOf
  have hf : ∀ x, 0 ≤ tapF (extsOf nets order) ts (tapFrom (Bus.atUp order order.length) 0 (nets.map Prod.snd)) x ∧ tapF (extsOf nets order) ts (tapFrom (Bus.atUp order order.length) 0 (nets.map Prod.snd)) x ≤ (64 : Nat) := fun x => by
    unfold tapF
    have := crossUp_lo (extsOf nets order) ts ((tapFrom (Bus.atUp order order.length) 0 (nets.map Prod.snd)).getD x (0, 0)).1 ((tapFrom (Bus.atUp order order.length) 0 (nets.map Prod.snd)).getD x (0, 0)).2 (extsOf nets order).length
    omega
  have hb : (List.range (tapFrom (Bus.atUp order order.length) 0 (nets.map Prod.snd)).length).length * 64 ≤ 6208 * 64 := Nat.mul_le_mul_right _ (by rw [List.length_range]; exact hT)
  have hr := run_free _ 1099511627776 64 hf (List.range (tapFrom (Bus.atUp order order.length) 0 (nets.map Prod.snd)).length) 0 (Int.le_refl _) (by omega)
  have hr2 := congrArg Prod.fst hr
  refine hr2.trans ?_
  show 0 + isum _ = crossSum _ _ _
  rw [Int.zero_add]
  unfold crossSum
  rw [← range_getD]
  rfl
end
end Go.Proofs.YtbldpojkpmafpaaGreatDoor

/- Package bus and its reference, plain: the crossings, the table of the tracks, the bound. -/
namespace Go.Proofs.YtbldpojkpmafpaaGreatDoor
open Go.RowKit Sv
set_option linter.unusedVariables false
/-- the sum of f 0 .. f (n - 1) -/
def sm (f : Nat → Int) : Nat → Int
  | 0 => 0
  | k + 1 => sm f k + f k
theorem sm_congr {f g : Nat → Int} : ∀ {n : Nat}, (∀ k, k < n → f k = g k) → sm f n = sm g n
  | 0, _ => rfl
  | n + 1, h => by rw [sm, sm, sm_congr fun k hk => h k (by omega), h n (by omega)]
theorem sm_add (f g : Nat → Int) : ∀ n, sm (fun k => f k + g k) n = sm f n + sm g n
  | 0 => rfl
  | n + 1 => by rw [sm, sm, sm, sm_add f g n]; omega
theorem sm_zero : ∀ n, sm (fun _ => 0) n = 0
  | 0 => rfl
  | n + 1 => by rw [sm, sm_zero n]; rfl
theorem sm_swap (f : Nat → Nat → Int) (m : Nat) : ∀ n, sm (fun i => sm (f i) m) n = sm (fun j => sm (fun i => f i j) n) m
  | 0 => by
    show (0 : Int) = sm (fun _ => 0) m
    rw [sm_zero]
  | n + 1 => by
    rw [sm, sm_swap f m n, ← sm_add]; rfl
theorem sm_cons (f : Nat → Int) : ∀ n, sm f (n + 1) = f 0 + sm (fun k => f (k + 1)) n
  | 0 => by simp [sm]
  | n + 1 => by rw [sm, sm_cons f n, sm]; omega
theorem sm_ite (p : Prop) [Decidable p] (f : Nat → Int) (n : Nat) : sm (fun k => if p then f k else 0) n = if p then sm f n else 0 := by
  by_cases h : p
  · simp only [if_pos h]
  · simp only [if_neg h, sm_zero]
theorem sm_bd {f : Nat → Int} {L : Int} : ∀ {n : Nat}, (∀ k, k < n → 0 ≤ f k ∧ f k ≤ L) → 0 ≤ sm f n ∧ sm f n ≤ n * L
  | 0, _ => by simp [sm]
  | n + 1, h => by
    obtain ⟨h1, h2⟩ := sm_bd (n := n) fun k hk => h k (by omega)
    obtain ⟨h3, h4⟩ := h n (by omega)
    have e : ((n + 1 : Nat) : Int) * L = n * L + L := by rw [Int.natCast_add, Int.add_mul]; simp
    rw [sm, e]; omega
theorem isum_sm (g : Int → Int) : ∀ l : List Int, isum (l.map g) = sm (fun k => g (l.getD k 0)) l.length
  | [] => rfl
  | x :: r => by
    show g x + isum (r.map g) = _
    rw [List.length_cons, sm_cons, isum_sm g r]; simp
theorem tap_sm (h : Nat × Int → Int) (F : Nat → Int) : ∀ (ls : List (List Int)) (i : Nat), isum ((tapFrom F i ls).map h) = sm (fun j => sm (fun c => h (i + j, F ((ls.getD j []).getD c 0).toNat)) (ls.getD j []).length) ls.length
  | [], i => rfl
  | c :: r, i => by
    show isum ((c.map (fun x => (i, F x.toNat)) ++ tapFrom F (i + 1) r).map h) = _
    rw [List.map_append, isum_app, List.map_map, tap_sm h F r (i + 1), List.length_cons, sm_cons]
    have e := isum_sm (h ∘ fun x => (i, F x.toNat)) c
    rw [e]
    congr 1
    refine sm_congr fun j _ => ?_
    have : i + 1 + j = i + (j + 1) := by omega
    rw [this]; simp
/-- one of the members of a list alone is asked for -/
theorem pick_isum (f : Int → Int) (t : Int) : ∀ u : List Int, u.Nodup → isum (u.map fun x => if t = x then f x else 0) = if t ∈ u then f t else 0
  | [], _ => by simp [isum]
  | x :: r, h => by
    obtain ⟨h1, h2⟩ := List.nodup_cons.1 h
    have ih := pick_isum f t r h2
    show (if t = x then f x else 0) + isum (r.map _) = _
    rw [ih]
    by_cases e : t = x
    · subst e
      rw [if_pos rfl, if_neg h1, if_pos List.mem_cons_self]; omega
    · rw [if_neg e]
      by_cases hm : t ∈ r
      · rw [if_pos hm, if_pos (List.mem_cons_of_mem _ hm)]; omega
      · rw [if_neg hm, if_neg (by intro hh; rcases List.mem_cons.1 hh with hh | hh; exact e hh; exact hm hh)]; rfl
theorem pick_sm (f : Int → Int) (t : Int) (u : List Int) (hu : u.Nodup) (ht : t ∈ u) : sm (fun i => if t = u.getD i 0 then f (u.getD i 0) else 0) u.length = f t := by
  have := pick_isum f t u hu
  rw [if_pos ht, isum_sm] at this
  exact this

/-! ### the reference's sums -/
/-- the lesser of two numbers, as the program says it -/
abbrev mn (x y : Int) : Int := if y < x then y else x
def ovR (nets : List (Int × List Int)) (order ts : List Int) (tr p : Int) (i : Nat) : Int := sm (fun k => if ts.getD k 0 = tr ∧ covR (refExt order (nets.getD k (0, [])).2) p = true then 1 else 0) i
def tapR (nets : List (Int × List Int)) (order ts : List Int) (below : Int) (j c : Nat) : Int := sm (fun c => ovR nets order ts below (Bus.pos order ((nets.getD j (0, [])).2.getD c 0)) nets.length) c
def undR (nets : List (Int × List Int)) (order ts : List Int) (below above : Int) (i : Nat) : Int := sm (fun j => if ts.getD j 0 = above then tapR nets order ts below j (nets.getD j (0, [])).2.length else 0) i
def usedR (ts : List Int) : Nat → List Int
  | 0 => []
  | t + 1 => if (t : Int) ∈ ts then usedR ts t ++ [(t : Int)] else usedR ts t
def crsRow (nets : List (Int × List Int)) (order ts u : List Int) (i k : Nat) : Int := sm (fun k => undR nets order ts (u.getD k 0) (u.getD i 0) nets.length) k
def crsR (nets : List (Int × List Int)) (order ts u : List Int) (i : Nat) : Int := sm (fun i => crsRow nets order ts u i i) i
def bndRow (nets : List (Int × List Int)) (order ts u : List Int) (i k : Nat) : Int := sm (fun k => mn (undR nets order ts (u.getD k 0) (u.getD i 0) nets.length) (undR nets order ts (u.getD i 0) (u.getD k 0) nets.length)) k
def bndR (nets : List (Int × List Int)) (order ts u : List Int) (i : Nat) : Int := sm (fun i => bndRow nets order ts u i i) i
theorem used_mem (ts : List Int) (x : Int) : ∀ t, x ∈ usedR ts t ↔ x ∈ ts ∧ 0 ≤ x ∧ x < t
  | 0 => by simp [usedR]
  | t + 1 => by
    have ih := used_mem ts x t
    unfold usedR
    split
    · rename_i h
      rw [List.mem_append, ih, List.mem_singleton]
      constructor
      · rintro (⟨a, b, c⟩ | rfl)
        · exact ⟨a, b, by omega⟩
        · exact ⟨h, by omega, by omega⟩
      · rintro ⟨a, b, c⟩
        by_cases e : x = t
        · exact .inr e
        · exact .inl ⟨a, b, by omega⟩
    · rename_i h
      rw [ih]
      constructor
      · rintro ⟨a, b, c⟩; exact ⟨a, b, by omega⟩
      · rintro ⟨a, b, c⟩
        refine ⟨a, b, ?_⟩
        by_cases e : x = t
        · subst e; exact absurd a h
        · omega
theorem used_asc (ts : List Int) : ∀ t, (usedR ts t).Pairwise (· < ·)
  | 0 => List.Pairwise.nil
  | t + 1 => by
    have ih := used_asc ts t
    unfold usedR
    split
    · rw [List.pairwise_append]
      refine ⟨ih, List.pairwise_singleton _ _, fun x hx y hy => ?_⟩
      rw [List.mem_singleton] at hy; subst hy
      exact ((used_mem ts x t).1 hx).2.2
    · exact ih
theorem used_len (ts : List Int) : ∀ t, (usedR ts t).length ≤ t
  | 0 => by simp [usedR]
  | t + 1 => by
    have ih := used_len ts t
    unfold usedR
    split
    · simp; omega
    · omega
theorem asc_nodup {u : List Int} (h : u.Pairwise (· < ·)) : u.Nodup := by
  unfold List.Nodup
  exact h.imp fun h e => by omega
theorem asc_lt {u : List Int} (h : u.Pairwise (· < ·)) {i k : Nat} (hi : i < u.length) (hk : k < u.length) : u.getD k 0 < u.getD i 0 ↔ k < i := by
  have key : ∀ {a b : Nat}, a < u.length → b < u.length → a < b → u.getD a 0 < u.getD b 0 := fun {a b} ha hb hab => by
    have := List.pairwise_iff_getElem.1 h a b ha hb hab
    simpa [List.getD_eq_getElem?_getD, ha, hb] using this
  constructor
  · intro hlt
    by_cases e : k < i
    · exact e
    · rcases Nat.lt_or_ge i k with g | g
      · have := key hi hk g; omega
      · obtain rfl : k = i := by omega
        omega
  · exact key hk hi
theorem asc_eq : ∀ (a b : List Int), a.Pairwise (· < ·) → b.Pairwise (· < ·) → (∀ x, x ∈ a ↔ x ∈ b) → a = b
  | [], [], _, _, _ => rfl
  | [], y :: b, _, _, h => by have := (h y).2 List.mem_cons_self; cases this
  | x :: a, [], _, _, h => by have := (h x).1 List.mem_cons_self; cases this
  | x :: a, y :: b, ha, hb, h => by
    obtain ⟨a1, a2⟩ := List.pairwise_cons.1 ha
    obtain ⟨b1, b2⟩ := List.pairwise_cons.1 hb
    have e : x = y := by
      rcases List.mem_cons.1 ((h x).1 List.mem_cons_self) with e | e
      · exact e
      · rcases List.mem_cons.1 ((h y).2 List.mem_cons_self) with e2 | e2
        · exact e2.symm
        · have := b1 x e; have := a1 y e2; omega
    subst e
    rw [asc_eq a b a2 b2 fun z => ?_]
    constructor
    · intro hz
      rcases List.mem_cons.1 ((h z).1 (List.mem_cons_of_mem _ hz)) with e | e
      · have := a1 z hz; omega
      · exact e
    · intro hz
      rcases List.mem_cons.1 ((h z).2 (List.mem_cons_of_mem _ hz)) with e | e
      · have := b1 z hz; omega
      · exact e
theorem sm_below (f : Nat → Int) (i : Nat) : ∀ m, i ≤ m → sm (fun k => if k < i then f k else 0) m = sm f i
  | 0, h => by obtain rfl : i = 0 := by omega
               rfl
  | m + 1, h => by
    rw [sm]
    by_cases e : i = m + 1
    · subst e
      rw [if_pos (by omega), sm]
      congr 1
      exact sm_congr fun k hk => by rw [if_pos (by omega)]
    · rw [sm_below f i m (by omega), if_neg (by omega)]; omega
/-- sums over the pairs of two tracks -/
theorem pairs_sm {u : List Int} (h : u.Pairwise (· < ·)) (g : Int → Int → Int) : sm (fun i => sm (fun k => g (u.getD k 0) (u.getD i 0)) i) u.length = sm (fun i => sm (fun k => if u.getD k 0 < u.getD i 0 then g (u.getD k 0) (u.getD i 0) else 0) u.length) u.length :=
  sm_congr fun i hi => by
    rw [← sm_below (fun k => g (u.getD k 0) (u.getD i 0)) i u.length (by omega)]
    refine sm_congr fun k hk => ?_
    have := asc_lt h hi hk
    by_cases e : k < i
    · rw [if_pos e, if_pos (this.2 e)]
    · rw [if_neg e, if_neg fun hh => e (this.1 hh)]
theorem pick_cond (a b : Prop) [Decidable a] [Decidable b] (x : Int) : (if a then (if b then x else 0) else 0) = if b then (if a then x else 0) else 0 := by
  by_cases ha : a <;> by_cases hb : b <;> simp [ha, hb]
theorem ite_swap3 (a b c : Prop) [Decidable a] [Decidable b] [Decidable c] : (if a then (if b ∧ c then (1 : Int) else 0) else 0) = if b then (if a ∧ c then 1 else 0) else 0 := by
  by_cases ha : a <;> by_cases hb : b <;> simp [ha, hb]
theorem hit_ite {x y a b : Int} {c : Prop} [Decidable c] (hab : a ≠ b) : (if x = a ∧ y = b ∧ x ≠ y ∧ c then (1 : Int) else 0) = if y = b then (if x = a ∧ c then 1 else 0) else 0 := by
  by_cases h1 : y = b
  · subst h1
    by_cases h2 : x = a
    · subst h2; simp [hab]
    · simp [h2]
  · simp [h1]
/-- the nets below a track that cover a position -/
theorem below_pick {u ts : List Int} (hu : u.Nodup) {n : Nat} (hm : ∀ k, k < n → ts.getD k 0 ∈ u) (t : Int) (q : Nat → Bool) :
    sm (fun k => if u.getD k 0 < t then sm (fun j => if ts.getD j 0 = u.getD k 0 ∧ q j = true then 1 else 0) n else 0) u.length = sm (fun j => if ts.getD j 0 < t ∧ q j = true then 1 else 0) n := by
  have e1 : sm (fun k => if u.getD k 0 < t then sm (fun j => if ts.getD j 0 = u.getD k 0 ∧ q j = true then 1 else 0) n else 0) u.length = sm (fun k => sm (fun j => if ts.getD j 0 = u.getD k 0 then (if u.getD k 0 < t ∧ q j = true then 1 else 0) else 0) n) u.length :=
    sm_congr fun k _ => by
      rw [← sm_ite]
      refine sm_congr fun j _ => ?_
      exact ite_swap3 _ _ _
  rw [e1, sm_swap]
  refine sm_congr fun j hj => ?_
  exact pick_sm (fun x => if x < t ∧ q j = true then 1 else 0) (ts.getD j 0) u hu (hm j hj)
theorem crs_eq (nets : List (Int × List Int)) (order ts u : List Int) (hu : u.Pairwise (· < ·)) (hm : ∀ k, k < nets.length → ts.getD k 0 ∈ u) :
    crsR nets order ts u u.length = sm (fun j => sm (fun c => sm (fun k => if ts.getD k 0 < ts.getD j 0 ∧ covR (refExt order (nets.getD k (0, [])).2) (Bus.pos order ((nets.getD j (0, [])).2.getD c 0)) = true then 1 else 0) nets.length) (nets.getD j (0, [])).2.length) nets.length := by
  have h1 : crsR nets order ts u u.length = sm (fun i => sm (fun k => if u.getD k 0 < u.getD i 0 then undR nets order ts (u.getD k 0) (u.getD i 0) nets.length else 0) u.length) u.length := pairs_sm hu fun b a => undR nets order ts b a nets.length
  have h2 : ∀ i, sm (fun k => if u.getD k 0 < u.getD i 0 then undR nets order ts (u.getD k 0) (u.getD i 0) nets.length else 0) u.length =
      sm (fun j => if ts.getD j 0 = u.getD i 0 then sm (fun k => if u.getD k 0 < u.getD i 0 then tapR nets order ts (u.getD k 0) j (nets.getD j (0, [])).2.length else 0) u.length else 0) nets.length := fun i => by
    have e : ∀ k, (if u.getD k 0 < u.getD i 0 then undR nets order ts (u.getD k 0) (u.getD i 0) nets.length else 0) = sm (fun j => if ts.getD j 0 = u.getD i 0 then (if u.getD k 0 < u.getD i 0 then tapR nets order ts (u.getD k 0) j (nets.getD j (0, [])).2.length else 0) else 0) nets.length := fun k => by
      unfold undR
      rw [← sm_ite]
      exact sm_congr fun j _ => pick_cond _ _ _
    rw [sm_congr fun k _ => e k, sm_swap]
    exact sm_congr fun j _ => sm_ite _ _ _
  rw [h1, sm_congr fun i _ => h2 i, sm_swap]
  refine sm_congr fun j hj => ?_
  rw [pick_sm (fun t => sm (fun k => if u.getD k 0 < t then tapR nets order ts (u.getD k 0) j (nets.getD j (0, [])).2.length else 0) u.length) (ts.getD j 0) u (asc_nodup hu) (hm j hj)]
  have h3 : ∀ k, (if u.getD k 0 < ts.getD j 0 then tapR nets order ts (u.getD k 0) j (nets.getD j (0, [])).2.length else 0) = sm (fun c => if u.getD k 0 < ts.getD j 0 then ovR nets order ts (u.getD k 0) (Bus.pos order ((nets.getD j (0, [])).2.getD c 0)) nets.length else 0) (nets.getD j (0, [])).2.length := fun k => by
    unfold tapR
    rw [sm_ite]
  rw [sm_congr fun k _ => h3 k, sm_swap]
  exact sm_congr fun c _ => below_pick (asc_nodup hu) hm (ts.getD j 0) fun k => covR (refExt order (nets.getD k (0, [])).2) (Bus.pos order ((nets.getD j (0, [])).2.getD c 0))

/-! ### the program's table -/
def hitI (xs : List (Int × Int)) (ts : List Int) (t : Nat × Int) (a b : Int) (k : Nat) : Int := if ts.getD k 0 = a ∧ ts.getD t.1 0 = b ∧ ts.getD k 0 ≠ ts.getD t.1 0 ∧ covB xs k t.2 = true then 1 else 0
def tapI (xs : List (Int × Int)) (ts : List Int) (t : Nat × Int) (a b : Int) (k : Nat) : Int := sm (hitI xs ts t a b) k
def tabI (xs : List (Int × Int)) (ts : List Int) (taps : List (Nat × Int)) (a b : Int) : Int := isum (taps.map fun t => tapI xs ts t a b xs.length)
theorem tap_bd (xs : List (Int × Int)) (ts : List Int) (t : Nat × Int) (a b : Int) (k : Nat) : 0 ≤ tapI xs ts t a b k ∧ tapI xs ts t a b k ≤ k := by
  have := sm_bd (f := hitI xs ts t a b) (L := 1) (n := k) fun j _ => by unfold hitI; split <;> omega
  unfold tapI; omega
theorem isum_bd {α : Type} (f : α → Int) (L : Nat) (h : ∀ x, 0 ≤ f x ∧ f x ≤ L) : ∀ l : List α, 0 ≤ isum (l.map f) ∧ isum (l.map f) ≤ (l.length * L : Nat)
  | [] => by simp [isum]
  | x :: r => by
    have h1 := isum_bd f L h r
    have h2 := h x
    have e : ((x :: r).length * L : Nat) = r.length * L + L := by rw [List.length_cons, Nat.add_mul, Nat.one_mul]
    rw [e]
    show 0 ≤ f x + isum (r.map f) ∧ f x + isum (r.map f) ≤ _
    omega
theorem cross_up_sm (xs : List (Int × Int)) (ts : List Int) (i : Nat) (p : Int) : ∀ k, crossUp xs ts i p k = sm (fun k => if ts.getD k 0 < ts.getD i 0 ∧ covB xs k p = true then 1 else 0) k
  | 0 => rfl
  | k + 1 => by
    rw [crossUp, cross_up_sm xs ts i p k, sm]
    congr 1
    by_cases b : covB xs k p = true
    · rw [b, Bool.and_true]; simp
    · have b : covB xs k p = false := by simpa using b
      rw [b, Bool.and_false]; simp
theorem cols_at (nets : List (Int × List Int)) (j : Nat) : (nets.map Prod.snd).getD j [] = (nets.getD j (0, [])).2 := by
  simp only [List.getD_eq_getElem?_getD, List.getElem?_map]
  cases nets[j]? <;> rfl
theorem cov_at {nets : List (Int × List Int)} {n : Int} {order : List Int} (hE : Bus.bothErr nets n order = 0) {k : Nat} (hk : k < nets.length) (p : Int) : covB (extsOf nets order) k p = covR (refExt order (nets.getD k (0, [])).2) p := by
  unfold covB covR
  rw [(ext_at hE k hk).1]
theorem pos_at {nets : List (Int × List Int)} {n : Int} {order : List Int} (hE : Bus.bothErr nets n order = 0) {j c : Nat} (hj : j < nets.length) (hc : c < (nets.getD j (0, [])).2.length) :
    Bus.atUp order order.length ((nets.getD j (0, [])).2.getD c 0).toNat = Bus.pos order ((nets.getD j (0, [])).2.getD c 0) := by
  obtain ⟨e1, e2⟩ := both_iff.1 hE
  obtain ⟨n1, n97, l64, hcols⟩ := Bus.netsErr_zero e1
  obtain ⟨on, ond, oin⟩ := Bus.orderErr_zero e2
  have hm : (nets.getD j (0, [])).2.getD c 0 ∈ (nets.getD j (0, [])).2 := by
    rw [getD_lt hc]; exact List.getElem_mem _
  have h0 := (hcols _ (getN_mem hj)).2 _ hm
  generalize (nets.getD j (0, [])).2.getD c 0 = x at *
  obtain ⟨X, rfl⟩ : ∃ X : Nat, x = (X : Int) := ⟨x.toNat, by omega⟩
  rw [Int.toNat_natCast]
  exact atUp_pos order ond X (has_all order.length order ond rfl (fun d hd => by have := oin d hd; omega) _ h0.1 (by omega))
theorem crs_same {nets : List (Int × List Int)} {n : Int} {order ts u : List Int} (hE : Bus.bothErr nets n order = 0) (hu : u.Pairwise (· < ·)) (hm : ∀ k, k < nets.length → ts.getD k 0 ∈ u) :
    crossOf nets order ts 1099511627776 = crsR nets order ts u u.length := by
  rw [cross_sum hE, crs_eq nets order ts u hu hm]
  unfold crossSum
  rw [tap_sm, List.length_map]
  refine sm_congr fun j hj => ?_
  rw [cols_at]
  refine sm_congr fun c hc => ?_
  rw [cross_up_sm, extsOf_len, Nat.zero_add]
  refine sm_congr fun k hk => ?_
  simp only [cov_at hE hk, pos_at hE hj hc]
theorem tab_und {nets : List (Int × List Int)} {n : Int} {order : List Int} (hE : Bus.bothErr nets n order = 0) (ts : List Int) {a b : Int} (hab : a ≠ b) :
    tabI (extsOf nets order) ts (tapFrom (Bus.atUp order order.length) 0 (nets.map Prod.snd)) a b = undR nets order ts a b nets.length := by
  unfold tabI
  rw [tap_sm, List.length_map]
  unfold undR
  refine sm_congr fun j hj => ?_
  rw [cols_at]
  unfold tapR
  rw [← sm_ite]
  refine sm_congr fun c hc => ?_
  unfold tapI ovR
  rw [extsOf_len, Nat.zero_add, ← sm_ite]
  refine sm_congr fun k hk => ?_
  unfold hitI
  simp only [cov_at hE hk, pos_at hE hj hc]
  exact hit_ite hab
/-! ### the tracks that are used -/
theorem compact_asc {d : Array Int} (hd : ∀ i j, i ≤ j → j < d.size → d[i]! ≤ d[j]!) : ∀ m, m ≤ d.size → (Lib.compactUpTo d m).Pairwise (· < ·) ∧ ∀ x, x ∈ Lib.compactUpTo d m ↔ ∃ j, j < m ∧ d[j]! = x
  | 0, _ => by
    refine ⟨by simp [Lib.compactUpTo], fun x => ?_⟩
    simp [Lib.compactUpTo]
  | m + 1, hm => by
    obtain ⟨h1, h2⟩ := compact_asc hd m (by omega)
    rw [Lib.compactUpTo_succ]
    by_cases hk : Lib.keeps d m = true
    · rw [if_pos hk]
      have hk' : m = 0 ∨ d[m]! ≠ d[m - 1]! := by unfold Lib.keeps at hk; exact of_decide_eq_true hk
      refine ⟨?_, fun x => ?_⟩
      · rw [List.pairwise_append]
        refine ⟨h1, List.pairwise_singleton _ _, fun x hx y hy => ?_⟩
        rw [List.mem_singleton] at hy; subst hy
        obtain ⟨j, hj, rfl⟩ := (h2 x).1 hx
        have e1 := hd j (m - 1) (by omega) (by omega)
        have e2 := hd (m - 1) m (by omega) (by omega)
        have := hk'.resolve_left (by omega)
        omega
      · rw [List.mem_append, h2, List.mem_singleton]
        constructor
        · rintro (⟨j, hj, e⟩ | e)
          · exact ⟨j, by omega, e⟩
          · exact ⟨m, by omega, e.symm⟩
        · rintro ⟨j, hj, e⟩
          by_cases hjm : j = m
          · subst hjm; exact .inr e.symm
          · exact .inl ⟨j, by omega, e⟩
    · rw [if_neg hk, List.append_nil]
      have hk' : ¬ (m = 0 ∨ d[m]! ≠ d[m - 1]!) := by unfold Lib.keeps at hk; simpa using hk
      refine ⟨h1, fun x => ?_⟩
      rw [h2]
      constructor
      · rintro ⟨j, hj, e⟩; exact ⟨j, by omega, e⟩
      · rintro ⟨j, hj, e⟩
        by_cases hjm : j = m
        · subst hjm
          refine ⟨j - 1, by omega, ?_⟩
          have : ¬ d[j]! ≠ d[j - 1]! := fun h => hk' (.inr h)
          rw [← Classical.not_not.1 this]; exact e
        · exact ⟨j, by omega, e⟩
/-- the tracks of a layout in ascending order -/
abbrev trkU (ts : List Int) : List Int := Lib.compact (ts.mergeSort fun x y => decide (x ≤ y))
theorem trkU_ok (ts : List Int) : (trkU ts).Pairwise (· < ·) ∧ ∀ x, x ∈ trkU ts ↔ x ∈ ts := by
  have hs : (ts.mergeSort fun x y => decide (x ≤ y)).Pairwise (fun x y => decide (x ≤ y) = true) := List.pairwise_mergeSort (fun a b c h1 h2 => by rw [decide_eq_true_eq] at *; omega) (fun a b => by rw [Bool.or_eq_true, decide_eq_true_eq, decide_eq_true_eq]; omega) ts
  obtain ⟨l, hl⟩ : ∃ l, (ts.mergeSort fun x y => decide (x ≤ y)) = l := ⟨_, rfl⟩
  have hmem : ∀ x, x ∈ l ↔ x ∈ ts := fun x => by rw [← hl]; exact List.mem_mergeSort
  show (Lib.compact (ts.mergeSort fun x y => decide (x ≤ y))).Pairwise (· < ·) ∧ ∀ x, x ∈ Lib.compact (ts.mergeSort fun x y => decide (x ≤ y)) ↔ x ∈ ts
  rw [hl] at hs ⊢
  have hd : ∀ i j, i ≤ j → j < l.toArray.size → l.toArray[i]! ≤ l.toArray[j]! := fun i j hij hj => by
    have hj : j < l.length := by simpa using hj
    have hi : i < l.length := by omega
    simp only [List.getElem!_toArray, getElem!_pos, hi, hj]
    by_cases e : i = j
    · subst e; exact Int.le_refl _
    · have := List.pairwise_iff_getElem.1 hs i j hi hj (by omega)
      simpa using this
  obtain ⟨h1, h2⟩ := compact_asc hd l.length (by simp)
  refine ⟨h1, fun x => ?_⟩
  show x ∈ Lib.compactUpTo l.toArray l.length ↔ _
  rw [h2, ← hmem, List.mem_iff_getElem]
  constructor
  · rintro ⟨j, hj, e⟩
    exact ⟨j, hj, by simpa [hj] using e⟩
  · rintro ⟨j, hj, e⟩
    exact ⟨j, hj, by simpa [hj] using e⟩
theorem trkU_eq {ts : List Int} (ht : ∀ t ∈ ts, 0 ≤ t ∧ t < 64) : trkU ts = usedR ts 64 := by
  obtain ⟨h1, h2⟩ := trkU_ok ts
  refine asc_eq _ _ h1 (used_asc ts 64) fun x => ?_
  rw [h2, used_mem]
  exact ⟨fun h => ⟨h, ht x h⟩, fun h => h.1⟩
end Go.Proofs.YtbldpojkpmafpaaGreatDoor
