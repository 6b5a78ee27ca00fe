/- Package bus and its reference: CheckLayout, CheckClique, Width as contracts on plain data. -/
import Derived.Test.YtkjjnnbbicoljaaGreatDoorVLow
namespace Go.Proofs.YtkjjnnbbicoljaaGreatDoor
open Go.RowKit Sv
set_option maxRecDepth 100000
set_option linter.unusedVariables false
theorem refCheckLayout_any (A A2 A3 : Option Addr) (c c2 c3 B : Nat) (l : List NetAt) (order ts : List Int) (n : Int) (w : World) (h : NetsIn w B A l) (h2 : Row w B A2 (order.map (Value.int .i64))) (h3 : Row w B A3 (ts.map (Value.int .i64))) (hB : B ≤ w.heap.size) (hl : l.length ≤ 140737488355328) (hl2 : order.length ≤ 1000000) (hl3 : ts.length ≤ 1000000) (hc2 : order.length ≤ c2) :
    Calls Tryz.prog 24 #[.slice A l.length c, .int .i64 n, .agg #[.slice A2 order.length c2, .slice A3 ts.length c3]] w fun e w' => e = .returned (.int .i64 (layErrR l n order ts)) ∧ Below w.heap.size w w' := by
  by_cases hE : Bus.bothErr (l.map NetAt.net) n order = 0
  · exact refCheckLayout_ok A A2 A3 c c2 c3 B l order ts n w h h2 h3 hB hl hl2 hl3 hc2 hE
  · have := refCheckLayout_bad A A2 A3 c c2 c3 B l order ts n w h h2 hB hl hl2 hc2 _ rfl hE
    unfold layErrR
    rw [if_pos hE]
    exact this
noncomputable section
abbrev tI : Ty := .list false (.int .i64)
abbrev tLay : Ty := .pair tI tI
abbrev yv (a b : List Int) : AV := .agg [lv a, lv b]
def okLay (nets : List (Int × List Int)) (order ts : List Int) : Bool := goodB nets && (decide (nets.length ≤ 1000) && (decide (order.length ≤ 1000) && (order.all (fun c => decide (I64 c)) && decide (ts.length ≤ 1000))))
theorem okLay_iff {nets : List (Int × List Int)} {order ts : List Int} (h : okLay nets order ts = true) : GoodNets nets ∧ nets.length ≤ 1000 ∧ order.length ≤ 1000 ∧ (∀ c ∈ order, I64 c) ∧ ts.length ≤ 1000 := by
  unfold okLay at h
  simp only [Bool.and_eq_true, decide_eq_true_eq, List.all_eq_true] at h
  obtain ⟨h1, h2, h3, h4, h5⟩ := h
  exact ⟨goodB_iff.1 h1, h2, h3, h4, h5⟩
noncomputable def cLayB : Ctr := { f := 23, ps := [.list false tN, .int .i64, .pair (.list false (.int .i64)) (.list false (.int .i64))], rs := [.int .i64], fresh := true, pre := fun d => okLay d.1 d.2.2.1.1 d.2.2.1.2, fn := fun d => (layErr d.1 d.2.1 d.2.2.1.1 d.2.2.1.2, ()) }
noncomputable def cLayR : Ctr := { f := 24, ps := [.list false tN, .int .i64, .pair (.list false (.int .i64)) (.list false (.int .i64))], rs := [.int .i64], fresh := true, pre := fun d => okLay d.1 d.2.2.1.1 d.2.2.1.2, fn := fun d => (layErr d.1 d.2.1 d.2.2.1.1 d.2.2.1.2, ()) }
theorem dens_lay {F : Env} {w : World} {nets : List (Int × List Int)} {n : Int} {order ts : List Int} {xs : List Value} (hF : OkF w F) (hg : GoodNets nets) (hd : Dens F [nv nets, iv n, yv order ts] xs) :
    ∃ (A A2 A3 : Option Addr) (c c2 c3 : Nat) (l : List NetAt), xs = [.slice A l.length c, .int .i64 n, .agg #[.slice A2 order.length c2, .slice A3 ts.length c3]] ∧ l.map NetAt.net = nets ∧ NetsIn w w.heap.size A l ∧ Row w w.heap.size A2 (order.map (Value.int .i64)) ∧ Row w w.heap.size A3 (ts.map (Value.int .i64)) ∧ order.length ≤ c2 ∧ ts.length ≤ c3 := by
  cases hd with
  | cons d1 d2 =>
    cases d2 with
    | cons d2 d3 =>
      cases d3 with
      | cons d3 d4 =>
        cases d4
        obtain ⟨A, c, l, rfl, h1, h2⟩ := den_nets hF hg d1
        obtain ⟨ys, e1, rfl⟩ := Den.agg_inv (cs := [lv order, lv ts]) d3
        cases e1 with
        | cons e1 e2 =>
          cases e2 with
          | cons e2 e3 =>
            cases e3
            obtain ⟨A2, c2, rfl, hc2, h3⟩ := den_ints hF e1
            obtain ⟨A3, c3, rfl, hc3, h4⟩ := den_ints hF e2
            exact ⟨A, A2, A3, c, c2, c3, l, by rw [d2.raw_eq], h1, h2, h3, h4, hc2, hc3⟩
theorem cLayB_holds (nets : List (Int × List Int)) (n : Int) (order ts : List Int) (h : okLay nets order ts = true) : Holds Tryz.prog true 23 [nv nets, iv n, yv order ts] (iv (layErr nets n order ts)) := holds_raw fun w F xs hF hd => by
  obtain ⟨h1, h2, h3, h4, h5⟩ := okLay_iff h
  obtain ⟨A, A2, A3, c, c2, c3, l, rfl, hl, hN, hR, hS, q2, q3⟩ := dens_lay hF h1 hd
  have hll : l.length = nets.length := by rw [← hl, List.length_map]
  have := CheckLayout_any A A2 A3 c c2 c3 w.heap.size l order ts n w hN hR hS h4 (Nat.le_refl _) (by omega) (by omega) (by omega)
  rw [hl] at this
  exact this
theorem cLayB_ok : cLayB.Ok Tryz.prog := fun ⟨nets, n, ⟨order, ts⟩, _⟩ h => cLayB_holds nets n order ts h
theorem cLayR_holds (nets : List (Int × List Int)) (n : Int) (order ts : List Int) (h : okLay nets order ts = true) : Holds Tryz.prog true 24 [nv nets, iv n, yv order ts] (iv (layErr nets n order ts)) := holds_raw fun w F xs hF hd => by
  obtain ⟨h1, h2, h3, h4, h5⟩ := okLay_iff h
  obtain ⟨A, A2, A3, c, c2, c3, l, rfl, hl, hN, hR, hS, q2, q3⟩ := dens_lay hF h1 hd
  have hll : l.length = nets.length := by rw [← hl, List.length_map]
  have := refCheckLayout_any A A2 A3 c c2 c3 w.heap.size l order ts n w hN hR hS (Nat.le_refl _) (by omega) (by omega) (by omega) (by omega)
  rw [← lay_same, hl] at this
  exact this
theorem cLayR_ok : cLayR.Ok Tryz.prog := fun ⟨nets, n, ⟨order, ts⟩, _⟩ h => cLayR_holds nets n order ts h
/-! ### cliques -/
noncomputable def cCkB : Ctr := { f := 26, ps := [.list false tN, .int .i64, .list false (.int .i64), .list false (.int .i64)], rs := [.int .i64], fresh := true, pre := fun d => okLay d.1 d.2.2.1 d.2.2.2.1, fn := fun d => (cliqueErr d.1 d.2.1 d.2.2.1 d.2.2.2.1, ()) }
def ckR (nets : List (Int × List Int)) (order cl : List Int) : Int := cliqueErrR (mkNets nets) order cl
noncomputable def cCkR : Ctr := { f := 27, ps := [.list false tN, .list false (.int .i64), .list false (.int .i64)], rs := [.int .i64], fresh := true, pre := fun d => okLay d.1 d.2.1 d.2.2.1, fn := fun d => (ckR d.1 d.2.1 d.2.2.1, ()) }
theorem ck_mk {l : List NetAt} {nets : List (Int × List Int)} (h : l.map NetAt.net = nets) (order cl : List Int) : cliqueErrR l order cl = ckR nets order cl := by
  have e : l.map NetAt.cols = (mkNets nets).map NetAt.cols := by
    have h2 : l.map NetAt.cols = (l.map NetAt.net).map Prod.snd := by rw [List.map_map]; rfl
    have h3 : (mkNets nets).map NetAt.cols = ((mkNets nets).map NetAt.net).map Prod.snd := by rw [List.map_map]; rfl
    rw [h2, h3, mkNets_net, h]
  have e2 : l.length = (mkNets nets).length := by
    have := congrArg List.length e
    simpa using this
  have e3 : apartR l order cl = apartR (mkNets nets) order cl := by
    funext i k
    unfold apartR colsAt
    rw [e]
  unfold ckR cliqueErrR
  rw [e2, e3]
theorem ck_same {nets : List (Int × List Int)} {n : Int} {order : List Int} (cl : List Int) (hE : Bus.bothErr nets n order = 0) : ckR nets order cl = cliqueErr nets n order cl := by
  have := clique_same (mkNets nets) n order cl (by rw [mkNets_net]; exact hE)
  rw [mkNets_net] at this
  exact this.symm
theorem dens_ck {F : Env} {w : World} {order cl : List Int} {xs : List Value} (hF : OkF w F) (hd : Dens F [lv order, lv cl] xs) :
    ∃ (A2 A3 : Option Addr) (c2 c3 : Nat), xs = [.slice A2 order.length c2, .slice A3 cl.length c3] ∧ Row w w.heap.size A2 (order.map (Value.int .i64)) ∧ Row w w.heap.size A3 (cl.map (Value.int .i64)) ∧ order.length ≤ c2 ∧ cl.length ≤ c3 := by
  cases hd with
  | cons e1 e2 =>
    cases e2 with
    | cons e2 e3 =>
      cases e3
      obtain ⟨A2, c2, rfl, hc2, h3⟩ := den_ints hF e1
      obtain ⟨A3, c3, rfl, hc3, h4⟩ := den_ints hF e2
      exact ⟨A2, A3, c2, c3, rfl, h3, h4, hc2, hc3⟩
theorem cCkB_holds (nets : List (Int × List Int)) (n : Int) (order cl : List Int) (h : okLay nets order cl = true) : Holds Tryz.prog true 26 [nv nets, iv n, lv order, lv cl] (iv (cliqueErr nets n order cl)) := holds_raw fun w F xs hF hd => by
  obtain ⟨h1, h2, h3, h4, h5⟩ := okLay_iff h
  cases hd with
  | cons d1 d2 =>
    cases d2 with
    | cons d2 d3 =>
      obtain ⟨A, c, l, rfl, hl, hN⟩ := den_nets hF h1 d1
      obtain ⟨A2, A3, c2, c3, rfl, hR, hS, q2, q3⟩ := dens_ck hF d3
      rw [d2.raw_eq]
      have hll : l.length = nets.length := by rw [← hl, List.length_map]
      by_cases hE : Bus.bothErr nets n order = 0
      · have := CheckClique_ok A A2 A3 c c2 c3 w.heap.size l order cl n w hN hR hS h4 (Nat.le_refl _) (by omega) (by omega) (by omega) q3 (by rw [hl]; exact hE)
        rw [hl] at this
        exact this
      · have := CheckClique_bad A A2 A3 c c2 c3 w.heap.size l order cl n w hN hR h4 (Nat.le_refl _) (by omega) (by omega) (Bus.bothErr nets n order) (by rw [hl]) hE
        have e : cliqueErr nets n order cl = Bus.bothErr nets n order := by unfold cliqueErr; rw [if_pos hE]
        rw [e]
        exact this
theorem cCkB_ok : cCkB.Ok Tryz.prog := fun ⟨nets, n, order, cl, _⟩ h => cCkB_holds nets n order cl h
theorem cCkR_holds (nets : List (Int × List Int)) (order cl : List Int) (h : okLay nets order cl = true) : Holds Tryz.prog true 27 [nv nets, lv order, lv cl] (iv (ckR nets order cl)) := holds_raw fun w F xs hF hd => by
  obtain ⟨h1, h2, h3, h4, h5⟩ := okLay_iff h
  cases hd with
  | cons d1 d2 =>
    obtain ⟨A, c, l, rfl, hl, hN⟩ := den_nets hF h1 d1
    obtain ⟨A2, A3, c2, c3, rfl, hR, hS, q2, q3⟩ := dens_ck hF d2
    have := refCheckClique_any A A2 A3 c c2 c3 w.heap.size l order cl w hN hR hS (Nat.le_refl _) (by omega) (by omega) q3
    rw [ck_mk hl] at this
    exact this
theorem cCkR_ok : cCkR.Ok Tryz.prog := fun ⟨nets, order, cl, _⟩ h => cCkR_holds nets order cl h
/-! ### Width -/
def BWidth : Code := (Tryz.f25.body).getD .skip
theorem width_any (order ts : List Int) (h1 : List.length ts ≤ (1000000 : Nat)) :
    Tst.path (vrun0 Tryz.prog (ctrs [cCount]) (fl BWidth []) 10 6 [yv order ts]) [] (toRet Tryz.prog Tryz.f25 true (iv (cntUp ts ts.length))) := by
  have eTst : (Tst.path (vrun0 Tryz.prog (ctrs [cCount]) (fl BWidth []) 10 6 [yv order ts]) [] (toRet Tryz.prog Tryz.f25 true (iv (cntUp ts ts.length)))) = (((decide (List.length ts ≤ (1000000 : Nat))) = true) ∧ ((↑(cntUp ts (List.length ts)) : Int)) = ((↑(cntUp ts (List.length ts)) : Int))) := by kernel_rfl
  exact eTst.mpr ⟨decide_eq_true h1, rfl⟩
theorem width_holds (order ts : List Int) (hl : ts.length ≤ 1000000) : Holds Tryz.prog true 25 [yv order ts] (iv (cntUp ts ts.length)) := by
  refine holds_fl (c := BWidth) Tryz.func25 rfl rfl fun w F => ?_
  exact GoalL.ret known mixed (one_ok cCount_ok) 10 _ (width_any order ts hl) fun T H h => h
noncomputable def cWidth : Ctr := { f := 25, ps := [.pair (.list false (.int .i64)) (.list false (.int .i64))], rs := [.int .i64], fresh := true, pre := fun d => decide (List.length (α := Int) d.1.2 ≤ 1000000), fn := fun d => (((cntUp d.1.2 (List.length (α := Int) d.1.2) : Nat) : Int), ()) }
theorem cWidth_ok : cWidth.Ok Tryz.prog := fun ⟨⟨order, ts⟩, _⟩ h => width_holds order ts (of_decide_eq_true h)
/-! ### CheckOrder of the reference, orders of any length -/
def okOrd (n : Int) (order : List Int) : Bool := decide (order.length ≤ 1000000) || decide ((order.length : Int) ≠ n)
noncomputable def cOrder2 : Ctr := { f := 16, ps := [.int .i64, .list false (.int .i64)], rs := [.int .i64], fresh := true, pre := fun d => okOrd d.1 d.2.1, fn := fun d => (Bus.orderErr d.2.1 d.1, ()) }
def BOrd : Code := (Tryz.f16.body).getD .skip
theorem ord_shape (n : Int) (order : List Int) (h1 : ¬(↑(List.length order) : Int) = n) :
    Tst.path (vrun0 Tryz.prog (ctrs []) (fl BOrd []) 4 37 [iv n, lv order]) [true] (toRet Tryz.prog Tryz.f16 true (iv 2)) := by
  have eTst : (Tst.path (vrun0 Tryz.prog (ctrs []) (fl BOrd []) 4 37 [iv n, lv order]) [true] (toRet Tryz.prog Tryz.f16 true (iv 2))) = ((((↑(List.length order) : Int) != n) = true) ∧ ((2 : Int)) = ((2 : Int))) := by kernel_rfl
  exact eTst.mpr ⟨bne_iff_ne.mpr h1, rfl⟩
theorem okOrd_of {n : Int} {order : List Int} (h : n ≤ 97) : okOrd n order = true := by
  unfold okOrd
  rw [Bool.or_eq_true, decide_eq_true_eq, decide_eq_true_eq]
  omega
theorem order2_holds (n : Int) (order : List Int) (h : okOrd n order = true) : Holds Tryz.prog true 16 [iv n, lv order] (iv (Bus.orderErr order n)) := by
  unfold okOrd at h
  rw [Bool.or_eq_true, decide_eq_true_eq] at h
  by_cases h2 : (order.length : Int) = n
  · exact cOrder_ok (n, order, ()) (decide_eq_true (h.resolve_right fun g => (of_decide_eq_true g) h2))
  · have e : Bus.orderErr order n = 2 := by unfold Bus.orderErr; rw [if_pos h2]
    rw [e]
    refine holds_fl (c := BOrd) Tryz.func16 rfl rfl fun w F => ?_
    exact GoalL.ret known mixed none_ok 4 _ (ord_shape n order h2) fun T H h => h
theorem cOrder2_ok : cOrder2.Ok Tryz.prog := fun ⟨n, order, _⟩ h => order2_holds n order h
end
end Go.Proofs.YtkjjnnbbicoljaaGreatDoor
