/- The reference of package bus: Extent, Meet, covers as contracts on plain data; Clique. -/
import Derived.Test.YtkjjnnbbicoljaaGreatDoorVRef2
import Derived.Test.YtkjjnnbbicoljaaGreatDoorBusRefMeet
import Derived.Test.YtkjjnnbbicoljaaGreatDoorBusTracks0
namespace Go.Proofs.YtkjjnnbbicoljaaGreatDoor
open Go.RowKit Sv
set_option maxRecDepth 100000
set_option linter.unusedVariables false
noncomputable section
abbrev tN : Ty := .pair (.int .i64) (.list false (.int .i64))
noncomputable def cExtent : Ctr := { f := 53, ps := [tN, .list false (.int .i64)], rs := [.int .i64, .int .i64], fresh := true, pre := fun d => decide (List.length (α := Int) d.2.1 ≤ 1000) && decide (List.length (α := Int) d.1.2 ≤ 140737488355328), fn := fun d => ((Bus.refLow (Bus.pos d.2.1) (-1) d.1.2 : Int), ((refHigh (Bus.pos d.2.1) d.1.2 : Int), ())) }
noncomputable def cMeet : Ctr := { f := 54, ps := [tN, tN, .list false (.int .i64)], rs := [.bool], fresh := true, pre := fun d => decide (List.length (α := Int) d.2.2.1 ≤ 1000) && (decide (List.length (α := Int) d.1.2 ≤ 140737488355328) && decide (List.length (α := Int) d.2.1.2 ≤ 140737488355328)), fn := fun d => ((meetFrom (refExt d.2.2.1 d.1.2) (refExt d.2.2.1 d.2.1.2) (List.length (α := Int) d.2.2.1) 0 : Bool), ()) }
noncomputable def cCovers : Ctr := { f := 56, ps := [tN, .list false (.int .i64), .int .i64], rs := [.bool], fresh := true, pre := fun d => decide (List.length (α := Int) d.2.1 ≤ 1000) && decide (List.length (α := Int) d.1.2 ≤ 140737488355328), fn := fun d => ((covR (refExt d.2.1 d.1.2) d.2.2.1 : Bool), ()) }
theorem den_net {F : Env} {w : World} {x : Int × List Int} {v : Value} (hF : OkF w F) (h : Den F (valV tN x) v) : ∃ A c, v = netV ⟨x.1, x.2, A, c⟩ ∧ Row w w.heap.size A (x.2.map (Value.int .i64)) := by
  obtain ⟨xs, h1, rfl⟩ := Den.agg_inv (cs := [.raw (.int .i64 x.1), .lst false tInt x.2]) h
  cases h1 with
  | cons h1 h2 =>
    cases h2 with
    | cons h2 h3 =>
      cases h3
      obtain ⟨A, c, rfl, _, hR⟩ := den_ints hF h2
      rw [h1.raw_eq]
      exact ⟨A, c, rfl, hR⟩
theorem cCovers_ok : cCovers.Ok Tryz.prog := fun ⟨x, order, p, _⟩ h => holds_raw fun w F xs hF hd => by
  obtain ⟨h1, h2⟩ := Bool.and_eq_true_iff.1 h
  cases hd with
  | cons d1 d2 =>
    cases d2 with
    | cons d2 d3 =>
      cases d3 with
      | cons d3 d4 =>
        cases d4
        obtain ⟨A, c, rfl, hx⟩ := den_net hF d1
        obtain ⟨A2, c2, rfl, _, hR⟩ := den_ints hF d2
        rw [d3.raw_eq]
        exact refCovers_any ⟨x.1, x.2, A, c⟩ A2 c2 w.heap.size order p w hx hR (Nat.le_refl _) (of_decide_eq_true h1) (of_decide_eq_true h2)
theorem cMeet_ok : cMeet.Ok Tryz.prog := fun ⟨x, y, order, _⟩ h => holds_raw fun w F xs hF hd => by
  obtain ⟨h1, h2⟩ := Bool.and_eq_true_iff.1 h
  obtain ⟨h2, h3⟩ := Bool.and_eq_true_iff.1 h2
  cases hd with
  | cons d1 d2 =>
    cases d2 with
    | cons d2 d3 =>
      cases d3 with
      | cons d3 d4 =>
        cases d4
        obtain ⟨A, c, rfl, hx⟩ := den_net hF d1
        obtain ⟨A', c', rfl, hy⟩ := den_net hF d2
        obtain ⟨A2, c2, rfl, _, hR⟩ := den_ints hF d3
        exact refMeet_any ⟨x.1, x.2, A, c⟩ ⟨y.1, y.2, A', c'⟩ A2 c2 w.heap.size order w hx hy hR (Nat.le_refl _) (of_decide_eq_true h1) (of_decide_eq_true h2) (of_decide_eq_true h3)
theorem cExtent_ok : cExtent.Ok Tryz.prog := fun ⟨x, order, _⟩ h w F xs hF hd => by
  obtain ⟨h1, h2⟩ := Bool.and_eq_true_iff.1 h
  cases hd with
  | cons d1 d2 =>
    cases d2 with
    | cons d2 d3 =>
      cases d3
      obtain ⟨A, c, rfl, hx⟩ := den_net hF d1
      obtain ⟨A2, c2, rfl, _, hR⟩ := den_ints hF d2
      refine (refExtent_any ⟨x.1, x.2, A, c⟩ A2 c2 w.heap.size order w hx hR (Nat.le_refl _) (of_decide_eq_true h1) (of_decide_eq_true h2)).mono fun e w' ⟨g1, g2⟩ => ?_
      exact ⟨_, ⟨F.at', fun _ => none⟩, g1, .tuple (.cons (.raw _) (.cons (.raw _) .nil)), ⟨hF.glob, hF.all, fun b A h => by cases h⟩, (fun b A h => by cases h), g2⟩

/-! ### Clique -/
def BClq : Code := (Tryz.f19.body).getD .skip
abbrev ob (j : Nat) (l : List Int) : AV := .osl 3 (.int .i64) j 0 l.length (capOf l.length)
abbrev oe (l : List Int) : Ent := .opt 3 (.int .i64) l
def SClqP (nets : List (Int × List Int)) (order best : List Int) (at' : Int) (p : Nat) : St := { n := 43, sl := [(0, nv nets), (1, lv order), (6, ob 64 best), (7, iv at'), (8, iv p)], en := [(64, oe best)], next := 65 }
def SClqI (nets : List (Int × List Int)) (order best : List Int) (at' : Int) (p : Nat) (l : List Int) (i : Nat) : St := { n := 43, sl := [(0, nv nets), (1, lv order), (6, ob 64 best), (7, iv at'), (8, iv p), (9, ob 65 l), (10, iv i)], en := [(64, oe best), (65, oe l)], next := 66 }
theorem clq_start (nets : List (Int × List Int)) (order : List Int)  :
    Tst.path (vrun0 Tryz.prog (ctrs [cCovers]) (fl BClq []) 4 43 [nv nets, lv order]) [] (toSt Tryz.prog 43 .normal [] (SClqP nets order [] 0 0)) := by
  have eTst : (Tst.path (vrun0 Tryz.prog (ctrs [cCovers]) (fl BClq []) 4 43 [nv nets, lv order]) [] (toSt Tryz.prog 43 .normal [] (SClqP nets order [] 0 0))) = (((nets) = (nets)) ∧ ((order) = (order)) ∧ ((List.length nilI) = ((0 : Nat))) ∧ (((0 : Int)) = ((0 : Int))) ∧ (((0 : Int)) = ((↑(0 : Nat) : Int))) ∧ ((nilI) = ([])) ∧ True) := by kernel_rfl
  exact eTst.mpr ⟨rfl, ⟨rfl, ⟨rfl, ⟨rfl, ⟨rfl, ⟨rfl, trivial⟩⟩⟩⟩⟩⟩
theorem clq_row (nets : List (Int × List Int)) (order best : List Int) (a : Int) (p : Nat) (h1 : (↑p : Int) < (↑(List.length order) : Int)) :
    Tst.path (vrun Tryz.prog (ctrs [cCovers]) (fl BClq [1,1,1,0,1,0,0]) 2 (SClqP nets order best a p)) [true] (toSt Tryz.prog 43 .normal [(64, 64, none)] (SClqP nets order best a p)) := by
  have eTst : (Tst.path (vrun Tryz.prog (ctrs [cCovers]) (fl BClq [1,1,1,0,1,0,0]) 2 (SClqP nets order best a p)) [true] (toSt Tryz.prog 43 .normal [(64, 64, none)] (SClqP nets order best a p))) = (((decide ((↑p : Int) < (↑(List.length order) : Int))) = true) ∧ ((nets) = (nets)) ∧ ((order) = (order)) ∧ ((((0 : Nat)) = ((0 : Nat))) ∧ ((List.length best) = (List.length best)) ∧ (capOf (List.length best)) = (capOf (List.length best))) ∧ ((a) = (a)) ∧ (((↑p : Int)) = ((↑p : Int))) ∧ ((fitOpt Tryz.prog none (optOwn (nat_lit 3) (Ty.int IntKind.i64) best) (nat_lit 3) (Ty.int IntKind.i64) best)) ∧ True) := by kernel_rfl
  exact eTst.mpr ⟨decide_eq_true h1, ⟨rfl, ⟨rfl, ⟨⟨rfl, ⟨rfl, rfl⟩⟩, ⟨rfl, ⟨rfl, ⟨(fitOpt_refl _ _ _ _), trivial⟩⟩⟩⟩⟩⟩⟩
theorem clq_stop (nets : List (Int × List Int)) (order best : List Int) (a : Int) (p : Nat) (h1 : ¬(↑p : Int) < (↑(List.length order) : Int)) :
    Tst.path (vrun Tryz.prog (ctrs [cCovers]) (fl BClq [1,1,1,0,1,0,0]) 2 (SClqP nets order best a p)) [false] (toSt Tryz.prog 43 (.exit 0) [(64, 64, none)] (SClqP nets order best a p)) := by
  have eTst : (Tst.path (vrun Tryz.prog (ctrs [cCovers]) (fl BClq [1,1,1,0,1,0,0]) 2 (SClqP nets order best a p)) [false] (toSt Tryz.prog 43 (.exit 0) [(64, 64, none)] (SClqP nets order best a p))) = (((decide ((↑p : Int) < (↑(List.length order) : Int))) = false) ∧ ((nets) = (nets)) ∧ ((order) = (order)) ∧ ((((0 : Nat)) = ((0 : Nat))) ∧ ((List.length best) = (List.length best)) ∧ (capOf (List.length best)) = (capOf (List.length best))) ∧ ((a) = (a)) ∧ (((↑p : Int)) = ((↑p : Int))) ∧ ((fitOpt Tryz.prog none (optOwn (nat_lit 3) (Ty.int IntKind.i64) best) (nat_lit 3) (Ty.int IntKind.i64) best)) ∧ True) := by kernel_rfl
  exact eTst.mpr ⟨decide_eq_false h1, ⟨rfl, ⟨rfl, ⟨⟨rfl, ⟨rfl, rfl⟩⟩, ⟨rfl, ⟨rfl, ⟨(fitOpt_refl _ _ _ _), trivial⟩⟩⟩⟩⟩⟩⟩
theorem clq_inner (nets : List (Int × List Int)) (order best : List Int) (a : Int) (p : Nat)  :
    Tst.path (vrun Tryz.prog (ctrs [cCovers]) (fl BClq [1,1,1,0,1,0,0,1,0,0]) 2 (SClqP nets order best a p)) [] (toSt Tryz.prog 43 .normal [(64, 64, none)] (SClqI nets order best a p [] 0)) := by
  have eTst : (Tst.path (vrun Tryz.prog (ctrs [cCovers]) (fl BClq [1,1,1,0,1,0,0,1,0,0]) 2 (SClqP nets order best a p)) [] (toSt Tryz.prog 43 .normal [(64, 64, none)] (SClqI nets order best a p [] 0))) = (((nets) = (nets)) ∧ ((order) = (order)) ∧ ((((0 : Nat)) = ((0 : Nat))) ∧ ((List.length best) = (List.length best)) ∧ (capOf (List.length best)) = (capOf (List.length best))) ∧ ((a) = (a)) ∧ (((↑p : Int)) = ((↑p : Int))) ∧ ((List.length nilI) = ((0 : Nat))) ∧ (((0 : Int)) = ((↑(0 : Nat) : Int))) ∧ ((fitOpt Tryz.prog none (optOwn (nat_lit 3) (Ty.int IntKind.i64) best) (nat_lit 3) (Ty.int IntKind.i64) best)) ∧ ((nilI) = ([])) ∧ True) := by kernel_rfl
  exact eTst.mpr ⟨rfl, ⟨rfl, ⟨⟨rfl, ⟨rfl, rfl⟩⟩, ⟨rfl, ⟨rfl, ⟨rfl, ⟨rfl, ⟨(fitOpt_refl _ _ _ _), ⟨rfl, trivial⟩⟩⟩⟩⟩⟩⟩⟩⟩
theorem clq_add (nets : List (Int × List Int)) (order best : List Int) (a : Int) (p : Nat) (l : List Int) (i : Nat) (h1 : (↑i : Int) < (↑(List.length nets) : Int)) (h2 : i < List.length nets) (h3 : (decide (List.length order ≤ (1000 : Nat)) && decide (List.length (Prod.snd (List.getD nets i ((0 : Int), []))) ≤ (140737488355328 : Nat))) = true) (h4 : (covR (refExt order (Prod.snd (List.getD nets i ((0 : Int), [])))) (↑p : Int)) = true) (h5 : List.length l + (1 : Nat) ≤ 1000000) (h6 : -9223372036854775808 ≤ (↑i : Int) + (1 : Int) ∧ (↑i : Int) + (1 : Int) ≤ 9223372036854775807) (h7 : (List.length l + (1 : Nat)) = (List.length (l ++ [(↑i : Int)]))) (h8 : (Cap.full) = (capOf (List.length (l ++ [(↑i : Int)])))) :
    Tst.path (vall Tryz.prog (ctrs [cCovers]) (fl BClq [1,1,1,0,1,0,0,1,0,0,1,0,1,0,0]) (SClqI nets order best a p l i)) [true, true, false] (toSt Tryz.prog 43 .normal [(64, 64, none), (65, 67, none)] (SClqI nets order best a p (l ++ [(i : Int)]) (i + 1))) := by
  have eTst : (Tst.path (vall Tryz.prog (ctrs [cCovers]) (fl BClq [1,1,1,0,1,0,0,1,0,0,1,0,1,0,0]) (SClqI nets order best a p l i)) [true, true, false] (toSt Tryz.prog 43 .normal [(64, 64, none), (65, 67, none)] (SClqI nets order best a p (l ++ [(i : Int)]) (i + 1)))) = (((decide ((↑i : Int) < (↑(List.length nets) : Int))) = true) ∧ ((decide ((0 : Int) ≤ (↑i : Int))) = true) ∧ ((decide (i < List.length nets)) = true) ∧ ((decide (List.length order ≤ (1000 : Nat)) && decide (List.length (Prod.snd (List.getD nets i ((0 : Int), []))) ≤ (140737488355328 : Nat))) = true) ∧ ((covR (refExt order (Prod.snd (List.getD nets i ((0 : Int), [])))) (↑p : Int)) = true) ∧ ((Nat.beq (0 : Nat) (0 : Nat)) = true) ∧ ((Nat.beq (1 : Nat) (0 : Nat)) = false) ∧ ((blkIs (3 : TypeId) (Ty.int IntKind.i64) (optOwn (nat_lit 3) (Ty.int IntKind.i64) l) (List.length l) (capOf (List.length l))) = true) ∧ ((bounded (List.length l + (1 : Nat)) (8 : Nat)) = true) ∧ ((fits IntKind.i64 ((↑i : Int) + (1 : Int))) = true) ∧ ((nets) = (nets)) ∧ ((order) = (order)) ∧ ((((0 : Nat)) = ((0 : Nat))) ∧ ((List.length best) = (List.length best)) ∧ (capOf (List.length best)) = (capOf (List.length best))) ∧ ((a) = (a)) ∧ (((↑p : Int)) = ((↑p : Int))) ∧ ((((0 : Nat)) = ((0 : Nat))) ∧ ((List.length l + (1 : Nat)) = (List.length (l ++ [(↑i : Int)]))) ∧ (Cap.full) = (capOf (List.length (l ++ [(↑i : Int)])))) ∧ (((↑i : Int) + (1 : Int)) = ((↑(i + (1 : Nat)) : Int))) ∧ ((fitOpt Tryz.prog none (optOwn (nat_lit 3) (Ty.int IntKind.i64) best) (nat_lit 3) (Ty.int IntKind.i64) best)) ∧ ((blkXs (Ty.int IntKind.i64) (optOwn (nat_lit 3) (Ty.int IntKind.i64) l) ++ [(↑i : Int)]) = (l ++ [(↑i : Int)])) ∧ True) := by kernel_rfl
  exact eTst.mpr ⟨decide_eq_true h1, ⟨decide_eq_true (by omega), ⟨decide_eq_true h2, ⟨h3, ⟨h4, ⟨rfl, ⟨rfl, ⟨(blkIs_optOwn _ _ _), ⟨bounded_of h5 (by omega), ⟨fits_i64 h6, ⟨rfl, ⟨rfl, ⟨⟨rfl, ⟨rfl, rfl⟩⟩, ⟨rfl, ⟨rfl, ⟨⟨rfl, ⟨h7, h8⟩⟩, ⟨(by omega), ⟨(fitOpt_refl _ _ _ _), ⟨(by simp only [blkXs_optOwn] <;> rfl), trivial⟩⟩⟩⟩⟩⟩⟩⟩⟩⟩⟩⟩⟩⟩⟩⟩⟩⟩⟩
theorem clq_skip (nets : List (Int × List Int)) (order best : List Int) (a : Int) (p : Nat) (l : List Int) (i : Nat) (h1 : (↑i : Int) < (↑(List.length nets) : Int)) (h2 : i < List.length nets) (h3 : (decide (List.length order ≤ (1000 : Nat)) && decide (List.length (Prod.snd (List.getD nets i ((0 : Int), []))) ≤ (140737488355328 : Nat))) = true) (h4 : (covR (refExt order (Prod.snd (List.getD nets i ((0 : Int), [])))) (↑p : Int)) = false) (h5 : -9223372036854775808 ≤ (↑i : Int) + (1 : Int) ∧ (↑i : Int) + (1 : Int) ≤ 9223372036854775807) :
    Tst.path (vall Tryz.prog (ctrs [cCovers]) (fl BClq [1,1,1,0,1,0,0,1,0,0,1,0,1,0,0]) (SClqI nets order best a p l i)) [true, false] (toSt Tryz.prog 43 .normal [(64, 64, none), (65, 65, none)] (SClqI nets order best a p l (i + 1))) := by
  have eTst : (Tst.path (vall Tryz.prog (ctrs [cCovers]) (fl BClq [1,1,1,0,1,0,0,1,0,0,1,0,1,0,0]) (SClqI nets order best a p l i)) [true, false] (toSt Tryz.prog 43 .normal [(64, 64, none), (65, 65, none)] (SClqI nets order best a p l (i + 1)))) = (((decide ((↑i : Int) < (↑(List.length nets) : Int))) = true) ∧ ((decide ((0 : Int) ≤ (↑i : Int))) = true) ∧ ((decide (i < List.length nets)) = true) ∧ ((decide (List.length order ≤ (1000 : Nat)) && decide (List.length (Prod.snd (List.getD nets i ((0 : Int), []))) ≤ (140737488355328 : Nat))) = true) ∧ ((covR (refExt order (Prod.snd (List.getD nets i ((0 : Int), [])))) (↑p : Int)) = false) ∧ ((fits IntKind.i64 ((↑i : Int) + (1 : Int))) = true) ∧ ((nets) = (nets)) ∧ ((order) = (order)) ∧ ((((0 : Nat)) = ((0 : Nat))) ∧ ((List.length best) = (List.length best)) ∧ (capOf (List.length best)) = (capOf (List.length best))) ∧ ((a) = (a)) ∧ (((↑p : Int)) = ((↑p : Int))) ∧ ((((0 : Nat)) = ((0 : Nat))) ∧ ((List.length l) = (List.length l)) ∧ (capOf (List.length l)) = (capOf (List.length l))) ∧ (((↑i : Int) + (1 : Int)) = ((↑(i + (1 : Nat)) : Int))) ∧ ((fitOpt Tryz.prog none (optOwn (nat_lit 3) (Ty.int IntKind.i64) best) (nat_lit 3) (Ty.int IntKind.i64) best)) ∧ ((fitOpt Tryz.prog none (optOwn (nat_lit 3) (Ty.int IntKind.i64) l) (nat_lit 3) (Ty.int IntKind.i64) l)) ∧ True) := by kernel_rfl
  exact eTst.mpr ⟨decide_eq_true h1, ⟨decide_eq_true (by omega), ⟨decide_eq_true h2, ⟨h3, ⟨h4, ⟨fits_i64 h5, ⟨rfl, ⟨rfl, ⟨⟨rfl, ⟨rfl, rfl⟩⟩, ⟨rfl, ⟨rfl, ⟨⟨rfl, ⟨rfl, rfl⟩⟩, ⟨(by omega), ⟨(fitOpt_refl _ _ _ _), ⟨(fitOpt_refl _ _ _ _), trivial⟩⟩⟩⟩⟩⟩⟩⟩⟩⟩⟩⟩⟩⟩⟩
theorem clq_end (nets : List (Int × List Int)) (order best : List Int) (a : Int) (p : Nat) (l : List Int) (i : Nat) (h1 : ¬(↑i : Int) < (↑(List.length nets) : Int)) :
    Tst.path (vall Tryz.prog (ctrs [cCovers]) (fl BClq [1,1,1,0,1,0,0,1,0,0,1,0,1,0,0]) (SClqI nets order best a p l i)) [false] (toSt Tryz.prog 43 (.exit 2) [(64, 64, none), (65, 65, none)] (SClqI nets order best a p l i)) := by
  have eTst : (Tst.path (vall Tryz.prog (ctrs [cCovers]) (fl BClq [1,1,1,0,1,0,0,1,0,0,1,0,1,0,0]) (SClqI nets order best a p l i)) [false] (toSt Tryz.prog 43 (.exit 2) [(64, 64, none), (65, 65, none)] (SClqI nets order best a p l i))) = (((decide ((↑i : Int) < (↑(List.length nets) : Int))) = false) ∧ ((nets) = (nets)) ∧ ((order) = (order)) ∧ ((((0 : Nat)) = ((0 : Nat))) ∧ ((List.length best) = (List.length best)) ∧ (capOf (List.length best)) = (capOf (List.length best))) ∧ ((a) = (a)) ∧ (((↑p : Int)) = ((↑p : Int))) ∧ ((((0 : Nat)) = ((0 : Nat))) ∧ ((List.length l) = (List.length l)) ∧ (capOf (List.length l)) = (capOf (List.length l))) ∧ (((↑i : Int)) = ((↑i : Int))) ∧ ((fitOpt Tryz.prog none (optOwn (nat_lit 3) (Ty.int IntKind.i64) best) (nat_lit 3) (Ty.int IntKind.i64) best)) ∧ ((fitOpt Tryz.prog none (optOwn (nat_lit 3) (Ty.int IntKind.i64) l) (nat_lit 3) (Ty.int IntKind.i64) l)) ∧ True) := by kernel_rfl
  exact eTst.mpr ⟨decide_eq_false h1, ⟨rfl, ⟨rfl, ⟨⟨rfl, ⟨rfl, rfl⟩⟩, ⟨rfl, ⟨rfl, ⟨⟨rfl, ⟨rfl, rfl⟩⟩, ⟨rfl, ⟨(fitOpt_refl _ _ _ _), ⟨(fitOpt_refl _ _ _ _), trivial⟩⟩⟩⟩⟩⟩⟩⟩⟩⟩
theorem clq_more (nets : List (Int × List Int)) (order best : List Int) (a : Int) (p : Nat) (l : List Int) (i : Nat) (h1 : (↑(List.length l) : Int) > (↑(List.length best) : Int)) :
    Tst.path (vall Tryz.prog (ctrs [cCovers]) (List.drop 3 (fl BClq [1,1,1,0,1,0,0,1,0,0])) (SClqI nets order best a p l i)) [true] (toSt Tryz.prog 43 .normal [(64, 65, none)] (SClqP nets order l p p)) := by
  have eTst : (Tst.path (vall Tryz.prog (ctrs [cCovers]) (List.drop 3 (fl BClq [1,1,1,0,1,0,0,1,0,0])) (SClqI nets order best a p l i)) [true] (toSt Tryz.prog 43 .normal [(64, 65, none)] (SClqP nets order l p p))) = (((decide ((↑(List.length l) : Int) > (↑(List.length best) : Int))) = true) ∧ ((nets) = (nets)) ∧ ((order) = (order)) ∧ ((((0 : Nat)) = ((0 : Nat))) ∧ ((List.length l) = (List.length l)) ∧ (capOf (List.length l)) = (capOf (List.length l))) ∧ (((↑p : Int)) = ((↑p : Int))) ∧ (((↑p : Int)) = ((↑p : Int))) ∧ ((fitOpt Tryz.prog none (optOwn (nat_lit 3) (Ty.int IntKind.i64) l) (nat_lit 3) (Ty.int IntKind.i64) l)) ∧ True) := by kernel_rfl
  exact eTst.mpr ⟨decide_eq_true h1, ⟨rfl, ⟨rfl, ⟨⟨rfl, ⟨rfl, rfl⟩⟩, ⟨rfl, ⟨rfl, ⟨(fitOpt_refl _ _ _ _), trivial⟩⟩⟩⟩⟩⟩⟩
theorem clq_less (nets : List (Int × List Int)) (order best : List Int) (a : Int) (p : Nat) (l : List Int) (i : Nat) (h1 : ¬(↑(List.length l) : Int) > (↑(List.length best) : Int)) :
    Tst.path (vall Tryz.prog (ctrs [cCovers]) (List.drop 3 (fl BClq [1,1,1,0,1,0,0,1,0,0])) (SClqI nets order best a p l i)) [false] (toSt Tryz.prog 43 .normal [(64, 64, none)] (SClqP nets order best a p)) := by
  have eTst : (Tst.path (vall Tryz.prog (ctrs [cCovers]) (List.drop 3 (fl BClq [1,1,1,0,1,0,0,1,0,0])) (SClqI nets order best a p l i)) [false] (toSt Tryz.prog 43 .normal [(64, 64, none)] (SClqP nets order best a p))) = (((decide ((↑(List.length l) : Int) > (↑(List.length best) : Int))) = false) ∧ ((nets) = (nets)) ∧ ((order) = (order)) ∧ ((((0 : Nat)) = ((0 : Nat))) ∧ ((List.length best) = (List.length best)) ∧ (capOf (List.length best)) = (capOf (List.length best))) ∧ ((a) = (a)) ∧ (((↑p : Int)) = ((↑p : Int))) ∧ ((fitOpt Tryz.prog none (optOwn (nat_lit 3) (Ty.int IntKind.i64) best) (nat_lit 3) (Ty.int IntKind.i64) best)) ∧ True) := by kernel_rfl
  exact eTst.mpr ⟨decide_eq_false h1, ⟨rfl, ⟨rfl, ⟨⟨rfl, ⟨rfl, rfl⟩⟩, ⟨rfl, ⟨rfl, ⟨(fitOpt_refl _ _ _ _), trivial⟩⟩⟩⟩⟩⟩⟩
theorem clq_next (nets : List (Int × List Int)) (order best : List Int) (a : Int) (p : Nat) (h1 : -9223372036854775808 ≤ (↑p : Int) + (1 : Int) ∧ (↑p : Int) + (1 : Int) ≤ 9223372036854775807) :
    Tst.path (vall Tryz.prog (ctrs [cCovers]) (List.drop 3 (fl BClq [1,1,1,0,1,0,0])) (SClqP nets order best a p)) [] (toSt Tryz.prog 43 .normal [(64, 64, none)] (SClqP nets order best a (p + 1))) := by
  have eTst : (Tst.path (vall Tryz.prog (ctrs [cCovers]) (List.drop 3 (fl BClq [1,1,1,0,1,0,0])) (SClqP nets order best a p)) [] (toSt Tryz.prog 43 .normal [(64, 64, none)] (SClqP nets order best a (p + 1)))) = (((fits IntKind.i64 ((↑p : Int) + (1 : Int))) = true) ∧ ((nets) = (nets)) ∧ ((order) = (order)) ∧ ((((0 : Nat)) = ((0 : Nat))) ∧ ((List.length best) = (List.length best)) ∧ (capOf (List.length best)) = (capOf (List.length best))) ∧ ((a) = (a)) ∧ (((↑p : Int) + (1 : Int)) = ((↑(p + (1 : Nat)) : Int))) ∧ ((fitOpt Tryz.prog none (optOwn (nat_lit 3) (Ty.int IntKind.i64) best) (nat_lit 3) (Ty.int IntKind.i64) best)) ∧ True) := by kernel_rfl
  exact eTst.mpr ⟨fits_i64 h1, ⟨rfl, ⟨rfl, ⟨⟨rfl, ⟨rfl, rfl⟩⟩, ⟨rfl, ⟨(by omega), ⟨(fitOpt_refl _ _ _ _), trivial⟩⟩⟩⟩⟩⟩⟩
theorem clq_ret (nets : List (Int × List Int)) (order best : List Int) (a : Int) (p : Nat) (h1 : (best) = (List.take (List.length best) (List.drop (0 : Nat) best))) (h2 : List.length best = (0 : Nat) ∨ ownHas (3 : TypeId) (Ty.int IntKind.i64) (optOwn (nat_lit 3) (Ty.int IntKind.i64) best) ((0 : Nat) + List.length best - (1 : Nat)) = true) (h3 : false = true → List.length best ≠ (0 : Nat)) :
    Tst.path (vall Tryz.prog (ctrs [cCovers]) (List.drop 5 (fl BClq [])) (SClqP nets order best a p)) [] (toRet Tryz.prog Tryz.f19 true (.tuple [lv best, iv a])) := by
  have eTst : (Tst.path (vall Tryz.prog (ctrs [cCovers]) (List.drop 5 (fl BClq [])) (SClqP nets order best a p)) [] (toRet Tryz.prog Tryz.f19 true (.tuple [lv best, iv a]))) = ((((List.length best) = (List.length best)) ∧ ((best) = (List.take (List.length best) (List.drop (0 : Nat) (blkXs (Ty.int IntKind.i64) (optOwn (nat_lit 3) (Ty.int IntKind.i64) best))))) ∧ ((List.length best = (0 : Nat) ∨ ownHas (3 : TypeId) (Ty.int IntKind.i64) (optOwn (nat_lit 3) (Ty.int IntKind.i64) best) ((0 : Nat) + List.length best - (1 : Nat)) = true)) ∧ (false = true → List.length best ≠ (0 : Nat))) ∧ ((a) = (a)) ∧ True) := by kernel_rfl
  exact eTst.mpr ⟨⟨rfl, ⟨(by simp only [blkXs_optOwn] <;> exact h1), ⟨h2, h3⟩⟩⟩, ⟨rfl, trivial⟩⟩
def covUpR (nets : List (Int × List Int)) (order : List Int) (p : Nat) : Nat → List Int
  | 0 => []
  | i + 1 => if covR (refExt order (nets.getD i (0, [])).2) (p : Int) = true then covUpR nets order p i ++ [(i : Int)] else covUpR nets order p i
def clqUpR (nets : List (Int × List Int)) (order : List Int) : Nat → List Int × Int
  | 0 => ([], 0)
  | p + 1 => if (clqUpR nets order p).1.length < (covUpR nets order p nets.length).length then (covUpR nets order p nets.length, (p : Int)) else clqUpR nets order p
theorem goalL_blk {P : Program} {w0 : World} {F : Env} {n : Nat} {T : Tr AV} {H : AHeap} {Q : Exit → Tr AV → AHeap → Prop} {l rest : List Code} {id : Nat} {c : Code} (hl : l = .block id c :: rest)
    (h : GoalL P w0 F n (flatC c) T H (inB id (onN (fun T H => GoalL P w0 F n rest T H Q) Q))) : GoalL P w0 F n l T H Q := by
  subst hl
  exact Goal.block (x := c) rfl (goal_flat h)
theorem cap_snoc (l : List Int) (x : Int) : Cap.full = capOf (l ++ [x]).length := by simp [capOf]
theorem lst_back (l : List Int) : l = List.take l.length (List.drop 0 l) := by simp
theorem own_back (e : TypeId) (l : List Int) : l.length = 0 ∨ ownHas e (.int .i64) (optOwn e (.int .i64) l) (0 + l.length - 1) = true := by
  by_cases h : l.length = 0
  · exact .inl h
  · exact .inr (by rw [ownHas_optOwn]; exact decide_eq_true (show 0 + l.length - 1 < l.length by omega))
theorem own_back2 (e : TypeId) (l : List Int) : (Nat.beq l.length 0 || ownHas e (.int .i64) (optOwn e (.int .i64) l) (l.length - 1)) = true := by
  rcases own_back e l with h | h
  · rw [h]; rfl
  · rw [Nat.zero_add] at h; rw [h, Bool.or_true]
theorem covUpR_len (nets : List (Int × List Int)) (order : List Int) (p : Nat) : ∀ i, (covUpR nets order p i).length ≤ i
  | 0 => by simp [covUpR]
  | i + 1 => by
    have := covUpR_len nets order p i
    unfold covUpR
    split <;> simp <;> omega
theorem clq_holds (nets : List (Int × List Int)) (order : List Int) (hn : nets.length ≤ 1000) (ho : order.length ≤ 1000) (hg : ∀ x ∈ nets, x.2.length ≤ 140737488355328) :
    Holds Tryz.prog true 19 [nv nets, lv order] (.tuple [lv (clqUpR nets order order.length).1, iv (clqUpR nets order order.length).2]) := by
  have hS := one_ok cCovers_ok
  have hcov : ∀ i, i < nets.length → (decide (order.length ≤ 1000) && decide ((nets.getD i (0, [])).2.length ≤ 140737488355328)) = true := fun i hi => by
    rw [decide_eq_true ho, decide_eq_true (hg _ (getN_mem hi))]; rfl
  refine holds_fl (c := BClq) Tryz.func19 rfl rfl fun w F => ?_
  refine GoalL.to known mixed hS 4 _ (clq_start nets order) (by kernel_rfl) ?_
  refine GoalL.loop (ι := { p : Nat // p ≤ order.length }) (id := 0) (b := cat BClq [1,1,1,0,1,0,0]) (rest := List.drop 5 (fl BClq [])) (by kernel_rfl) (fun p => SClqP nets order (clqUpR nets order p.1).1 (clqUpR nets order p.1).2 p.1) (fun p => order.length - p.1) ⟨0, Nat.zero_le _⟩ (fun _ => rfl) ?_
  rintro ⟨p, hp⟩
  by_cases hlt : p < order.length
  · refine GoalL.st (s := SClqP nets order (clqUpR nets order p).1 (clqUpR nets order p).2 p) known mixed hS 2 _ (clq_row nets order _ _ p (by omega)) (by kernel_rfl) ?_
    refine goalL_blk (id := 1) (c := cat BClq [1,1,1,0,1,0,0,1,0,0]) (rest := List.drop 3 (fl BClq [1,1,1,0,1,0,0])) (by kernel_rfl) ?_
    refine GoalL.st (s := SClqP nets order (clqUpR nets order p).1 (clqUpR nets order p).2 p) known mixed hS 2 _ (clq_inner nets order _ _ p) (by kernel_rfl) ?_
    refine GoalL.loop (ι := { i : Nat // i ≤ nets.length }) (id := 2) (b := cat BClq [1,1,1,0,1,0,0,1,0,0,1,0,1,0,0]) (rest := List.drop 3 (fl BClq [1,1,1,0,1,0,0,1,0,0])) (by kernel_rfl) (fun i => SClqI nets order (clqUpR nets order p).1 (clqUpR nets order p).2 p (covUpR nets order p i.1) i.1) (fun i => nets.length - i.1) ⟨0, Nat.zero_le _⟩ (fun _ => rfl) ?_
    rintro ⟨i, hi⟩
    have hcl := covUpR_len nets order p i
    by_cases hlt2 : i < nets.length
    · by_cases hh : covR (refExt order (nets.getD i (0, [])).2) (p : Int) = true
      · refine GoalL.all (s := SClqI nets order (clqUpR nets order p).1 (clqUpR nets order p).2 p (covUpR nets order p i) i) known mixed hS _ (clq_add nets order _ _ p _ i (by omega) (by omega) (hcov i hlt2) hh (by omega) (by omega) (by simp) (cap_snoc _ _)) (by kernel_rfl) ?_
        have e : covUpR nets order p (i + 1) = covUpR nets order p i ++ [(i : Int)] := by rw [covUpR, if_pos hh]
        exact ⟨⟨i + 1, hlt2⟩, by simp; omega, by show _ = (SClqI nets order _ _ p (covUpR nets order p (i + 1)) (i + 1)).T; rw [e], by show _ = (SClqI nets order _ _ p (covUpR nets order p (i + 1)) (i + 1)).H; rw [e]⟩
      · refine GoalL.all (s := SClqI nets order (clqUpR nets order p).1 (clqUpR nets order p).2 p (covUpR nets order p i) i) known mixed hS _ (clq_skip nets order _ _ p _ i (by omega) (by omega) (hcov i hlt2) (by simpa using hh) (by omega)) (by kernel_rfl) ?_
        have e : covUpR nets order p (i + 1) = covUpR nets order p i := by rw [covUpR, if_neg hh]
        exact ⟨⟨i + 1, hlt2⟩, by simp; omega, by show _ = (SClqI nets order _ _ p (covUpR nets order p (i + 1)) (i + 1)).T; rw [e], by show _ = (SClqI nets order _ _ p (covUpR nets order p (i + 1)) (i + 1)).H; rw [e]⟩
    · refine GoalL.all (s := SClqI nets order (clqUpR nets order p).1 (clqUpR nets order p).2 p (covUpR nets order p i) i) known mixed hS _ (clq_end nets order _ _ p _ i (by omega)) (by kernel_rfl) ?_
      refine onN_exit (inB_exit ?_)
      obtain rfl : i = nets.length := by omega
      by_cases hm : (clqUpR nets order p).1.length < (covUpR nets order p nets.length).length
      · refine GoalL.all (s := SClqI nets order (clqUpR nets order p).1 (clqUpR nets order p).2 p (covUpR nets order p nets.length) nets.length) known mixed hS _ (clq_more nets order _ _ p _ _ (by omega)) (by kernel_rfl) ?_
        refine GoalL.all (s := SClqP nets order (covUpR nets order p nets.length) p p) known mixed hS _ (clq_next nets order _ _ p (by omega)) (by kernel_rfl) ?_
        have e : clqUpR nets order (p + 1) = (covUpR nets order p nets.length, (p : Int)) := by rw [clqUpR, if_pos hm]
        exact ⟨⟨p + 1, hlt⟩, by simp; omega, by show _ = (SClqP nets order (clqUpR nets order (p + 1)).1 (clqUpR nets order (p + 1)).2 (p + 1)).T; rw [e], by show _ = (SClqP nets order (clqUpR nets order (p + 1)).1 (clqUpR nets order (p + 1)).2 (p + 1)).H; rw [e]⟩
      · refine GoalL.all (s := SClqI nets order (clqUpR nets order p).1 (clqUpR nets order p).2 p (covUpR nets order p nets.length) nets.length) known mixed hS _ (clq_less nets order _ _ p _ _ (by omega)) (by kernel_rfl) ?_
        refine GoalL.all (s := SClqP nets order (clqUpR nets order p).1 (clqUpR nets order p).2 p) known mixed hS _ (clq_next nets order _ _ p (by omega)) (by kernel_rfl) ?_
        have e : clqUpR nets order (p + 1) = clqUpR nets order p := by rw [clqUpR, if_neg hm]
        exact ⟨⟨p + 1, hlt⟩, by simp; omega, by show _ = (SClqP nets order (clqUpR nets order (p + 1)).1 (clqUpR nets order (p + 1)).2 (p + 1)).T; rw [e], by show _ = (SClqP nets order (clqUpR nets order (p + 1)).1 (clqUpR nets order (p + 1)).2 (p + 1)).H; rw [e]⟩
  · refine GoalL.st (s := SClqP nets order (clqUpR nets order p).1 (clqUpR nets order p).2 p) known mixed hS 2 _ (clq_stop nets order _ _ p (by omega)) (by kernel_rfl) ?_
    refine onN_exit (onN_exit (inB_exit ?_))
    obtain rfl : p = order.length := by omega
    exact GoalL.allRet (s := SClqP nets order (clqUpR nets order order.length).1 (clqUpR nets order order.length).2 order.length) known mixed hS _ (clq_ret nets order _ _ _ (lst_back _) (own_back _ _) (by simp)) fun T H h => h
end
end Go.Proofs.YtkjjnnbbicoljaaGreatDoor
