/- integraphlaw07.BusTracks: the walk. -/
import Derived.Test.YtkjjnnbbicoljaaGreatDoorVBus
import Derived.Test.YtkjjnnbbicoljaaGreatDoorBusAwakeV
namespace Go.Proofs.YtkjjnnbbicoljaaGreatDoor
open Go.RowKit Sv
set_option maxRecDepth 100000
set_option linter.unusedVariables false
noncomputable section
noncomputable def cAwake : Ctr := { f := 11, ps := [], rs := [.bool], fresh := true, pre := fun _ => true, fn := fun _ => (true, ()) }
def lawCs : VCaller := ctrs [cAwake, cLight, cTracksB, cCliqueB, cNets, cOrder, cInts, cTracksR, cCliqueR]
def BLaw : Code := (Tryz.f3.body).getD .skip
theorem law_skip (nets : List (Int × List Int)) (n : Int) (order : List Int) (h1 : (goodB nets) = true) (h2 : (lightN nets n) = false) :
    Tst.path (vrun0 Tryz.prog lawCs (fl BLaw []) 20 108 [nv nets, iv n, lv order]) [true, true, true, true, false, false, false, false, true, true] (toRet Tryz.prog Tryz.f3 true (bv true)) := by
  have eTst : (Tst.path (vrun0 Tryz.prog lawCs (fl BLaw []) 20 108 [nv nets, iv n, lv order]) [true, true, true, true, false, false, false, false, true, true] (toRet Tryz.prog Tryz.f3 true (bv true))) = (((true) = true) ∧ (((!true) == false) = true) ∧ (((!true) == false) = true) ∧ (((!true) == false) = true) ∧ ((goodB nets) = true) ∧ (((!true) == false) = true) ∧ ((!true) = false) ∧ (((!lightN nets n) == false) = false) ∧ (((!lightN nets n) == false) = false) ∧ (((!lightN nets n) == false) = false) ∧ ((!lightN nets n) = true) ∧ ((true) = true) ∧ ((true) = true) ∧ (true) = true) := by kernel_rfl
  exact eTst.mpr ⟨rfl, ⟨rfl, ⟨rfl, ⟨rfl, ⟨h1, ⟨rfl, ⟨rfl, ⟨congrArg (fun y => y == false) (show (!lightN nets n) = true from congrArg (fun y => !y) (show (lightN nets n) = false from h2)), ⟨congrArg (fun y => y == false) (show (!lightN nets n) = true from congrArg (fun y => !y) (show (lightN nets n) = false from h2)), ⟨congrArg (fun y => y == false) (show (!lightN nets n) = true from congrArg (fun y => !y) (show (lightN nets n) = false from h2)), ⟨congrArg (fun y => !y) (show (lightN nets n) = false from h2), ⟨rfl, ⟨rfl, rfl⟩⟩⟩⟩⟩⟩⟩⟩⟩⟩⟩⟩⟩
theorem law_long (nets : List (Int × List Int)) (n : Int) (order : List Int) (h1 : (goodB nets) = true) (h2 : (lightN nets n) = true) (h3 : (↑(List.length order) : Int) > (100 : Int)) :
    Tst.path (vrun0 Tryz.prog lawCs (fl BLaw []) 20 108 [nv nets, iv n, lv order]) [true, true, true, true, false, true, true, true, false, true] (toRet Tryz.prog Tryz.f3 true (bv true)) := by
  have eTst : (Tst.path (vrun0 Tryz.prog lawCs (fl BLaw []) 20 108 [nv nets, iv n, lv order]) [true, true, true, true, false, true, true, true, false, true] (toRet Tryz.prog Tryz.f3 true (bv true))) = (((true) = true) ∧ (((!true) == false) = true) ∧ (((!true) == false) = true) ∧ (((!true) == false) = true) ∧ ((goodB nets) = true) ∧ (((!true) == false) = true) ∧ ((!true) = false) ∧ (((!lightN nets n) == false) = true) ∧ (((!lightN nets n) == false) = true) ∧ (((!lightN nets n) == false) = true) ∧ ((!lightN nets n) = false) ∧ ((decide ((↑(List.length order) : Int) > (100 : Int))) = true) ∧ ((true) = true) ∧ (true) = true) := by kernel_rfl
  exact eTst.mpr ⟨rfl, ⟨rfl, ⟨rfl, ⟨rfl, ⟨h1, ⟨rfl, ⟨rfl, ⟨congrArg (fun y => y == false) (show (!lightN nets n) = false from congrArg (fun y => !y) (show (lightN nets n) = true from h2)), ⟨congrArg (fun y => y == false) (show (!lightN nets n) = false from congrArg (fun y => !y) (show (lightN nets n) = true from h2)), ⟨congrArg (fun y => y == false) (show (!lightN nets n) = false from congrArg (fun y => !y) (show (lightN nets n) = true from h2)), ⟨congrArg (fun y => !y) (show (lightN nets n) = true from h2), ⟨decide_eq_true h3, ⟨rfl, rfl⟩⟩⟩⟩⟩⟩⟩⟩⟩⟩⟩⟩⟩
theorem law_ord (nets : List (Int × List Int)) (n : Int) (order : List Int) (h1 : (goodB nets) = true) (h2 : (lightN nets n) = true) (h3 : ¬(↑(List.length order) : Int) > (100 : Int)) (h4 : (okBus nets n order) = true) (h5 : (goodB nets && decide (List.length nets ≤ (140737488355328 : Nat))) = true) (h6 : Bus.netsErr nets n = (0 : Int)) (h7 : List.length order ≤ (1000000 : Nat)) (h8 : ¬Bus.orderErr order n = (0 : Int)) (h9 : List.length (Prod.fst (trkB nets n order)) ≤ (1000000 : Nat)) (h10 : (intsB (Prod.fst (trkB nets n order)) (Prod.snd (Prod.snd (trkB nets n order))) (Bus.orderErr order n) []) = true) (h11 : Prod.fst (Prod.snd (trkB nets n order)) = (0 : Int)) (h12 : List.length (Prod.fst (clqB nets n order)) ≤ (1000000 : Nat)) (h13 : (intsB (Prod.fst (clqB nets n order)) (Prod.snd (Prod.snd (clqB nets n order))) (Bus.orderErr order n) []) = true) (h14 : Prod.fst (Prod.snd (clqB nets n order)) = (0 : Int)) :
    Tst.path (vrun0 Tryz.prog lawCs (fl BLaw []) 20 108 [nv nets, iv n, lv order]) [true, true, true, true, false, true, true, true, false, false, true, true, true, true, true, true, true, true, true, true, true, true, true] (toRet Tryz.prog Tryz.f3 true (bv true)) := by
  have eTst : (Tst.path (vrun0 Tryz.prog lawCs (fl BLaw []) 20 108 [nv nets, iv n, lv order]) [true, true, true, true, false, true, true, true, false, false, true, true, true, true, true, true, true, true, true, true, true, true, true] (toRet Tryz.prog Tryz.f3 true (bv true))) = (((true) = true) ∧ (((!true) == false) = true) ∧ (((!true) == false) = true) ∧ (((!true) == false) = true) ∧ ((goodB nets) = true) ∧ (((!true) == false) = true) ∧ ((!true) = false) ∧ (((!lightN nets n) == false) = true) ∧ (((!lightN nets n) == false) = true) ∧ (((!lightN nets n) == false) = true) ∧ ((!lightN nets n) = false) ∧ ((decide ((↑(List.length order) : Int) > (100 : Int))) = false) ∧ ((okBus nets n order) = true) ∧ ((okBus nets n order) = true) ∧ ((goodB nets && decide (List.length nets ≤ (140737488355328 : Nat))) = true) ∧ ((Bus.netsErr nets n == (0 : Int)) = true) ∧ ((decide (List.length order ≤ (1000000 : Nat))) = true) ∧ ((Bus.orderErr order n != (0 : Int)) = true) ∧ ((decide (List.length (Prod.fst (trkB nets n order)) ≤ (1000000 : Nat))) = true) ∧ ((intsB (Prod.fst (trkB nets n order)) (Prod.snd (Prod.snd (trkB nets n order))) (Bus.orderErr order n) [] == true) = true) ∧ ((intsB (Prod.fst (trkB nets n order)) (Prod.snd (Prod.snd (trkB nets n order))) (Bus.orderErr order n) [] == true) = true) ∧ ((intsB (Prod.fst (trkB nets n order)) (Prod.snd (Prod.snd (trkB nets n order))) (Bus.orderErr order n) []) = true) ∧ (((Prod.fst (Prod.snd (trkB nets n order)) == (0 : Int)) == true) = true) ∧ (((Prod.fst (Prod.snd (trkB nets n order)) == (0 : Int)) == true) = true) ∧ (((Prod.fst (Prod.snd (trkB nets n order)) == (0 : Int)) == true) = true) ∧ (((Prod.fst (Prod.snd (trkB nets n order)) == (0 : Int)) == true) = true) ∧ ((decide (List.length (Prod.fst (clqB nets n order)) ≤ (1000000 : Nat))) = true) ∧ ((Prod.fst (Prod.snd (trkB nets n order)) == (0 : Int)) = true) ∧ ((intsB (Prod.fst (clqB nets n order)) (Prod.snd (Prod.snd (clqB nets n order))) (Bus.orderErr order n) [] == true) = true) ∧ ((intsB (Prod.fst (clqB nets n order)) (Prod.snd (Prod.snd (clqB nets n order))) (Bus.orderErr order n) [] == true) = true) ∧ ((intsB (Prod.fst (clqB nets n order)) (Prod.snd (Prod.snd (clqB nets n order))) (Bus.orderErr order n) []) = true) ∧ (Prod.fst (Prod.snd (clqB nets n order)) == (0 : Int)) = true) := by kernel_rfl
  exact eTst.mpr ⟨rfl, ⟨rfl, ⟨rfl, ⟨rfl, ⟨h1, ⟨rfl, ⟨rfl, ⟨congrArg (fun y => y == false) (show (!lightN nets n) = false from congrArg (fun y => !y) (show (lightN nets n) = true from h2)), ⟨congrArg (fun y => y == false) (show (!lightN nets n) = false from congrArg (fun y => !y) (show (lightN nets n) = true from h2)), ⟨congrArg (fun y => y == false) (show (!lightN nets n) = false from congrArg (fun y => !y) (show (lightN nets n) = true from h2)), ⟨congrArg (fun y => !y) (show (lightN nets n) = true from h2), ⟨decide_eq_false h3, ⟨h4, ⟨h4, ⟨h5, ⟨beq_iff_eq.mpr h6, ⟨decide_eq_true h7, ⟨bne_iff_ne.mpr h8, ⟨decide_eq_true h9, ⟨congrArg (fun y => y == true) (show (intsB (Prod.fst (trkB nets n order)) (Prod.snd (Prod.snd (trkB nets n order))) (Bus.orderErr order n) []) = true from h10), ⟨congrArg (fun y => y == true) (show (intsB (Prod.fst (trkB nets n order)) (Prod.snd (Prod.snd (trkB nets n order))) (Bus.orderErr order n) []) = true from h10), ⟨h10, ⟨congrArg (fun y => y == true) (show (Prod.fst (Prod.snd (trkB nets n order)) == (0 : Int)) = true from beq_iff_eq.mpr h11), ⟨congrArg (fun y => y == true) (show (Prod.fst (Prod.snd (trkB nets n order)) == (0 : Int)) = true from beq_iff_eq.mpr h11), ⟨congrArg (fun y => y == true) (show (Prod.fst (Prod.snd (trkB nets n order)) == (0 : Int)) = true from beq_iff_eq.mpr h11), ⟨congrArg (fun y => y == true) (show (Prod.fst (Prod.snd (trkB nets n order)) == (0 : Int)) = true from beq_iff_eq.mpr h11), ⟨decide_eq_true h12, ⟨beq_iff_eq.mpr h11, ⟨congrArg (fun y => y == true) (show (intsB (Prod.fst (clqB nets n order)) (Prod.snd (Prod.snd (clqB nets n order))) (Bus.orderErr order n) []) = true from h13), ⟨congrArg (fun y => y == true) (show (intsB (Prod.fst (clqB nets n order)) (Prod.snd (Prod.snd (clqB nets n order))) (Bus.orderErr order n) []) = true from h13), ⟨h13, beq_iff_eq.mpr h14⟩⟩⟩⟩⟩⟩⟩⟩⟩⟩⟩⟩⟩⟩⟩⟩⟩⟩⟩⟩⟩⟩⟩⟩⟩⟩⟩⟩⟩⟩⟩
theorem law_nets (nets : List (Int × List Int)) (n : Int) (order : List Int) (h1 : (goodB nets) = true) (h2 : (lightN nets n) = true) (h3 : ¬(↑(List.length order) : Int) > (100 : Int)) (h4 : (okBus nets n order) = true) (h5 : (goodB nets && decide (List.length nets ≤ (140737488355328 : Nat))) = true) (h6 : ¬Bus.netsErr nets n = (0 : Int)) (h7 : List.length (Prod.fst (trkB nets n order)) ≤ (1000000 : Nat)) (h8 : (intsB (Prod.fst (trkB nets n order)) (Prod.snd (Prod.snd (trkB nets n order))) (Bus.netsErr nets n) []) = true) (h9 : Prod.fst (Prod.snd (trkB nets n order)) = (0 : Int)) (h10 : List.length (Prod.fst (clqB nets n order)) ≤ (1000000 : Nat)) (h11 : (intsB (Prod.fst (clqB nets n order)) (Prod.snd (Prod.snd (clqB nets n order))) (Bus.netsErr nets n) []) = true) (h12 : Prod.fst (Prod.snd (clqB nets n order)) = (0 : Int)) :
    Tst.path (vrun0 Tryz.prog lawCs (fl BLaw []) 20 108 [nv nets, iv n, lv order]) [true, true, true, true, false, true, true, true, false, false, false, true, true, true, true, true, true, true, true, true, true, true, true] (toRet Tryz.prog Tryz.f3 true (bv true)) := by
  have eTst : (Tst.path (vrun0 Tryz.prog lawCs (fl BLaw []) 20 108 [nv nets, iv n, lv order]) [true, true, true, true, false, true, true, true, false, false, false, true, true, true, true, true, true, true, true, true, true, true, true] (toRet Tryz.prog Tryz.f3 true (bv true))) = (((true) = true) ∧ (((!true) == false) = true) ∧ (((!true) == false) = true) ∧ (((!true) == false) = true) ∧ ((goodB nets) = true) ∧ (((!true) == false) = true) ∧ ((!true) = false) ∧ (((!lightN nets n) == false) = true) ∧ (((!lightN nets n) == false) = true) ∧ (((!lightN nets n) == false) = true) ∧ ((!lightN nets n) = false) ∧ ((decide ((↑(List.length order) : Int) > (100 : Int))) = false) ∧ ((okBus nets n order) = true) ∧ ((okBus nets n order) = true) ∧ ((goodB nets && decide (List.length nets ≤ (140737488355328 : Nat))) = true) ∧ ((Bus.netsErr nets n == (0 : Int)) = false) ∧ ((Bus.netsErr nets n != (0 : Int)) = true) ∧ ((decide (List.length (Prod.fst (trkB nets n order)) ≤ (1000000 : Nat))) = true) ∧ ((intsB (Prod.fst (trkB nets n order)) (Prod.snd (Prod.snd (trkB nets n order))) (Bus.netsErr nets n) [] == true) = true) ∧ ((intsB (Prod.fst (trkB nets n order)) (Prod.snd (Prod.snd (trkB nets n order))) (Bus.netsErr nets n) [] == true) = true) ∧ ((intsB (Prod.fst (trkB nets n order)) (Prod.snd (Prod.snd (trkB nets n order))) (Bus.netsErr nets n) []) = true) ∧ (((Prod.fst (Prod.snd (trkB nets n order)) == (0 : Int)) == true) = true) ∧ (((Prod.fst (Prod.snd (trkB nets n order)) == (0 : Int)) == true) = true) ∧ (((Prod.fst (Prod.snd (trkB nets n order)) == (0 : Int)) == true) = true) ∧ (((Prod.fst (Prod.snd (trkB nets n order)) == (0 : Int)) == true) = true) ∧ ((decide (List.length (Prod.fst (clqB nets n order)) ≤ (1000000 : Nat))) = true) ∧ ((Prod.fst (Prod.snd (trkB nets n order)) == (0 : Int)) = true) ∧ ((intsB (Prod.fst (clqB nets n order)) (Prod.snd (Prod.snd (clqB nets n order))) (Bus.netsErr nets n) [] == true) = true) ∧ ((intsB (Prod.fst (clqB nets n order)) (Prod.snd (Prod.snd (clqB nets n order))) (Bus.netsErr nets n) [] == true) = true) ∧ ((intsB (Prod.fst (clqB nets n order)) (Prod.snd (Prod.snd (clqB nets n order))) (Bus.netsErr nets n) []) = true) ∧ (Prod.fst (Prod.snd (clqB nets n order)) == (0 : Int)) = true) := by kernel_rfl
  exact eTst.mpr ⟨rfl, ⟨rfl, ⟨rfl, ⟨rfl, ⟨h1, ⟨rfl, ⟨rfl, ⟨congrArg (fun y => y == false) (show (!lightN nets n) = false from congrArg (fun y => !y) (show (lightN nets n) = true from h2)), ⟨congrArg (fun y => y == false) (show (!lightN nets n) = false from congrArg (fun y => !y) (show (lightN nets n) = true from h2)), ⟨congrArg (fun y => y == false) (show (!lightN nets n) = false from congrArg (fun y => !y) (show (lightN nets n) = true from h2)), ⟨congrArg (fun y => !y) (show (lightN nets n) = true from h2), ⟨decide_eq_false h3, ⟨h4, ⟨h4, ⟨h5, ⟨beq_eq_false_iff_ne.mpr h6, ⟨bne_iff_ne.mpr h6, ⟨decide_eq_true h7, ⟨congrArg (fun y => y == true) (show (intsB (Prod.fst (trkB nets n order)) (Prod.snd (Prod.snd (trkB nets n order))) (Bus.netsErr nets n) []) = true from h8), ⟨congrArg (fun y => y == true) (show (intsB (Prod.fst (trkB nets n order)) (Prod.snd (Prod.snd (trkB nets n order))) (Bus.netsErr nets n) []) = true from h8), ⟨h8, ⟨congrArg (fun y => y == true) (show (Prod.fst (Prod.snd (trkB nets n order)) == (0 : Int)) = true from beq_iff_eq.mpr h9), ⟨congrArg (fun y => y == true) (show (Prod.fst (Prod.snd (trkB nets n order)) == (0 : Int)) = true from beq_iff_eq.mpr h9), ⟨congrArg (fun y => y == true) (show (Prod.fst (Prod.snd (trkB nets n order)) == (0 : Int)) = true from beq_iff_eq.mpr h9), ⟨congrArg (fun y => y == true) (show (Prod.fst (Prod.snd (trkB nets n order)) == (0 : Int)) = true from beq_iff_eq.mpr h9), ⟨decide_eq_true h10, ⟨beq_iff_eq.mpr h9, ⟨congrArg (fun y => y == true) (show (intsB (Prod.fst (clqB nets n order)) (Prod.snd (Prod.snd (clqB nets n order))) (Bus.netsErr nets n) []) = true from h11), ⟨congrArg (fun y => y == true) (show (intsB (Prod.fst (clqB nets n order)) (Prod.snd (Prod.snd (clqB nets n order))) (Bus.netsErr nets n) []) = true from h11), ⟨h11, beq_iff_eq.mpr h12⟩⟩⟩⟩⟩⟩⟩⟩⟩⟩⟩⟩⟩⟩⟩⟩⟩⟩⟩⟩⟩⟩⟩⟩⟩⟩⟩⟩⟩⟩
theorem law_good (nets : List (Int × List Int)) (n : Int) (order : List Int) (h1 : (goodB nets) = true) (h2 : (lightN nets n) = true) (h3 : ¬(↑(List.length order) : Int) > (100 : Int)) (h4 : (okBus nets n order) = true) (h5 : (goodB nets && decide (List.length nets ≤ (140737488355328 : Nat))) = true) (h6 : Bus.netsErr nets n = (0 : Int)) (h7 : List.length order ≤ (1000000 : Nat)) (h8 : Bus.orderErr order n = (0 : Int)) (h9 : (okNets nets order) = true) (h10 : List.length (Prod.fst (trkB nets n order)) ≤ (1000000 : Nat)) (h11 : (intsB (Prod.fst (trkB nets n order)) (Prod.snd (Prod.snd (trkB nets n order))) (0 : Int) (Prod.fst (rI nets order (List.length order) (0 : Nat)))) = true) (h12 : Prod.fst (Prod.snd (trkB nets n order)) = (↑(cntUp (Prod.fst (rI nets order (List.length order) (0 : Nat))) (List.length nets)) : Int)) (h13 : List.length (Prod.fst (clqB nets n order)) ≤ (1000000 : Nat)) (h14 : (intsB (Prod.fst (clqB nets n order)) (Prod.snd (Prod.snd (clqB nets n order))) (0 : Int) (Prod.fst (clqUpR nets order (List.length order)))) = true) (h15 : Prod.fst (Prod.snd (clqB nets n order)) = Prod.snd (clqUpR nets order (List.length order))) :
    Tst.path (vrun0 Tryz.prog lawCs (fl BLaw []) 20 108 [nv nets, iv n, lv order]) [true, true, true, true, false, true, true, true, false, false, true, false, true, true, true, true, true, true, true, true, true, true, true, true, true] (toRet Tryz.prog Tryz.f3 true (bv true)) := by
  have eTst : (Tst.path (vrun0 Tryz.prog lawCs (fl BLaw []) 20 108 [nv nets, iv n, lv order]) [true, true, true, true, false, true, true, true, false, false, true, false, true, true, true, true, true, true, true, true, true, true, true, true, true] (toRet Tryz.prog Tryz.f3 true (bv true))) = (((true) = true) ∧ (((!true) == false) = true) ∧ (((!true) == false) = true) ∧ (((!true) == false) = true) ∧ ((goodB nets) = true) ∧ (((!true) == false) = true) ∧ ((!true) = false) ∧ (((!lightN nets n) == false) = true) ∧ (((!lightN nets n) == false) = true) ∧ (((!lightN nets n) == false) = true) ∧ ((!lightN nets n) = false) ∧ ((decide ((↑(List.length order) : Int) > (100 : Int))) = false) ∧ ((okBus nets n order) = true) ∧ ((okBus nets n order) = true) ∧ ((goodB nets && decide (List.length nets ≤ (140737488355328 : Nat))) = true) ∧ ((Bus.netsErr nets n == (0 : Int)) = true) ∧ ((decide (List.length order ≤ (1000000 : Nat))) = true) ∧ ((Bus.orderErr order n != (0 : Int)) = false) ∧ ((okNets nets order) = true) ∧ ((okNets nets order) = true) ∧ ((decide (List.length (Prod.fst (trkB nets n order)) ≤ (1000000 : Nat))) = true) ∧ ((intsB (Prod.fst (trkB nets n order)) (Prod.snd (Prod.snd (trkB nets n order))) (0 : Int) (Prod.fst (rI nets order (List.length order) (0 : Nat))) == true) = true) ∧ ((intsB (Prod.fst (trkB nets n order)) (Prod.snd (Prod.snd (trkB nets n order))) (0 : Int) (Prod.fst (rI nets order (List.length order) (0 : Nat))) == true) = true) ∧ ((intsB (Prod.fst (trkB nets n order)) (Prod.snd (Prod.snd (trkB nets n order))) (0 : Int) (Prod.fst (rI nets order (List.length order) (0 : Nat))) == true) = true) ∧ ((intsB (Prod.fst (trkB nets n order)) (Prod.snd (Prod.snd (trkB nets n order))) (0 : Int) (Prod.fst (rI nets order (List.length order) (0 : Nat)))) = true) ∧ (((Prod.fst (Prod.snd (trkB nets n order)) == (↑(cntUp (Prod.fst (rI nets order (List.length order) (0 : Nat))) (List.length nets)) : Int)) == true) = true) ∧ (((Prod.fst (Prod.snd (trkB nets n order)) == (↑(cntUp (Prod.fst (rI nets order (List.length order) (0 : Nat))) (List.length nets)) : Int)) == true) = true) ∧ (((Prod.fst (Prod.snd (trkB nets n order)) == (↑(cntUp (Prod.fst (rI nets order (List.length order) (0 : Nat))) (List.length nets)) : Int)) == true) = true) ∧ (((Prod.fst (Prod.snd (trkB nets n order)) == (↑(cntUp (Prod.fst (rI nets order (List.length order) (0 : Nat))) (List.length nets)) : Int)) == true) = true) ∧ ((decide (List.length (Prod.fst (clqB nets n order)) ≤ (1000000 : Nat))) = true) ∧ ((Prod.fst (Prod.snd (trkB nets n order)) == (↑(cntUp (Prod.fst (rI nets order (List.length order) (0 : Nat))) (List.length nets)) : Int)) = true) ∧ ((intsB (Prod.fst (clqB nets n order)) (Prod.snd (Prod.snd (clqB nets n order))) (0 : Int) (Prod.fst (clqUpR nets order (List.length order))) == true) = true) ∧ ((intsB (Prod.fst (clqB nets n order)) (Prod.snd (Prod.snd (clqB nets n order))) (0 : Int) (Prod.fst (clqUpR nets order (List.length order))) == true) = true) ∧ ((intsB (Prod.fst (clqB nets n order)) (Prod.snd (Prod.snd (clqB nets n order))) (0 : Int) (Prod.fst (clqUpR nets order (List.length order))) == true) = true) ∧ ((intsB (Prod.fst (clqB nets n order)) (Prod.snd (Prod.snd (clqB nets n order))) (0 : Int) (Prod.fst (clqUpR nets order (List.length order)))) = true) ∧ (Prod.fst (Prod.snd (clqB nets n order)) == Prod.snd (clqUpR nets order (List.length order))) = true) := by kernel_rfl
  exact eTst.mpr ⟨rfl, ⟨rfl, ⟨rfl, ⟨rfl, ⟨h1, ⟨rfl, ⟨rfl, ⟨congrArg (fun y => y == false) (show (!lightN nets n) = false from congrArg (fun y => !y) (show (lightN nets n) = true from h2)), ⟨congrArg (fun y => y == false) (show (!lightN nets n) = false from congrArg (fun y => !y) (show (lightN nets n) = true from h2)), ⟨congrArg (fun y => y == false) (show (!lightN nets n) = false from congrArg (fun y => !y) (show (lightN nets n) = true from h2)), ⟨congrArg (fun y => !y) (show (lightN nets n) = true from h2), ⟨decide_eq_false h3, ⟨h4, ⟨h4, ⟨h5, ⟨beq_iff_eq.mpr h6, ⟨decide_eq_true h7, ⟨bne_eq_false_iff_eq.mpr h8, ⟨h9, ⟨h9, ⟨decide_eq_true h10, ⟨congrArg (fun y => y == true) (show (intsB (Prod.fst (trkB nets n order)) (Prod.snd (Prod.snd (trkB nets n order))) (0 : Int) (Prod.fst (rI nets order (List.length order) (0 : Nat)))) = true from h11), ⟨congrArg (fun y => y == true) (show (intsB (Prod.fst (trkB nets n order)) (Prod.snd (Prod.snd (trkB nets n order))) (0 : Int) (Prod.fst (rI nets order (List.length order) (0 : Nat)))) = true from h11), ⟨congrArg (fun y => y == true) (show (intsB (Prod.fst (trkB nets n order)) (Prod.snd (Prod.snd (trkB nets n order))) (0 : Int) (Prod.fst (rI nets order (List.length order) (0 : Nat)))) = true from h11), ⟨h11, ⟨congrArg (fun y => y == true) (show (Prod.fst (Prod.snd (trkB nets n order)) == (↑(cntUp (Prod.fst (rI nets order (List.length order) (0 : Nat))) (List.length nets)) : Int)) = true from beq_iff_eq.mpr h12), ⟨congrArg (fun y => y == true) (show (Prod.fst (Prod.snd (trkB nets n order)) == (↑(cntUp (Prod.fst (rI nets order (List.length order) (0 : Nat))) (List.length nets)) : Int)) = true from beq_iff_eq.mpr h12), ⟨congrArg (fun y => y == true) (show (Prod.fst (Prod.snd (trkB nets n order)) == (↑(cntUp (Prod.fst (rI nets order (List.length order) (0 : Nat))) (List.length nets)) : Int)) = true from beq_iff_eq.mpr h12), ⟨congrArg (fun y => y == true) (show (Prod.fst (Prod.snd (trkB nets n order)) == (↑(cntUp (Prod.fst (rI nets order (List.length order) (0 : Nat))) (List.length nets)) : Int)) = true from beq_iff_eq.mpr h12), ⟨decide_eq_true h13, ⟨beq_iff_eq.mpr h12, ⟨congrArg (fun y => y == true) (show (intsB (Prod.fst (clqB nets n order)) (Prod.snd (Prod.snd (clqB nets n order))) (0 : Int) (Prod.fst (clqUpR nets order (List.length order)))) = true from h14), ⟨congrArg (fun y => y == true) (show (intsB (Prod.fst (clqB nets n order)) (Prod.snd (Prod.snd (clqB nets n order))) (0 : Int) (Prod.fst (clqUpR nets order (List.length order)))) = true from h14), ⟨congrArg (fun y => y == true) (show (intsB (Prod.fst (clqB nets n order)) (Prod.snd (Prod.snd (clqB nets n order))) (0 : Int) (Prod.fst (clqUpR nets order (List.length order)))) = true from h14), ⟨h14, beq_iff_eq.mpr h15⟩⟩⟩⟩⟩⟩⟩⟩⟩⟩⟩⟩⟩⟩⟩⟩⟩⟩⟩⟩⟩⟩⟩⟩⟩⟩⟩⟩⟩⟩⟩⟩⟩⟩⟩
theorem cAwake_ok : cAwake.Ok Tryz.prog := fun _ _ => holds_raw fun w F xs hF hd => by
  cases hd
  exact awake_calls w
theorem law_ok : CallOk Tryz.prog (gS lawCs) := ctrs_ok fun c hc => by
  simp only [List.mem_cons, List.not_mem_nil, or_false] at hc
  rcases hc with rfl | rfl | rfl | rfl | rfl | rfl | rfl | rfl | rfl
  · exact cAwake_ok
  · exact cLight_ok
  · exact cTracksB_ok
  · exact cCliqueB_ok
  · exact cNets_ok
  · exact cOrder_ok
  · exact cInts_ok
  · exact cTracksR_ok
  · exact cCliqueR_ok
def mkNets (nets : List (Int × List Int)) : List NetAt := nets.map fun x => ⟨x.1, x.2, none, 0⟩
theorem mkNets_net (nets : List (Int × List Int)) : (mkNets nets).map NetAt.net = nets := by
  unfold mkNets
  rw [List.map_map]
  exact List.map_id _
theorem ext_at {nets : List (Int × List Int)} {n : Int} {order : List Int} (hE : Bus.bothErr nets n order = 0) (i : Nat) (hi : i < nets.length) :
    (extsOf nets order).getD i (0, 0) = refExt order (nets.getD i (0, [])).2 ∧ 0 ≤ (refExt order (nets.getD i (0, [])).2).1 ∧ (refExt order (nets.getD i (0, [])).2).1 ≤ (refExt order (nets.getD i (0, [])).2).2 ∧ (refExt order (nets.getD i (0, [])).2).2 < order.length := by
  have h := valid_ext (l := mkNets nets) (n := n) (order := order) (by rw [mkNets_net]; exact hE) i (by unfold mkNets; simpa using hi)
  have e : ((mkNets nets).map NetAt.cols).getD i [] = (nets.getD i (0, [])).2 := by
    unfold mkNets
    simp only [List.getD_eq_getElem?_getD, List.getElem?_map, List.getElem?_eq_getElem hi, Option.map_some, Option.getD_some]
  rw [mkNets_net, e] at h
  exact h
theorem refOrd_congr {K K' : Nat → Int} {n : Nat} (h : ∀ i, i < n → K i = K' i) : ∀ p, refOrd K n p = refOrd K' n p
  | 0 => rfl
  | p + 1 => by
    unfold refOrd
    rw [refOrd_congr h p]
    congr 1
    refine List.filter_congr fun i hi => ?_
    rw [h i (List.mem_range.1 hi)]
theorem extsOf_len (nets : List (Int × List Int)) (order : List Int) : (extsOf nets order).length = nets.length := by simp [Bus.exts]
theorem both_iff {nets : List (Int × List Int)} {n : Int} {order : List Int} : Bus.bothErr nets n order = 0 ↔ Bus.netsErr nets n = 0 ∧ Bus.orderErr order n = 0 := by
  unfold Bus.bothErr
  split
  · rename_i h; exact ⟨fun e => absurd e h, fun e => absurd e.1 h⟩
  · rename_i h; exact ⟨fun e => ⟨Classical.not_not.1 h, e⟩, fun e => e.2⟩
theorem tracks_fact {nets : List (Int × List Int)} {n : Int} {order : List Int} (hE : Bus.bothErr nets n order = 0) :
    (rI nets order order.length 0).1 = toI (tracksOf (extsOf nets order)).2 ∧ cntUp (rI nets order order.length 0).1 nets.length = (tracksOf (extsOf nets order)).1.length := by
  have hl := extsOf_len nets order
  have h := tracks_same (extsOf nets order) (mtR nets order) order.length (fun i hi => ?_) (fun i hi => ?_) (fun j i hj hi => ?_)
  · have e : rI nets order order.length 0 = (refOrd (lowAt (extsOf nets order)) (extsOf nets order).length order.length).foldl (refStep (mtR nets order)) (List.replicate (extsOf nets order).length 0, []) := by
      unfold rI
      rw [hl, refOrd_congr (K' := lowAt (extsOf nets order)) fun i hi => ?_]
      · simp
      · unfold lowAt lowR
        rw [(ext_at hE i hi).1]; rfl
    rw [e]
    rw [hl] at h ⊢
    exact h
  · obtain ⟨h1, h2, h3, h4⟩ := ext_at hE i (by omega)
    rw [h1]; exact ⟨h2, by omega⟩
  · obtain ⟨h1, h2, h3, h4⟩ := ext_at hE i (by omega)
    rw [h1]; exact h3
  · obtain ⟨h1, h2, h3, h4⟩ := ext_at hE i (by omega)
    obtain ⟨g1, g2, g3, g4⟩ := ext_at hE j (by omega)
    rw [h1, g1]
    exact meetFrom_eq _ _ _ ⟨g2, g3, g4⟩ ⟨h2, h3, h4⟩
theorem clique_fact {nets : List (Int × List Int)} {n : Int} {order : List Int} (hE : Bus.bothErr nets n order = 0) : clqUpR nets order order.length = cliqueUp (extsOf nets order) n.toNat := by
  have hn : (order.length : Int) = n := (Bus.orderErr_zero (both_iff.1 hE).2).1
  rw [← hn, Int.toNat_natCast]
  have hc : ∀ (p : Nat) k, k ≤ nets.length → covUpR nets order p k = coverUp (extsOf nets order) (p : Int) k := fun p k => by
    induction k with
    | zero => intro _; rfl
    | succ k ih =>
      intro hk
      have e : covB (extsOf nets order) k (p : Int) = covR (refExt order (nets.getD k (0, [])).2) (p : Int) := by
        unfold covB covR
        rw [(ext_at hE k (by omega)).1]
      unfold covUpR coverUp
      rw [ih (by omega), e]
  suffices h : ∀ p, clqUpR nets order p = cliqueUp (extsOf nets order) p from h _
  intro p
  induction p with
  | zero => rfl
  | succ p ih =>
    unfold clqUpR cliqueUp
    rw [ih, extsOf_len, hc p _ (Nat.le_refl _)]
theorem ints_bad' (e : Int) (h : e ≠ 0) : intsB [] e e [] = true := by
  unfold intsB
  rw [if_pos h, if_pos rfl, beq_self_eq_true]
theorem ints_good' (l : List Int) : intsB l 0 0 l = true := by
  unfold intsB
  rw [if_neg (fun h => h rfl), if_pos rfl, decide_eq_true rfl]
theorem law_holds (nets : List (Int × List Int)) (n : Int) (order : List Int) (hg : goodB nets = true) (ho : ∀ c ∈ order, I64 c) : Holds Tryz.prog true 3 [nv nets, iv n, lv order] (bv true) := by
  have hS := law_ok
  refine holds_fl (c := BLaw) Tryz.func3 rfl rfl fun w F => ?_
  by_cases hL : lightN nets n = true
  · have hLL := hL
    unfold lightN at hLL
    simp only [Bool.and_eq_true, Bool.or_eq_true, decide_eq_true_eq, List.all_eq_true] at hLL
    obtain ⟨l70, l12, lsm⟩ := hLL
    by_cases h100 : (order.length : Int) > 100
    · exact GoalL.ret known mixed hS 20 _ (law_long nets n order hg hL h100) fun T H h => h
    · have hok : okBus nets n order = true := by
        unfold okBus
        simp only [Bool.and_eq_true, Bool.or_eq_true, decide_eq_true_eq, List.all_eq_true]
        refine ⟨hg, l70, by omega, ho, ?_⟩
        by_cases hb : Bus.bothErr nets n order = 0
        · exact .inr (by rcases lsm with h | h; exact absurd (both_iff.1 hb).1 h; omega)
        · exact .inl hb
      have h5 : (goodB nets && decide (nets.length ≤ 140737488355328)) = true := by rw [hg, decide_eq_true (by omega)]; rfl
      by_cases hN : Bus.netsErr nets n = 0
      · by_cases hO : Bus.orderErr order n = 0
        · have hE : Bus.bothErr nets n order = 0 := both_iff.2 ⟨hN, hO⟩
          have e1 : trkB nets n order = (toI (tracksOf (extsOf nets order)).2, (((tracksOf (extsOf nets order)).1.length : Nat) : Int), 0) := by unfold trkB; rw [if_pos hE]
          have e2 : clqB nets n order = ((cliqueUp (extsOf nets order) n.toNat).1, (cliqueUp (extsOf nets order) n.toNat).2, 0) := by unfold clqB; rw [if_pos hE]
          obtain ⟨t1, t2⟩ := tracks_fact hE
          have c1 := clique_fact hE
          have hkn : okNets nets order = true := by
            unfold okNets
            simp only [Bool.and_eq_true, decide_eq_true_eq, List.all_eq_true]
            exact ⟨by omega, by omega, fun x hx => by have := l12 x hx; omega⟩
          have hlen : (toI (tracksOf (extsOf nets order)).2).length ≤ 1000000 := by rw [List.length_map, tracksOf_len, extsOf_len]; omega
          have hcl : (cliqueUp (extsOf nets order) n.toNat).1.length ≤ 1000000 := by
            rw [← c1]
            have : ∀ p, (clqUpR nets order p).1.length ≤ nets.length := fun p => by
              induction p with
              | zero => simp [clqUpR]
              | succ p ih =>
                unfold clqUpR
                split
                · exact covUpR_len nets order p nets.length
                · exact ih
            have := this order.length
            omega
          exact GoalL.ret known mixed hS 20 _ (law_good nets n order hg hL h100 hok h5 hN (by omega) hO hkn (by rw [e1]; exact hlen) (by rw [e1, t1]; exact ints_good' _) (by rw [e1, t2]) (by rw [e2]; exact hcl) (by rw [e2, c1]; exact ints_good' _) (by rw [e2, c1])) fun T H h => h
        · have hE : ¬ Bus.bothErr nets n order = 0 := fun h => hO (both_iff.1 h).2
          have hB : Bus.bothErr nets n order = Bus.orderErr order n := by unfold Bus.bothErr; rw [if_neg (fun h => h hN)]
          have e1 : trkB nets n order = ([], 0, Bus.orderErr order n) := by unfold trkB; rw [if_neg hE, hB]
          have e2 : clqB nets n order = ([], 0, Bus.orderErr order n) := by unfold clqB; rw [if_neg hE, hB]
          exact GoalL.ret known mixed hS 20 _ (law_ord nets n order hg hL h100 hok h5 hN (by omega) hO (by rw [e1]; simp) (by rw [e1]; exact ints_bad' _ hO) (by rw [e1]) (by rw [e2]; simp) (by rw [e2]; exact ints_bad' _ hO) (by rw [e2])) fun T H h => h
      · have hE : ¬ Bus.bothErr nets n order = 0 := fun h => hN (both_iff.1 h).1
        have hB : Bus.bothErr nets n order = Bus.netsErr nets n := by unfold Bus.bothErr; rw [if_pos hN]
        have e1 : trkB nets n order = ([], 0, Bus.netsErr nets n) := by unfold trkB; rw [if_neg hE, hB]
        have e2 : clqB nets n order = ([], 0, Bus.netsErr nets n) := by unfold clqB; rw [if_neg hE, hB]
        exact GoalL.ret known mixed hS 20 _ (law_nets nets n order hg hL h100 hok h5 hN (by rw [e1]; simp) (by rw [e1]; exact ints_bad' _ hN) (by rw [e1]) (by rw [e2]; simp) (by rw [e2]; exact ints_bad' _ hN) (by rw [e2])) fun T H h => h
  · exact GoalL.ret known mixed hS 20 _ (law_skip nets n order hg (by simpa using hL)) fun T H h => h
end
end Go.Proofs.YtkjjnnbbicoljaaGreatDoor
