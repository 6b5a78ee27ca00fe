/- Package bus: Best. -/
import Derived.Test.YtbldpojkpmafpaaGreatDoorZtVSm
import Derived.Test.YtbldpojkpmafpaaGreatDoorZtVBestLaw
import Derived.Test.YtbldpojkpmafpaaGreatDoorZtOrders
import Derived.Test.YtbldpojkpmafpaaGreatDoorZtVCr
import Derived.Test.YtbldpojkpmafpaaGreatDoorZtBusOwn
import Derived.BigQuiet
import Derived.RegionIn
import Derived.Laws.EntriesVeiled
namespace Go.Proofs.YtbldpojkpmafpaaGreatDoor
open Go.RowKit Sv
attribute [local go_sem] Oper.semAt_some
set_option maxRecDepth 100000
set_option linter.unusedVariables false
noncomputable section
def BBe : Code := (Tryz.f10.body).getD .skip
def beCs : VCaller := orCs rowFs rowCs (ctrs [cNetsB, cCmp, cFirst])
def eB : List Nat := [1, 1, 1, 1, 0, 1, 0, 1]
abbrev rkE (j : Nat) (c m l : Int) : Nat × Ent := (j, .blk (.cells 69 [iv c, iv m, iv l] true false false))
abbrev netE (j : Nat) (nets : List (Int × List Int)) : Nat × Ent := (j, .blk (.cells 22 [nv nets] true false false))
def SBs (nets : List (Int × List Int)) (n : Int) : St := { n := 56, sl := [(2, .ptr 64 0), (4, .ptr 65 0), (7, .ptr 66 0), (8, .ptr 67 0), (28, .func (.func 86) [] [.ptr 68 0])], en := [netE 64 nets, nilLay 65, nilLay 66, rkE 67 manyI manyI manyI, (68, .blk (.cells 3 [iv n] true false false))], next := 69 }
def SBe0 (nets : List (Int × List Int)) : St := { n := 56, sl := [(2, .ptr 64 0), (4, .ptr 65 0), (7, .ptr 66 0), (8, .ptr 67 0)], en := [netE 64 nets, nilLay 65, nilLay 66, rkE 67 manyI manyI manyI], next := 68 }
def SBe1 (nets : List (Int × List Int)) (bo bt : List Int) (c m l : Int) : St := { n := 56, sl := [(2, .ptr 64 0), (4, .ptr 65 0), (7, .ptr 66 0), (8, .ptr 67 0)], en := [netE 64 nets, nilLay 65, layE 66 bo bt, rkE 67 c m l], next := 68 }
def SBr0 (nets : List (Int × List Int)) (o : List Int) : St := { n := 56, sl := [(2, .ptr 64 0), (4, .ptr 65 0), (7, .ptr 66 0), (8, .ptr 67 0), (9, lv o), (29, lv o)], en := [netE 64 nets, nilLay 65, nilLay 66, rkE 67 manyI manyI manyI], next := 68 }
def SBr1 (nets : List (Int × List Int)) (o bo bt : List Int) (c m l : Int) : St := { n := 56, sl := [(2, .ptr 64 0), (4, .ptr 65 0), (7, .ptr 66 0), (8, .ptr 67 0), (9, lv o), (29, lv o)], en := [netE 64 nets, nilLay 65, layE 66 bo bt, rkE 67 c m l], next := 68 }
theorem be_far (nets : List (Int × List Int)) (n : Int) (h1 : (goodB nets && decide (List.length nets ≤ (140737488355328 : Nat))) = true) (h2 : n > (8 : Int)) (h3 : List.length [Bus.netsErr nets n, (21 : Int)] ≤ (1000000 : Nat)) (h4 : ¬firstOf [Bus.netsErr nets n, (21 : Int)] = (0 : Int)) :
    Tst.path (vrun0 Tryz.prog beCs (fl BBe []) 7 56 [nv nets, iv n]) [true, true] (toRet Tryz.prog Tryz.f10 false (.tuple [yv [] [], iv (firstOf [Bus.netsErr nets n, 21])])) := by
  have eTst : (Tst.path (vrun0 Tryz.prog beCs (fl BBe []) 7 56 [nv nets, iv n]) [true, true] (toRet Tryz.prog Tryz.f10 false (.tuple [yv [] [], iv (firstOf [Bus.netsErr nets n, 21])]))) = (((goodB nets && decide (List.length nets ≤ (140737488355328 : Nat))) = true) ∧ ((decide (n > (8 : Int))) = true) ∧ ((decide (List.length [Bus.netsErr nets n, (21 : Int)] ≤ (1000000 : Nat))) = true) ∧ ((firstOf [Bus.netsErr nets n, (21 : Int)] != (0 : Int)) = true) ∧ (((nilI) = ([])) ∧ ((nilI) = ([])) ∧ True) ∧ ((firstOf [Bus.netsErr nets n, (21 : Int)]) = (firstOf [Bus.netsErr nets n, (21 : Int)])) ∧ True) := by kernel_rfl
  exact eTst.mpr ⟨h1, ⟨decide_eq_true h2, ⟨decide_eq_true h3, ⟨bne_iff_ne.mpr h4, ⟨⟨rfl, ⟨rfl, trivial⟩⟩, ⟨rfl, trivial⟩⟩⟩⟩⟩⟩
theorem be_bad (nets : List (Int × List Int)) (n : Int) (h1 : (goodB nets && decide (List.length nets ≤ (140737488355328 : Nat))) = true) (h2 : ¬n > (8 : Int)) (h3 : List.length [Bus.netsErr nets n, (0 : Int)] ≤ (1000000 : Nat)) (h4 : ¬firstOf [Bus.netsErr nets n, (0 : Int)] = (0 : Int)) :
    Tst.path (vrun0 Tryz.prog beCs (fl BBe []) 7 56 [nv nets, iv n]) [false, true] (toRet Tryz.prog Tryz.f10 false (.tuple [yv [] [], iv (firstOf [Bus.netsErr nets n, 0])])) := by
  have eTst : (Tst.path (vrun0 Tryz.prog beCs (fl BBe []) 7 56 [nv nets, iv n]) [false, true] (toRet Tryz.prog Tryz.f10 false (.tuple [yv [] [], iv (firstOf [Bus.netsErr nets n, 0])]))) = (((goodB nets && decide (List.length nets ≤ (140737488355328 : Nat))) = true) ∧ ((decide (n > (8 : Int))) = false) ∧ ((decide (List.length [Bus.netsErr nets n, (0 : Int)] ≤ (1000000 : Nat))) = true) ∧ ((firstOf [Bus.netsErr nets n, (0 : Int)] != (0 : Int)) = true) ∧ (((nilI) = ([])) ∧ ((nilI) = ([])) ∧ True) ∧ ((firstOf [Bus.netsErr nets n, (0 : Int)]) = (firstOf [Bus.netsErr nets n, (0 : Int)])) ∧ True) := by kernel_rfl
  exact eTst.mpr ⟨h1, ⟨decide_eq_false h2, ⟨decide_eq_true h3, ⟨bne_iff_ne.mpr h4, ⟨⟨rfl, ⟨rfl, trivial⟩⟩, ⟨rfl, trivial⟩⟩⟩⟩⟩⟩
theorem be_start (nets : List (Int × List Int)) (n : Int) (h1 : (goodB nets && decide (List.length nets ≤ (140737488355328 : Nat))) = true) (h2 : ¬n > (8 : Int)) (h3 : List.length [Bus.netsErr nets n, (0 : Int)] ≤ (1000000 : Nat)) (h4 : firstOf [Bus.netsErr nets n, (0 : Int)] = (0 : Int)) :
    Tst.path (vrun0 Tryz.prog beCs (fl BBe []) 7 56 [nv nets, iv n]) [false, false] (toSt Tryz.prog 56 .normal [(64, 64, none), (65, 65, none), (66, 67, none), (67, 68, none), (68, 69, none)] (SBs nets n)) := by
  have eTst : (Tst.path (vrun0 Tryz.prog beCs (fl BBe []) 7 56 [nv nets, iv n]) [false, false] (toSt Tryz.prog 56 .normal [(64, 64, none), (65, 65, none), (66, 67, none), (67, 68, none), (68, 69, none)] (SBs nets n))) = (((goodB nets && decide (List.length nets ≤ (140737488355328 : Nat))) = true) ∧ ((decide (n > (8 : Int))) = false) ∧ ((decide (List.length [Bus.netsErr nets n, (0 : Int)] ≤ (1000000 : Nat))) = true) ∧ ((firstOf [Bus.netsErr nets n, (0 : Int)] != (0 : Int)) = false) ∧ (((0 : Nat)) = ((0 : Nat))) ∧ (((0 : Nat)) = ((0 : Nat))) ∧ (((0 : Nat)) = ((0 : Nat))) ∧ (((0 : Nat)) = ((0 : Nat))) ∧ ((True) ∧ (((0 : Nat)) = ((0 : Nat))) ∧ True) ∧ (((nets) = (nets)) ∧ True) ∧ (((Value.slice none (0 : Nat) (0 : Nat)) = (Value.slice none (0 : Nat) (0 : Nat))) ∧ ((Value.slice none (0 : Nat) (0 : Nat)) = (Value.slice none (0 : Nat) (0 : Nat))) ∧ True) ∧ (((Value.slice none (0 : Nat) (0 : Nat)) = (Value.slice none (0 : Nat) (0 : Nat))) ∧ ((Value.slice none (0 : Nat) (0 : Nat)) = (Value.slice none (0 : Nat) (0 : Nat))) ∧ True) ∧ ((((1099511627776 : Int)) = ((1099511627776 : Int))) ∧ (((1099511627776 : Int)) = ((1099511627776 : Int))) ∧ (((1099511627776 : Int)) = ((1099511627776 : Int))) ∧ True) ∧ (((n) = (n)) ∧ True) ∧ True) := by kernel_rfl
  exact eTst.mpr ⟨h1, ⟨decide_eq_false h2, ⟨decide_eq_true h3, ⟨bne_eq_false_iff_eq.mpr h4, ⟨rfl, ⟨rfl, ⟨rfl, ⟨rfl, ⟨⟨trivial, ⟨rfl, trivial⟩⟩, ⟨⟨rfl, trivial⟩, ⟨⟨rfl, ⟨rfl, trivial⟩⟩, ⟨⟨rfl, ⟨rfl, trivial⟩⟩, ⟨⟨rfl, ⟨rfl, ⟨rfl, trivial⟩⟩⟩, ⟨⟨rfl, trivial⟩, trivial⟩⟩⟩⟩⟩⟩⟩⟩⟩⟩⟩⟩⟩⟩
theorem be_take0 (nets : List (Int × List Int)) (o : List Int) (h1 : (okStand nets o) = true) (h2 : (okRow (rowD nets o)) = true) (h3 : (okRow (rowD nets o) && decide (List.length (trkD (rowD nets o)) = List.length (Prod.fst (rowD nets o)))) = true) (h4 : List.length [crossD (rowD nets o) (trkD (rowD nets o)) (1099511627776 : Int), numD (rowD nets o), lenD (rowD nets o)] ≤ (1000000 : Nat)) (h5 : cmpI [crossD (rowD nets o) (trkD (rowD nets o)) (1099511627776 : Int), numD (rowD nets o), lenD (rowD nets o)] [(1099511627776 : Int), (1099511627776 : Int), (1099511627776 : Int)] < (0 : Int)) :
    Tst.path (vall Tryz.prog beCs (fl BBe eB) (SBr0 nets o)) [true] (toSt Tryz.prog 56 .normal [(64, 64, none), (65, 65, none), (66, 66, none), (67, 67, none)] (SBe1 nets o (trkD (rowD nets o)) (crossD (rowD nets o) (trkD (rowD nets o)) 1099511627776) (numD (rowD nets o)) (lenD (rowD nets o)))) := by
  have eTst : (Tst.path (vall Tryz.prog beCs (fl BBe eB) (SBr0 nets o)) [true] (toSt Tryz.prog 56 .normal [(64, 64, none), (65, 65, none), (66, 66, none), (67, 67, none)] (SBe1 nets o (trkD (rowD nets o)) (crossD (rowD nets o) (trkD (rowD nets o)) 1099511627776) (numD (rowD nets o)) (lenD (rowD nets o))))) = (((okStand nets o) = true) ∧ ((okRow (rowD nets o)) = true) ∧ ((okRow (rowD nets o) && decide (List.length (trkD (rowD nets o)) = List.length (Prod.fst (rowD nets o)))) = true) ∧ ((okRow (rowD nets o)) = true) ∧ ((decide (List.length [crossD (rowD nets o) (trkD (rowD nets o)) (1099511627776 : Int), numD (rowD nets o), lenD (rowD nets o)] ≤ (1000000 : Nat))) = true) ∧ ((decide (cmpI [crossD (rowD nets o) (trkD (rowD nets o)) (1099511627776 : Int), numD (rowD nets o), lenD (rowD nets o)] [(1099511627776 : Int), (1099511627776 : Int), (1099511627776 : Int)] < (0 : Int))) = true) ∧ ((AV.same (AV.agg (List.take (3 : Nat) (List.drop (0 : Nat) (List.take (0 : Nat) (List.map AV.raw (Array.toList #[Value.int IntKind.i64 (0 : Int), Value.int IntKind.i64 (0 : Int), Value.int IntKind.i64 (0 : Int)])) ++ AV.raw (Value.int IntKind.i64 (crossD (rowD nets o) (trkD (rowD nets o)) (1099511627776 : Int))) :: AV.raw (Value.int IntKind.i64 (numD (rowD nets o))) :: AV.raw (Value.int IntKind.i64 (lenD (rowD nets o))) :: List.map._f AV.raw [] PUnit.unit ++ List.drop ((0 : Nat) + List.length (AV.raw (Value.int IntKind.i64 (crossD (rowD nets o) (trkD (rowD nets o)) (1099511627776 : Int))) :: AV.raw (Value.int IntKind.i64 (numD (rowD nets o))) :: AV.raw (Value.int IntKind.i64 (lenD (rowD nets o))) :: List.map._f AV.raw [] PUnit.unit)) (List.map AV.raw (Array.toList #[Value.int IntKind.i64 (0 : Int), Value.int IntKind.i64 (0 : Int), Value.int IntKind.i64 (0 : Int)])))))) (AV.agg (List.take (3 : Nat) (List.drop (0 : Nat) (List.take (0 : Nat) (List.map AV.raw (Array.toList #[Value.int IntKind.i64 (0 : Int), Value.int IntKind.i64 (0 : Int), Value.int IntKind.i64 (0 : Int)])) ++ AV.raw (Value.int IntKind.i64 (crossD (rowD nets o) (trkD (rowD nets o)) (1099511627776 : Int))) :: AV.raw (Value.int IntKind.i64 (numD (rowD nets o))) :: AV.raw (Value.int IntKind.i64 (lenD (rowD nets o))) :: List.map._f AV.raw [] PUnit.unit ++ List.drop ((0 : Nat) + List.length (AV.raw (Value.int IntKind.i64 (crossD (rowD nets o) (trkD (rowD nets o)) (1099511627776 : Int))) :: AV.raw (Value.int IntKind.i64 (numD (rowD nets o))) :: AV.raw (Value.int IntKind.i64 (lenD (rowD nets o))) :: List.map._f AV.raw [] PUnit.unit)) (List.map AV.raw (Array.toList #[Value.int IntKind.i64 (0 : Int), Value.int IntKind.i64 (0 : Int), Value.int IntKind.i64 (0 : Int)]))))))) = true) ∧ ((AV.same (AV.agg (List.take (3 : Nat) (List.drop (0 : Nat) (List.take (0 : Nat) (List.map AV.raw (Array.toList #[Value.int IntKind.i64 (0 : Int), Value.int IntKind.i64 (0 : Int), Value.int IntKind.i64 (0 : Int)])) ++ AV.raw (Value.int IntKind.i64 (crossD (rowD nets o) (trkD (rowD nets o)) (1099511627776 : Int))) :: AV.raw (Value.int IntKind.i64 (numD (rowD nets o))) :: AV.raw (Value.int IntKind.i64 (lenD (rowD nets o))) :: List.map._f AV.raw [] PUnit.unit ++ List.drop ((0 : Nat) + List.length (AV.raw (Value.int IntKind.i64 (crossD (rowD nets o) (trkD (rowD nets o)) (1099511627776 : Int))) :: AV.raw (Value.int IntKind.i64 (numD (rowD nets o))) :: AV.raw (Value.int IntKind.i64 (lenD (rowD nets o))) :: List.map._f AV.raw [] PUnit.unit)) (List.map AV.raw (Array.toList #[Value.int IntKind.i64 (0 : Int), Value.int IntKind.i64 (0 : Int), Value.int IntKind.i64 (0 : Int)])))))) (AV.agg (List.take (3 : Nat) (List.drop (0 : Nat) (List.take (0 : Nat) (List.map AV.raw (Array.toList #[Value.int IntKind.i64 (0 : Int), Value.int IntKind.i64 (0 : Int), Value.int IntKind.i64 (0 : Int)])) ++ AV.raw (Value.int IntKind.i64 (crossD (rowD nets o) (trkD (rowD nets o)) (1099511627776 : Int))) :: AV.raw (Value.int IntKind.i64 (numD (rowD nets o))) :: AV.raw (Value.int IntKind.i64 (lenD (rowD nets o))) :: List.map._f AV.raw [] PUnit.unit ++ List.drop ((0 : Nat) + List.length (AV.raw (Value.int IntKind.i64 (crossD (rowD nets o) (trkD (rowD nets o)) (1099511627776 : Int))) :: AV.raw (Value.int IntKind.i64 (numD (rowD nets o))) :: AV.raw (Value.int IntKind.i64 (lenD (rowD nets o))) :: List.map._f AV.raw [] PUnit.unit)) (List.map AV.raw (Array.toList #[Value.int IntKind.i64 (0 : Int), Value.int IntKind.i64 (0 : Int), Value.int IntKind.i64 (0 : Int)]))))))) = true) ∧ (((0 : Nat)) = ((0 : Nat))) ∧ (((0 : Nat)) = ((0 : Nat))) ∧ (((0 : Nat)) = ((0 : Nat))) ∧ (((0 : Nat)) = ((0 : Nat))) ∧ (((nets) = (nets)) ∧ True) ∧ (((Value.slice none (0 : Nat) (0 : Nat)) = (Value.slice none (0 : Nat) (0 : Nat))) ∧ ((Value.slice none (0 : Nat) (0 : Nat)) = (Value.slice none (0 : Nat) (0 : Nat))) ∧ True) ∧ (((o) = (o)) ∧ ((trkD (rowD nets o)) = (trkD (rowD nets o))) ∧ True) ∧ (((crossD (rowD nets o) (trkD (rowD nets o)) (1099511627776 : Int)) = (crossD (rowD nets o) (trkD (rowD nets o)) (1099511627776 : Int))) ∧ ((numD (rowD nets o)) = (numD (rowD nets o))) ∧ ((lenD (rowD nets o)) = (lenD (rowD nets o))) ∧ True) ∧ True) := by kernel_rfl
  exact eTst.mpr ⟨h1, ⟨h2, ⟨h3, ⟨h2, ⟨decide_eq_true h4, ⟨decide_eq_true h5, ⟨(by simp only [Nat.zero_add] <;> exact (show (AV.same (AV.agg (List.take (3 : Nat) (List.drop (0 : Nat) (List.take (0 : Nat) (List.map AV.raw (Array.toList #[Value.int IntKind.i64 (0 : Int), Value.int IntKind.i64 (0 : Int), Value.int IntKind.i64 (0 : Int)])) ++ AV.raw (Value.int IntKind.i64 (crossD (rowD nets o) (trkD (rowD nets o)) (1099511627776 : Int))) :: AV.raw (Value.int IntKind.i64 (numD (rowD nets o))) :: AV.raw (Value.int IntKind.i64 (lenD (rowD nets o))) :: List.map._f AV.raw [] PUnit.unit ++ List.drop (List.length (AV.raw (Value.int IntKind.i64 (crossD (rowD nets o) (trkD (rowD nets o)) (1099511627776 : Int))) :: AV.raw (Value.int IntKind.i64 (numD (rowD nets o))) :: AV.raw (Value.int IntKind.i64 (lenD (rowD nets o))) :: List.map._f AV.raw [] PUnit.unit)) (List.map AV.raw (Array.toList #[Value.int IntKind.i64 (0 : Int), Value.int IntKind.i64 (0 : Int), Value.int IntKind.i64 (0 : Int)])))))) (AV.agg (List.take (3 : Nat) (List.drop (0 : Nat) (List.take (0 : Nat) (List.map AV.raw (Array.toList #[Value.int IntKind.i64 (0 : Int), Value.int IntKind.i64 (0 : Int), Value.int IntKind.i64 (0 : Int)])) ++ AV.raw (Value.int IntKind.i64 (crossD (rowD nets o) (trkD (rowD nets o)) (1099511627776 : Int))) :: AV.raw (Value.int IntKind.i64 (numD (rowD nets o))) :: AV.raw (Value.int IntKind.i64 (lenD (rowD nets o))) :: List.map._f AV.raw [] PUnit.unit ++ List.drop (List.length (AV.raw (Value.int IntKind.i64 (crossD (rowD nets o) (trkD (rowD nets o)) (1099511627776 : Int))) :: AV.raw (Value.int IntKind.i64 (numD (rowD nets o))) :: AV.raw (Value.int IntKind.i64 (lenD (rowD nets o))) :: List.map._f AV.raw [] PUnit.unit)) (List.map AV.raw (Array.toList #[Value.int IntKind.i64 (0 : Int), Value.int IntKind.i64 (0 : Int), Value.int IntKind.i64 (0 : Int)]))))))) = true from same_refl (by kernel_rfl))), ⟨(by simp only [Nat.zero_add] <;> exact (show (AV.same (AV.agg (List.take (3 : Nat) (List.drop (0 : Nat) (List.take (0 : Nat) (List.map AV.raw (Array.toList #[Value.int IntKind.i64 (0 : Int), Value.int IntKind.i64 (0 : Int), Value.int IntKind.i64 (0 : Int)])) ++ AV.raw (Value.int IntKind.i64 (crossD (rowD nets o) (trkD (rowD nets o)) (1099511627776 : Int))) :: AV.raw (Value.int IntKind.i64 (numD (rowD nets o))) :: AV.raw (Value.int IntKind.i64 (lenD (rowD nets o))) :: List.map._f AV.raw [] PUnit.unit ++ List.drop (List.length (AV.raw (Value.int IntKind.i64 (crossD (rowD nets o) (trkD (rowD nets o)) (1099511627776 : Int))) :: AV.raw (Value.int IntKind.i64 (numD (rowD nets o))) :: AV.raw (Value.int IntKind.i64 (lenD (rowD nets o))) :: List.map._f AV.raw [] PUnit.unit)) (List.map AV.raw (Array.toList #[Value.int IntKind.i64 (0 : Int), Value.int IntKind.i64 (0 : Int), Value.int IntKind.i64 (0 : Int)])))))) (AV.agg (List.take (3 : Nat) (List.drop (0 : Nat) (List.take (0 : Nat) (List.map AV.raw (Array.toList #[Value.int IntKind.i64 (0 : Int), Value.int IntKind.i64 (0 : Int), Value.int IntKind.i64 (0 : Int)])) ++ AV.raw (Value.int IntKind.i64 (crossD (rowD nets o) (trkD (rowD nets o)) (1099511627776 : Int))) :: AV.raw (Value.int IntKind.i64 (numD (rowD nets o))) :: AV.raw (Value.int IntKind.i64 (lenD (rowD nets o))) :: List.map._f AV.raw [] PUnit.unit ++ List.drop (List.length (AV.raw (Value.int IntKind.i64 (crossD (rowD nets o) (trkD (rowD nets o)) (1099511627776 : Int))) :: AV.raw (Value.int IntKind.i64 (numD (rowD nets o))) :: AV.raw (Value.int IntKind.i64 (lenD (rowD nets o))) :: List.map._f AV.raw [] PUnit.unit)) (List.map AV.raw (Array.toList #[Value.int IntKind.i64 (0 : Int), Value.int IntKind.i64 (0 : Int), Value.int IntKind.i64 (0 : Int)]))))))) = true from same_refl (by kernel_rfl))), ⟨rfl, ⟨rfl, ⟨rfl, ⟨rfl, ⟨⟨rfl, trivial⟩, ⟨⟨rfl, ⟨rfl, trivial⟩⟩, ⟨⟨rfl, ⟨rfl, trivial⟩⟩, ⟨⟨rfl, ⟨rfl, ⟨rfl, trivial⟩⟩⟩, trivial⟩⟩⟩⟩⟩⟩⟩⟩⟩⟩⟩⟩⟩⟩⟩⟩
theorem be_keep0 (nets : List (Int × List Int)) (o : List Int) (h1 : (okStand nets o) = true) (h2 : (okRow (rowD nets o)) = true) (h3 : (okRow (rowD nets o) && decide (List.length (trkD (rowD nets o)) = List.length (Prod.fst (rowD nets o)))) = true) (h4 : List.length [crossD (rowD nets o) (trkD (rowD nets o)) (1099511627776 : Int), numD (rowD nets o), lenD (rowD nets o)] ≤ (1000000 : Nat)) (h5 : ¬cmpI [crossD (rowD nets o) (trkD (rowD nets o)) (1099511627776 : Int), numD (rowD nets o), lenD (rowD nets o)] [(1099511627776 : Int), (1099511627776 : Int), (1099511627776 : Int)] < (0 : Int)) :
    Tst.path (vall Tryz.prog beCs (fl BBe eB) (SBr0 nets o)) [false] (toSt Tryz.prog 56 .normal [(64, 64, none), (65, 65, none), (66, 66, none), (67, 67, none)] (SBe0 nets)) := by
  have eTst : (Tst.path (vall Tryz.prog beCs (fl BBe eB) (SBr0 nets o)) [false] (toSt Tryz.prog 56 .normal [(64, 64, none), (65, 65, none), (66, 66, none), (67, 67, none)] (SBe0 nets))) = (((okStand nets o) = true) ∧ ((okRow (rowD nets o)) = true) ∧ ((okRow (rowD nets o) && decide (List.length (trkD (rowD nets o)) = List.length (Prod.fst (rowD nets o)))) = true) ∧ ((okRow (rowD nets o)) = true) ∧ ((decide (List.length [crossD (rowD nets o) (trkD (rowD nets o)) (1099511627776 : Int), numD (rowD nets o), lenD (rowD nets o)] ≤ (1000000 : Nat))) = true) ∧ ((decide (cmpI [crossD (rowD nets o) (trkD (rowD nets o)) (1099511627776 : Int), numD (rowD nets o), lenD (rowD nets o)] [(1099511627776 : Int), (1099511627776 : Int), (1099511627776 : Int)] < (0 : Int))) = false) ∧ (((0 : Nat)) = ((0 : Nat))) ∧ (((0 : Nat)) = ((0 : Nat))) ∧ (((0 : Nat)) = ((0 : Nat))) ∧ (((0 : Nat)) = ((0 : Nat))) ∧ (((nets) = (nets)) ∧ True) ∧ (((Value.slice none (0 : Nat) (0 : Nat)) = (Value.slice none (0 : Nat) (0 : Nat))) ∧ ((Value.slice none (0 : Nat) (0 : Nat)) = (Value.slice none (0 : Nat) (0 : Nat))) ∧ True) ∧ (((Value.slice none (0 : Nat) (0 : Nat)) = (Value.slice none (0 : Nat) (0 : Nat))) ∧ ((Value.slice none (0 : Nat) (0 : Nat)) = (Value.slice none (0 : Nat) (0 : Nat))) ∧ True) ∧ ((((1099511627776 : Int)) = ((1099511627776 : Int))) ∧ (((1099511627776 : Int)) = ((1099511627776 : Int))) ∧ (((1099511627776 : Int)) = ((1099511627776 : Int))) ∧ True) ∧ True) := by kernel_rfl
  exact eTst.mpr ⟨h1, ⟨h2, ⟨h3, ⟨h2, ⟨decide_eq_true h4, ⟨decide_eq_false h5, ⟨rfl, ⟨rfl, ⟨rfl, ⟨rfl, ⟨⟨rfl, trivial⟩, ⟨⟨rfl, ⟨rfl, trivial⟩⟩, ⟨⟨rfl, ⟨rfl, trivial⟩⟩, ⟨⟨rfl, ⟨rfl, ⟨rfl, trivial⟩⟩⟩, trivial⟩⟩⟩⟩⟩⟩⟩⟩⟩⟩⟩⟩⟩⟩
theorem be_take1 (nets : List (Int × List Int)) (o bo bt : List Int) (c m l : Int) (h1 : (okStand nets o) = true) (h2 : (okRow (rowD nets o)) = true) (h3 : (okRow (rowD nets o) && decide (List.length (trkD (rowD nets o)) = List.length (Prod.fst (rowD nets o)))) = true) (h4 : List.length [crossD (rowD nets o) (trkD (rowD nets o)) c, numD (rowD nets o), lenD (rowD nets o)] ≤ (1000000 : Nat)) (h5 : cmpI [crossD (rowD nets o) (trkD (rowD nets o)) c, numD (rowD nets o), lenD (rowD nets o)] [c, m, l] < (0 : Int)) :
    Tst.path (vall Tryz.prog beCs (fl BBe eB) (SBr1 nets o bo bt c m l)) [true] (toSt Tryz.prog 56 .normal [(64, 64, none), (65, 65, none), (66, 66, none), (67, 67, none)] (SBe1 nets o (trkD (rowD nets o)) (crossD (rowD nets o) (trkD (rowD nets o)) c) (numD (rowD nets o)) (lenD (rowD nets o)))) := by
  have eTst : (Tst.path (vall Tryz.prog beCs (fl BBe eB) (SBr1 nets o bo bt c m l)) [true] (toSt Tryz.prog 56 .normal [(64, 64, none), (65, 65, none), (66, 66, none), (67, 67, none)] (SBe1 nets o (trkD (rowD nets o)) (crossD (rowD nets o) (trkD (rowD nets o)) c) (numD (rowD nets o)) (lenD (rowD nets o))))) = (((okStand nets o) = true) ∧ ((okRow (rowD nets o)) = true) ∧ ((okRow (rowD nets o) && decide (List.length (trkD (rowD nets o)) = List.length (Prod.fst (rowD nets o)))) = true) ∧ ((okRow (rowD nets o)) = true) ∧ ((decide (List.length [crossD (rowD nets o) (trkD (rowD nets o)) c, numD (rowD nets o), lenD (rowD nets o)] ≤ (1000000 : Nat))) = true) ∧ ((decide (cmpI [crossD (rowD nets o) (trkD (rowD nets o)) c, numD (rowD nets o), lenD (rowD nets o)] [c, m, l] < (0 : Int))) = true) ∧ ((AV.same (AV.agg (List.take (3 : Nat) (List.drop (0 : Nat) (List.take (0 : Nat) (List.map AV.raw (Array.toList #[Value.int IntKind.i64 (0 : Int), Value.int IntKind.i64 (0 : Int), Value.int IntKind.i64 (0 : Int)])) ++ AV.raw (Value.int IntKind.i64 (crossD (rowD nets o) (trkD (rowD nets o)) c)) :: AV.raw (Value.int IntKind.i64 (numD (rowD nets o))) :: AV.raw (Value.int IntKind.i64 (lenD (rowD nets o))) :: List.map._f AV.raw [] PUnit.unit ++ List.drop ((0 : Nat) + List.length (AV.raw (Value.int IntKind.i64 (crossD (rowD nets o) (trkD (rowD nets o)) c)) :: AV.raw (Value.int IntKind.i64 (numD (rowD nets o))) :: AV.raw (Value.int IntKind.i64 (lenD (rowD nets o))) :: List.map._f AV.raw [] PUnit.unit)) (List.map AV.raw (Array.toList #[Value.int IntKind.i64 (0 : Int), Value.int IntKind.i64 (0 : Int), Value.int IntKind.i64 (0 : Int)])))))) (AV.agg (List.take (3 : Nat) (List.drop (0 : Nat) (List.take (0 : Nat) (List.map AV.raw (Array.toList #[Value.int IntKind.i64 (0 : Int), Value.int IntKind.i64 (0 : Int), Value.int IntKind.i64 (0 : Int)])) ++ AV.raw (Value.int IntKind.i64 (crossD (rowD nets o) (trkD (rowD nets o)) c)) :: AV.raw (Value.int IntKind.i64 (numD (rowD nets o))) :: AV.raw (Value.int IntKind.i64 (lenD (rowD nets o))) :: List.map._f AV.raw [] PUnit.unit ++ List.drop ((0 : Nat) + List.length (AV.raw (Value.int IntKind.i64 (crossD (rowD nets o) (trkD (rowD nets o)) c)) :: AV.raw (Value.int IntKind.i64 (numD (rowD nets o))) :: AV.raw (Value.int IntKind.i64 (lenD (rowD nets o))) :: List.map._f AV.raw [] PUnit.unit)) (List.map AV.raw (Array.toList #[Value.int IntKind.i64 (0 : Int), Value.int IntKind.i64 (0 : Int), Value.int IntKind.i64 (0 : Int)]))))))) = true) ∧ ((AV.same (AV.agg (List.take (3 : Nat) (List.drop (0 : Nat) (List.take (0 : Nat) (List.map AV.raw (Array.toList #[Value.int IntKind.i64 (0 : Int), Value.int IntKind.i64 (0 : Int), Value.int IntKind.i64 (0 : Int)])) ++ AV.raw (Value.int IntKind.i64 (crossD (rowD nets o) (trkD (rowD nets o)) c)) :: AV.raw (Value.int IntKind.i64 (numD (rowD nets o))) :: AV.raw (Value.int IntKind.i64 (lenD (rowD nets o))) :: List.map._f AV.raw [] PUnit.unit ++ List.drop ((0 : Nat) + List.length (AV.raw (Value.int IntKind.i64 (crossD (rowD nets o) (trkD (rowD nets o)) c)) :: AV.raw (Value.int IntKind.i64 (numD (rowD nets o))) :: AV.raw (Value.int IntKind.i64 (lenD (rowD nets o))) :: List.map._f AV.raw [] PUnit.unit)) (List.map AV.raw (Array.toList #[Value.int IntKind.i64 (0 : Int), Value.int IntKind.i64 (0 : Int), Value.int IntKind.i64 (0 : Int)])))))) (AV.agg (List.take (3 : Nat) (List.drop (0 : Nat) (List.take (0 : Nat) (List.map AV.raw (Array.toList #[Value.int IntKind.i64 (0 : Int), Value.int IntKind.i64 (0 : Int), Value.int IntKind.i64 (0 : Int)])) ++ AV.raw (Value.int IntKind.i64 (crossD (rowD nets o) (trkD (rowD nets o)) c)) :: AV.raw (Value.int IntKind.i64 (numD (rowD nets o))) :: AV.raw (Value.int IntKind.i64 (lenD (rowD nets o))) :: List.map._f AV.raw [] PUnit.unit ++ List.drop ((0 : Nat) + List.length (AV.raw (Value.int IntKind.i64 (crossD (rowD nets o) (trkD (rowD nets o)) c)) :: AV.raw (Value.int IntKind.i64 (numD (rowD nets o))) :: AV.raw (Value.int IntKind.i64 (lenD (rowD nets o))) :: List.map._f AV.raw [] PUnit.unit)) (List.map AV.raw (Array.toList #[Value.int IntKind.i64 (0 : Int), Value.int IntKind.i64 (0 : Int), Value.int IntKind.i64 (0 : Int)]))))))) = true) ∧ (((0 : Nat)) = ((0 : Nat))) ∧ (((0 : Nat)) = ((0 : Nat))) ∧ (((0 : Nat)) = ((0 : Nat))) ∧ (((0 : Nat)) = ((0 : Nat))) ∧ (((nets) = (nets)) ∧ True) ∧ (((Value.slice none (0 : Nat) (0 : Nat)) = (Value.slice none (0 : Nat) (0 : Nat))) ∧ ((Value.slice none (0 : Nat) (0 : Nat)) = (Value.slice none (0 : Nat) (0 : Nat))) ∧ True) ∧ (((o) = (o)) ∧ ((trkD (rowD nets o)) = (trkD (rowD nets o))) ∧ True) ∧ (((crossD (rowD nets o) (trkD (rowD nets o)) c) = (crossD (rowD nets o) (trkD (rowD nets o)) c)) ∧ ((numD (rowD nets o)) = (numD (rowD nets o))) ∧ ((lenD (rowD nets o)) = (lenD (rowD nets o))) ∧ True) ∧ True) := by kernel_rfl
  exact eTst.mpr ⟨h1, ⟨h2, ⟨h3, ⟨h2, ⟨decide_eq_true h4, ⟨decide_eq_true h5, ⟨(by simp only [Nat.zero_add] <;> exact (show (AV.same (AV.agg (List.take (3 : Nat) (List.drop (0 : Nat) (List.take (0 : Nat) (List.map AV.raw (Array.toList #[Value.int IntKind.i64 (0 : Int), Value.int IntKind.i64 (0 : Int), Value.int IntKind.i64 (0 : Int)])) ++ AV.raw (Value.int IntKind.i64 (crossD (rowD nets o) (trkD (rowD nets o)) c)) :: AV.raw (Value.int IntKind.i64 (numD (rowD nets o))) :: AV.raw (Value.int IntKind.i64 (lenD (rowD nets o))) :: List.map._f AV.raw [] PUnit.unit ++ List.drop (List.length (AV.raw (Value.int IntKind.i64 (crossD (rowD nets o) (trkD (rowD nets o)) c)) :: AV.raw (Value.int IntKind.i64 (numD (rowD nets o))) :: AV.raw (Value.int IntKind.i64 (lenD (rowD nets o))) :: List.map._f AV.raw [] PUnit.unit)) (List.map AV.raw (Array.toList #[Value.int IntKind.i64 (0 : Int), Value.int IntKind.i64 (0 : Int), Value.int IntKind.i64 (0 : Int)])))))) (AV.agg (List.take (3 : Nat) (List.drop (0 : Nat) (List.take (0 : Nat) (List.map AV.raw (Array.toList #[Value.int IntKind.i64 (0 : Int), Value.int IntKind.i64 (0 : Int), Value.int IntKind.i64 (0 : Int)])) ++ AV.raw (Value.int IntKind.i64 (crossD (rowD nets o) (trkD (rowD nets o)) c)) :: AV.raw (Value.int IntKind.i64 (numD (rowD nets o))) :: AV.raw (Value.int IntKind.i64 (lenD (rowD nets o))) :: List.map._f AV.raw [] PUnit.unit ++ List.drop (List.length (AV.raw (Value.int IntKind.i64 (crossD (rowD nets o) (trkD (rowD nets o)) c)) :: AV.raw (Value.int IntKind.i64 (numD (rowD nets o))) :: AV.raw (Value.int IntKind.i64 (lenD (rowD nets o))) :: List.map._f AV.raw [] PUnit.unit)) (List.map AV.raw (Array.toList #[Value.int IntKind.i64 (0 : Int), Value.int IntKind.i64 (0 : Int), Value.int IntKind.i64 (0 : Int)]))))))) = true from same_refl (by kernel_rfl))), ⟨(by simp only [Nat.zero_add] <;> exact (show (AV.same (AV.agg (List.take (3 : Nat) (List.drop (0 : Nat) (List.take (0 : Nat) (List.map AV.raw (Array.toList #[Value.int IntKind.i64 (0 : Int), Value.int IntKind.i64 (0 : Int), Value.int IntKind.i64 (0 : Int)])) ++ AV.raw (Value.int IntKind.i64 (crossD (rowD nets o) (trkD (rowD nets o)) c)) :: AV.raw (Value.int IntKind.i64 (numD (rowD nets o))) :: AV.raw (Value.int IntKind.i64 (lenD (rowD nets o))) :: List.map._f AV.raw [] PUnit.unit ++ List.drop (List.length (AV.raw (Value.int IntKind.i64 (crossD (rowD nets o) (trkD (rowD nets o)) c)) :: AV.raw (Value.int IntKind.i64 (numD (rowD nets o))) :: AV.raw (Value.int IntKind.i64 (lenD (rowD nets o))) :: List.map._f AV.raw [] PUnit.unit)) (List.map AV.raw (Array.toList #[Value.int IntKind.i64 (0 : Int), Value.int IntKind.i64 (0 : Int), Value.int IntKind.i64 (0 : Int)])))))) (AV.agg (List.take (3 : Nat) (List.drop (0 : Nat) (List.take (0 : Nat) (List.map AV.raw (Array.toList #[Value.int IntKind.i64 (0 : Int), Value.int IntKind.i64 (0 : Int), Value.int IntKind.i64 (0 : Int)])) ++ AV.raw (Value.int IntKind.i64 (crossD (rowD nets o) (trkD (rowD nets o)) c)) :: AV.raw (Value.int IntKind.i64 (numD (rowD nets o))) :: AV.raw (Value.int IntKind.i64 (lenD (rowD nets o))) :: List.map._f AV.raw [] PUnit.unit ++ List.drop (List.length (AV.raw (Value.int IntKind.i64 (crossD (rowD nets o) (trkD (rowD nets o)) c)) :: AV.raw (Value.int IntKind.i64 (numD (rowD nets o))) :: AV.raw (Value.int IntKind.i64 (lenD (rowD nets o))) :: List.map._f AV.raw [] PUnit.unit)) (List.map AV.raw (Array.toList #[Value.int IntKind.i64 (0 : Int), Value.int IntKind.i64 (0 : Int), Value.int IntKind.i64 (0 : Int)]))))))) = true from same_refl (by kernel_rfl))), ⟨rfl, ⟨rfl, ⟨rfl, ⟨rfl, ⟨⟨rfl, trivial⟩, ⟨⟨rfl, ⟨rfl, trivial⟩⟩, ⟨⟨rfl, ⟨rfl, trivial⟩⟩, ⟨⟨rfl, ⟨rfl, ⟨rfl, trivial⟩⟩⟩, trivial⟩⟩⟩⟩⟩⟩⟩⟩⟩⟩⟩⟩⟩⟩⟩⟩
theorem be_keep1 (nets : List (Int × List Int)) (o bo bt : List Int) (c m l : Int) (h1 : (okStand nets o) = true) (h2 : (okRow (rowD nets o)) = true) (h3 : (okRow (rowD nets o) && decide (List.length (trkD (rowD nets o)) = List.length (Prod.fst (rowD nets o)))) = true) (h4 : List.length [crossD (rowD nets o) (trkD (rowD nets o)) c, numD (rowD nets o), lenD (rowD nets o)] ≤ (1000000 : Nat)) (h5 : ¬cmpI [crossD (rowD nets o) (trkD (rowD nets o)) c, numD (rowD nets o), lenD (rowD nets o)] [c, m, l] < (0 : Int)) :
    Tst.path (vall Tryz.prog beCs (fl BBe eB) (SBr1 nets o bo bt c m l)) [false] (toSt Tryz.prog 56 .normal [(64, 64, none), (65, 65, none), (66, 66, none), (67, 67, none)] (SBe1 nets bo bt c m l)) := by
  have eTst : (Tst.path (vall Tryz.prog beCs (fl BBe eB) (SBr1 nets o bo bt c m l)) [false] (toSt Tryz.prog 56 .normal [(64, 64, none), (65, 65, none), (66, 66, none), (67, 67, none)] (SBe1 nets bo bt c m l))) = (((okStand nets o) = true) ∧ ((okRow (rowD nets o)) = true) ∧ ((okRow (rowD nets o) && decide (List.length (trkD (rowD nets o)) = List.length (Prod.fst (rowD nets o)))) = true) ∧ ((okRow (rowD nets o)) = true) ∧ ((decide (List.length [crossD (rowD nets o) (trkD (rowD nets o)) c, numD (rowD nets o), lenD (rowD nets o)] ≤ (1000000 : Nat))) = true) ∧ ((decide (cmpI [crossD (rowD nets o) (trkD (rowD nets o)) c, numD (rowD nets o), lenD (rowD nets o)] [c, m, l] < (0 : Int))) = false) ∧ (((0 : Nat)) = ((0 : Nat))) ∧ (((0 : Nat)) = ((0 : Nat))) ∧ (((0 : Nat)) = ((0 : Nat))) ∧ (((0 : Nat)) = ((0 : Nat))) ∧ (((nets) = (nets)) ∧ True) ∧ (((Value.slice none (0 : Nat) (0 : Nat)) = (Value.slice none (0 : Nat) (0 : Nat))) ∧ ((Value.slice none (0 : Nat) (0 : Nat)) = (Value.slice none (0 : Nat) (0 : Nat))) ∧ True) ∧ (((bo) = (bo)) ∧ ((bt) = (bt)) ∧ True) ∧ (((c) = (c)) ∧ ((m) = (m)) ∧ ((l) = (l)) ∧ True) ∧ True) := by kernel_rfl
  exact eTst.mpr ⟨h1, ⟨h2, ⟨h3, ⟨h2, ⟨decide_eq_true h4, ⟨decide_eq_false h5, ⟨rfl, ⟨rfl, ⟨rfl, ⟨rfl, ⟨⟨rfl, trivial⟩, ⟨⟨rfl, ⟨rfl, trivial⟩⟩, ⟨⟨rfl, ⟨rfl, trivial⟩⟩, ⟨⟨rfl, ⟨rfl, ⟨rfl, trivial⟩⟩⟩, trivial⟩⟩⟩⟩⟩⟩⟩⟩⟩⟩⟩⟩⟩⟩
theorem be_fit0 (nets : List (Int × List Int)) (n : Int)  :
    Tst.path ((Tst.ret (R.normal (SBs nets n).T ((SBs nets n).H.drop 68) []) : Tst R)) [] (toSt Tryz.prog 56 .normal [(64, 64, none), (65, 65, none), (66, 66, none), (67, 67, none)] (SBe0 nets)) := by
  have eTst : (Tst.path ((Tst.ret (R.normal (SBs nets n).T ((SBs nets n).H.drop 68) []) : Tst R)) [] (toSt Tryz.prog 56 .normal [(64, 64, none), (65, 65, none), (66, 66, none), (67, 67, none)] (SBe0 nets))) = ((((0 : Nat)) = ((0 : Nat))) ∧ (((0 : Nat)) = ((0 : Nat))) ∧ (((0 : Nat)) = ((0 : Nat))) ∧ (((0 : Nat)) = ((0 : Nat))) ∧ (((nets) = (nets)) ∧ True) ∧ (((Value.slice none (0 : Nat) (0 : Nat)) = (Value.slice none (0 : Nat) (0 : Nat))) ∧ ((Value.slice none (0 : Nat) (0 : Nat)) = (Value.slice none (0 : Nat) (0 : Nat))) ∧ True) ∧ (((Value.slice none (0 : Nat) (0 : Nat)) = (Value.slice none (0 : Nat) (0 : Nat))) ∧ ((Value.slice none (0 : Nat) (0 : Nat)) = (Value.slice none (0 : Nat) (0 : Nat))) ∧ True) ∧ ((((1099511627776 : Int)) = ((1099511627776 : Int))) ∧ (((1099511627776 : Int)) = ((1099511627776 : Int))) ∧ (((1099511627776 : Int)) = ((1099511627776 : Int))) ∧ True) ∧ True) := by kernel_rfl
  exact eTst.mpr ⟨rfl, ⟨rfl, ⟨rfl, ⟨rfl, ⟨⟨rfl, trivial⟩, ⟨⟨rfl, ⟨rfl, trivial⟩⟩, ⟨⟨rfl, ⟨rfl, trivial⟩⟩, ⟨⟨rfl, ⟨rfl, ⟨rfl, trivial⟩⟩⟩, trivial⟩⟩⟩⟩⟩⟩⟩⟩
theorem be_ret (nets : List (Int × List Int)) (bo bt : List Int) (c m l : Int)  :
    Tst.path (vallM Tryz.prog beCs (List.drop 8 (fl BBe [])) (SBe1 nets bo bt c m l)) [] (toRetM Tryz.prog Tryz.f10 false (.tuple [yv bo bt, iv 0]) [68]) := by
  have eTst : (Tst.path (vallM Tryz.prog beCs (List.drop 8 (fl BBe [])) (SBe1 nets bo bt c m l)) [] (toRetM Tryz.prog Tryz.f10 false (.tuple [yv bo bt, iv 0]) [68])) = (((Exit.ret) = (Exit.ret)) ∧ (((bo) = (bo)) ∧ ((bt) = (bt)) ∧ True) ∧ (((0 : Int)) = ((0 : Int))) ∧ True) := by kernel_rfl
  exact eTst.mpr ⟨rfl, ⟨⟨rfl, ⟨rfl, trivial⟩⟩, ⟨rfl, trivial⟩⟩⟩
theorem be_ok : CallOk Tryz.prog (gS beCs) := orCs_ok rowCs_ok (ctrs_ok fun c hc => by
  simp only [List.mem_cons, List.not_mem_nil, or_false] at hc
  rcases hc with rfl | rfl | rfl
  · exact cNetsB_ok
  · exact cCmp_ok
  · exact cFirst_ok)
def SBe (nets : List (Int × List Int)) (st : Option (List Int)) : St := match st with
  | none => SBe0 nets
  | some b => SBe1 nets b (trkO nets b) (crsO nets b) (numO nets b) (sumExt (extsOf nets b))
theorem cmp_neg {a b : List Int} : cmpI a b < 0 ↔ lexB a b = true := by
  unfold cmpI
  by_cases h : lexB a b = true
  · rw [if_pos h]; exact ⟨fun _ => h, fun _ => by decide⟩
  · rw [if_neg h]
    constructor
    · intro h2; split at h2 <;> exact absurd h2 (by decide)
    · intro h2; exact absurd h2 h
theorem row_good {nets : List (Int × List Int)} {n : Int} {o : List Int} (hg : goodB nets = true) (hE : Bus.bothErr nets n o = 0) (h20 : nets.length < 20) : okRow (rowD nets o) = true := by
  have e1 : (rowD nets o).2.2 = extsOf nets o := rfl
  have e0 : (rowD nets o).1 = nets := rfl
  obtain ⟨n1, n97, l64, hcols⟩ := Bus.netsErr_zero (both_iff.1 hE).1
  have hol := (Bus.orderErr_zero (both_iff.1 hE).2).1
  have hT := taps_few (l := mkNets nets) (n := n) (by rw [mkNets_net]; exact (both_iff.1 hE).1) (Bus.atUp o o.length)
  have e : (mkNets nets).map NetAt.cols = nets.map Prod.snd := by
    have : (mkNets nets).map NetAt.cols = ((mkNets nets).map NetAt.net).map Prod.snd := by rw [List.map_map]; rfl
    rw [this, mkNets_net]
  rw [e] at hT
  have hr := row_taps hE
  unfold okRow
  simp only [Bool.and_eq_true, decide_eq_true_eq, List.all_eq_true]
  rw [hr, e1, e0, extsOf_len]
  refine ⟨hg, rfl, h20, fun p hp => ?_, fun x hx c hc => nets97 hE x hx c hc, by omega⟩
  obtain ⟨i, hi, rfl⟩ := List.mem_iff_getElem.1 hp
  rw [extsOf_len] at hi
  have hb := ext_bd hE i hi
  have hg' : (extsOf nets o).getD i (0, 0) = (extsOf nets o)[i] := by rw [List.getD_eq_getElem?_getD, List.getElem?_eq_getElem (by rw [extsOf_len]; exact hi)]; rfl
  rw [hg'] at hb
  omega
theorem stand_good {nets : List (Int × List Int)} {n : Int} {o : List Int} (hg : goodB nets = true) (hE : Bus.bothErr nets n o = 0) : okStand nets o = true := by
  have hol := (Bus.orderErr_zero (both_iff.1 hE).2).1
  unfold okStand
  rw [hg, Bool.true_and]
  refine decide_eq_true ?_
  rw [hol]; exact hE
def RBe (nets : List (Int × List Int)) (n : Int) (pre : List (List Int)) (st : Option (List Int)) : Prop := st = bestOf (valOf nets) lexB pre ∧ ∀ b, st = some b → Bus.bothErr nets n b = 0
theorem be_code : List.drop 7 (fl BBe []) = .block 0 (.rangeFunc (.tmp 28) #[29] (cat BBe [1, 1, 1, 1, 0, 1, 0, 0]) (cat BBe eB)) :: List.drop 8 (fl BBe []) := by kernel_rfl
theorem be_T1 (nets : List (Int × List Int)) (o : List Int) : (SBr0 nets o).T = ((SBe0 nets).T.set 29 (some (lv o))).set 9 (some (lv o)) := by kernel_rfl
theorem be_fit (nets : List (Int × List Int)) (n : Int) : fit Tryz.prog [(64, 64, none), (65, 65, none), (66, 66, none), (67, 67, none)] 56 (SBs nets n).T ((SBs nets n).H.drop 68) (SBe0 nets) := be_fit0 nets n
theorem be_body {nets : List (Int × List Int)} {n : Int} {o : List Int} {st : Option (List Int)} {pre : List (List Int)} (hg : goodB nets = true) (h20 : nets.length < 20) (hR : RBe nets n pre st) (hE : Bus.bothErr nets n o = 0) {w0 : World} {F : Env} (l : Nat) (K : Nat → Option Obj) (A : Nat → Option (Nat × Nat)) (Z : Nat → Option (Array Value)) (sz : Nat) :
    GoalLX { rd := some l, K := K, R := fun _ _ => False, pin := [64, 65, 66, 67], A := A, Z := Z, sz := sz } Tryz.prog w0 F 56 (fl BBe eB) (SBr0 nets o).T (SBe nets st).H (onN (fun T H => ∃ j, RBe nets n (pre ++ [o]) j ∧ H = (SBe nets j).H) (fun _ _ _ => False)) := by
  have hS := be_ok
  obtain ⟨hst, hsb⟩ := hR
  have hrow := row_good hg hE h20
  have hstd := stand_good hg hE
  have hlen : (okRow (rowD nets o) && decide ((trkD (rowD nets o)).length = (rowD nets o).1.length)) = true := by
    rw [hrow, Bool.true_and]
    exact decide_eq_true (lay_zero hE (low_lay hE)).1
  have hsn : bestOf (valOf nets) lexB (pre ++ [o]) = bestStep (valOf nets) lexB st o := by rw [bestOf_snoc, ← hst]
  cases hl : lexB [crossD (rowD nets o) (trkO nets o) (rk0 nets st), numO nets o, sumExt (extsOf nets o)] [rk0 nets st, rk1 nets st, rk2 nets st] with
  | true =>
    obtain ⟨h1, h2⟩ := best_take hE hsb hl
    have hfin : RBe nets n (pre ++ [o]) (some o) := ⟨by rw [hsn, h1], fun b hb => by cases hb; exact hE⟩
    cases st with
    | none =>
      refine GoalL.all (s := SBr0 nets o) (s' := SBe1 nets o (trkD (rowD nets o)) (crossD (rowD nets o) (trkD (rowD nets o)) 1099511627776) (numD (rowD nets o)) (lenD (rowD nets o))) known mixed hS _ (be_take0 nets o hstd hrow hlen (by simp) (cmp_neg.2 hl)) (by kernel_rfl) ?_
      exact ⟨some o, hfin, by
        have h2 : crossD (rowD nets o) (trkD (rowD nets o)) 1099511627776 = crsO nets o := h2
        rw [h2]; rfl⟩
    | some b =>
      refine GoalL.all (s := SBr1 nets o b (trkO nets b) (crsO nets b) (numO nets b) (sumExt (extsOf nets b))) (s' := SBe1 nets o (trkD (rowD nets o)) (crossD (rowD nets o) (trkD (rowD nets o)) (crsO nets b)) (numD (rowD nets o)) (lenD (rowD nets o))) known mixed hS _ (be_take1 nets o b _ _ _ _ hstd hrow hlen (by simp) (cmp_neg.2 hl)) (by kernel_rfl) ?_
      exact ⟨some o, hfin, by
        have h2 : crossD (rowD nets o) (trkD (rowD nets o)) (crsO nets b) = crsO nets o := h2
        rw [h2]; rfl⟩
  | false =>
    have h1 := best_keep hE hsb hl
    have hfin : RBe nets n (pre ++ [o]) st := ⟨by rw [hsn, h1], hsb⟩
    have hn : ∀ {x : Int}, x = cmpI [crossD (rowD nets o) (trkO nets o) (rk0 nets st), numO nets o, sumExt (extsOf nets o)] [rk0 nets st, rk1 nets st, rk2 nets st] → ¬ x < 0 := fun {x} hx h => by
      rw [hx, cmp_neg, hl] at h; cases h
    cases st with
    | none =>
      refine GoalL.all (s := SBr0 nets o) (s' := SBe0 nets) known mixed hS _ (be_keep0 nets o hstd hrow hlen (by simp) (hn rfl)) (by kernel_rfl) ?_
      exact ⟨none, hfin, rfl⟩
    | some b =>
      refine GoalL.all (s := SBr1 nets o b (trkO nets b) (crsO nets b) (numO nets b) (sumExt (extsOf nets b))) (s' := SBe1 nets b (trkO nets b) (crsO nets b) (numO nets b) (sumExt (extsOf nets b))) known mixed hS _ (be_keep1 nets o b _ _ _ _ hstd hrow hlen (by simp) (hn rfl)) (by kernel_rfl) ?_
      exact ⟨some b, hfin, rfl⟩
def bstB (nets : List (Int × List Int)) (n : Int) : (List Int × List Int) × Int :=
  if firstOf [Bus.netsErr nets n, if n > 8 then 21 else 0] = 0 then ((bOrd (bestO nets n.toNat), bTrk nets (bestO nets n.toNat)), 0) else (([], []), firstOf [Bus.netsErr nets n, if n > 8 then 21 else 0])
def okBB (nets : List (Int × List Int)) (n : Int) : Bool := goodB nets && (decide (nets.length ≤ 140737488355328) && (decide (Bus.netsErr nets n ≠ 0) || (decide (n > 8) || decide (nets.length < 20))))
theorem bestB_holds (nets : List (Int × List Int)) (n : Int) (h : okBB nets n = true) : Holds Tryz.prog false 10 [nv nets, iv n] (.tuple [yv (bstB nets n).1.1 (bstB nets n).1.2, iv (bstB nets n).2]) := by
  unfold okBB at h
  simp only [Bool.and_eq_true, Bool.or_eq_true, decide_eq_true_eq] at h
  obtain ⟨hg, hl, hcase⟩ := h
  have hS := be_ok
  have hpre : (goodB nets && decide (nets.length ≤ 140737488355328)) = true := by rw [hg, decide_eq_true hl]; rfl
  refine holds_flW (c := BBe) Tryz.func10 rfl rfl fun w F hF => ?_
  by_cases h8 : n > 8
  · have hne : ¬ firstOf [Bus.netsErr nets n, 21] = 0 := by
      by_cases hN : Bus.netsErr nets n = 0
      · rw [hN]; decide
      · rw [firstOf_hit _ _ hN]; exact hN
    have e : bstB nets n = (([], []), firstOf [Bus.netsErr nets n, 21]) := by unfold bstB; rw [if_pos h8, if_neg hne]
    rw [e]
    exact GoalW.full (GoalL.ret known mixed hS 7 _ (be_far nets n hpre h8 (by simp) hne) fun T H h => h)
  · by_cases hN : Bus.netsErr nets n = 0
    · have hz : firstOf [Bus.netsErr nets n, 0] = 0 := by rw [hN]; decide
      have e : bstB nets n = ((bOrd (bestO nets n.toNat), bTrk nets (bestO nets n.toNat)), 0) := by unfold bstB; rw [if_neg h8, if_pos hz]
      have h20 : nets.length < 20 := by
        rcases hcase with h | h | h
        · exact absurd hN h
        · exact absurd h h8
        · exact h
      obtain ⟨n1, n97, _⟩ := Bus.netsErr_zero hN
      obtain ⟨m, rfl⟩ : ∃ m : Nat, n = (m : Int) := ⟨n.toNat, by omega⟩
      rw [e, Int.toNat_natCast]
      obtain ⟨b, hb, hb2⟩ := best_some (nets := nets) m
      rw [hb]
      refine GoalW.to known mixed hS (s' := SBs nets m) 7 _ (be_start nets m hpre h8 (by simp) hz) (by kernel_rfl) ?_
      rw [be_code]
      refine GoalW.rangeRows (gf := 86) (ib := 68) (e := 3) (m := (m : Int)) (G := IsOrd m) (S := fun ps => ps = ext m m []) (s0 := SBs nets m) (σ := [(64, 64, none), (65, 65, none), (66, 66, none), (67, 67, none)]) hF
        (SBe nets) none (RBe nets m) [64, 65, 66, 67] (fun o => (SBr0 nets o).T) (fun tmps v => set2 tmps 29 9 v) (by kernel_rfl) (by kernel_rfl) (enters_of Tryz.func86 (by kernel_rfl) rfl)
        (fun bn W hW => orders_seq m (by omega) bn W hW) rfl (be_fit nets m) (fun i => by cases i <;> exact ⟨rfl, rfl, rfl⟩) (fun i => by cases i <;> rfl) (by kernel_rfl) (by kernel_rfl) ⟨by simp [bestOf], fun b hb => by cases hb⟩ ?assign ?t1 ?body ?rest
      case assign =>
        intro l tmps v W K hsz hK
        have hlt : 29 < tmps.size := by rw [hsz]; decide
        change Code.wpIn _ _ _ (Code.region 7 _ _) _ _ _
        gi_wp2
        exact hK
      case t1 =>
        intro ρ tmps v ch hT hv
        rw [be_T1]
        exact set2_den hT (by decide) (by decide) hv
      case body =>
        intro pre st o hR hO l K A Z sz
        exact be_body hg h20 hR (ord_both hN hO) l K A Z sz
      case rest =>
        intro xs st hxs hR D
        subst hxs
        have hst : st = some b := by rw [hR.1]; exact hb
        subst hst
        exact GoalL.stRetM (s := SBe1 nets b (trkO nets b) (crsO nets b) (numO nets b) (sumExt (extsOf nets b))) known mixed hS _ (be_ret nets b (trkO nets b) (crsO nets b) (numO nets b) (sumExt (extsOf nets b)))
    · have hne : ¬ firstOf [Bus.netsErr nets n, 0] = 0 := by rw [firstOf_hit _ _ hN]; exact hN
      have e : bstB nets n = (([], []), firstOf [Bus.netsErr nets n, 0]) := by unfold bstB; rw [if_neg h8, if_neg hne]
      rw [e]
      exact GoalW.full (GoalL.ret known mixed hS 7 _ (be_bad nets n hpre h8 (by simp) hne) fun T H h => h)
noncomputable def cBestB : Ctr := { f := 10, ps := [.list false (.pair (.int .i64) (.list false (.int .i64))), .int .i64], rs := [.pair (.list false (.int .i64)) (.list false (.int .i64)), .int .i64], fresh := false, pre := fun d => okBB d.1 d.2.1, fn := fun d => ((bstB d.1 d.2.1).1, ((bstB d.1 d.2.1).2, ())) }
theorem cBestB_ok : cBestB.Ok Tryz.prog := fun ⟨nets, n, _⟩ h => bestB_holds nets n h
end
end Go.Proofs.YtbldpojkpmafpaaGreatDoor

/- Arguments that lie in a world, as plain data. -/
namespace Go.Proofs.YtbldpojkpmafpaaGreatDoor
open Go.RowKit Sv
def inF (w : World) : Env := ⟨fun i => if i < 64 then some (i, 0) else none, fun b => if 0 ≤ b then cellsOf? w b else none⟩
theorem inF_ok (w : World) : OkF w (inF w) := by
  refine ⟨fun i x h => ?_, fun g hg => ⟨0, if_pos hg⟩, fun b A h => ?_⟩
  · have h : (if i < 64 then some (i, 0) else none) = some x := h
    split at h
    · assumption
    · cases h
  · have h : (if 0 ≤ b then cellsOf? w b else none) = some A := h
    rw [if_pos (Nat.zero_le _)] at h
    exact cellsOf?_some.1 h
theorem row_den {w : World} {t : Ty} {xs : List t.den} {ys : List Value} {A : Option Addr} {c : Nat} (h : Row w w.heap.size A ys) (hd : Dens (inF w) (t.flat xs) ys) (hs : 1 ≤ t.size) (hc : xs.length ≤ c) : Den (inF w) (.lst false t xs) (.slice A xs.length c) := by
  have hlen := hd.length
  rw [t.flat_len] at hlen
  rcases h with h | ⟨b, off, rfl, hlt, hcs⟩
  · subst h
    have h0 : xs.length * t.size = 0 := hlen.symm
    have hx : xs = [] := List.length_eq_zero_iff.1 (by
      rcases Nat.mul_eq_zero.1 h0 with h | h
      · exact h
      · omega)
    subst hx
    exact .lstNil fun e => by cases e
  · by_cases hy : ys = []
    · subst hy
      have h0 : xs.length * t.size = 0 := hlen.symm
      have hx : xs = [] := List.length_eq_zero_iff.1 (by
        rcases Nat.mul_eq_zero.1 h0 with h | h
        · exact h
        · omega)
      subst hx
      exact .lstNil fun e => by cases e
    have hpos : 0 < ys.length := List.length_pos_iff.2 hy
    have h0 := hcs 0 hpos
    cases ho : w.heap[b]? with
    | none => simp [World.cell?, ho] at h0
    | some o =>
      cases o with
      | cells Arr e fr =>
        have hall : ∀ i (hi : i < ys.length), Arr[off + i]? = some ys[i] := fun i hi => by
          have := hcs i hi
          rw [cell_of ho] at this
          rw [this]
          simp [List.getD_eq_getElem?_getD, List.getElem?_eq_getElem hi]
        have hsz : off + ys.length ≤ Arr.size := by
          have := hall (ys.length - 1) (by omega)
          have := (Array.getElem?_eq_some_iff.1 this).1
          omega
        have hfl : (t.flat xs).length = ys.length := hd.length.symm
        have hys : (Arr.toList.drop off).take (t.flat xs).length = ys := by
          rw [hfl]
          apply List.ext_getElem?
          intro i
          rw [List.getElem?_take]
          by_cases hi : i < ys.length
          · rw [if_pos hi, List.getElem?_drop, Array.getElem?_toList, hall i hi, List.getElem?_eq_getElem hi]
          · rw [if_neg hi, List.getElem?_eq_none (by omega)]
        refine .lst (A := Arr) (b := b) (off := off) ?_ (by rw [hfl]; exact hsz) hys hd hc fun e => by cases e
        show (if 0 ≤ b then cellsOf? w b else none) = some Arr
        rw [if_pos (Nat.zero_le _)]; exact cellsOf?_some.2 ⟨e, fr, ho⟩
      | _ => simp [World.cell?, ho] at h0
theorem in_ints {w : World} {xs : List Int} {A : Option Addr} {c : Nat} (h : Row w w.heap.size A (xs.map (Value.int .i64))) (hc : xs.length ≤ c) : Den (inF w) (.lst false tInt xs) (.slice A xs.length c) :=
  row_den h (by rw [flat_ints]; exact Dens.raws _) (Nat.le_refl _) hc
theorem in_nets {w : World} : ∀ {l : List NetAt}, (∀ n ∈ l, Row w w.heap.size n.loc (n.cols.map (Value.int .i64))) → (∀ n ∈ l, n.cols.length ≤ n.cap) → Dens (inF w) (Ty.flat tNet (l.map NetAt.net)) (ncells l)
  | [], _, _ => .nil
  | n :: l, h, hc => by
    have e : Ty.flat tNet ((n :: l).map NetAt.net) = .raw (.int .i64 n.sh) :: .lst false tInt n.cols :: Ty.flat tNet (l.map NetAt.net) := rfl
    rw [e]
    exact .cons (.raw _) (.cons (in_ints (h n List.mem_cons_self) (hc n List.mem_cons_self)) (in_nets (fun m hm => h m (List.mem_cons_of_mem _ hm)) fun m hm => hc m (List.mem_cons_of_mem _ hm)))
end Go.Proofs.YtbldpojkpmafpaaGreatDoor

/- Arguments that lie in a world, as plain data; a law that holds for them. -/
namespace Go.Proofs.YtbldpojkpmafpaaGreatDoor
open Go.RowKit Sv
structure Arg.Nets (w : World) (A : Option Addr) (c : Nat) (l : List NetAt) : Prop where
  good : goodB (l.map NetAt.net) = true
  den : Den (inF w) (nv (l.map NetAt.net)) (.slice A l.length c)
structure Arg.Ints (w : World) (A : Option Addr) (c : Nat) (xs : List Int) : Prop where
  good : ∀ x ∈ xs, I64 x
  den : Den (inF w) (lv xs) (.slice A xs.length c)
structure Arg.Lay (w : World) (A B : Option Addr) (c e : Nat) (xs ys : List Int) : Prop where
  good : ∀ x ∈ xs, I64 x
  good2 : ∀ x ∈ ys, I64 x
  few : xs.length ≤ 140737488355328
  few2 : ys.length ≤ 140737488355328
  den : Den (inF w) (.agg [lv xs, lv ys]) (.agg #[.slice A xs.length c, .slice B ys.length e])
theorem Arg.nets {w : World} {A : Option Addr} {c : Nat} {l : List NetAt} (h : NetsIn w w.heap.size A l) (hcap : ∀ q ∈ l, q.cols.length ≤ q.cap) (hc : l.length ≤ c) : Arg.Nets w A c l := by
  refine ⟨goodB_iff.2 fun x hx => ?_, ?_⟩
  · obtain ⟨q, hq, rfl⟩ := List.mem_map.1 hx
    exact ⟨h.ints q hq, h.few q hq⟩
  · have := row_den (t := tNet) (xs := l.map NetAt.net) h.row (in_nets h.cols hcap) (by decide) (by rw [List.length_map]; exact hc)
    rwa [List.length_map] at this
theorem Arg.ints {w : World} {A : Option Addr} {c : Nat} {xs : List Int} (h : Row w w.heap.size A (xs.map (Value.int .i64))) (hi : ∀ x ∈ xs, I64 x) (hc : xs.length ≤ c) : Arg.Ints w A c xs := ⟨hi, in_ints h hc⟩
theorem call_true {f : FuncId} {args : List AV} (h : Holds Tryz.prog true f args (bv true)) {w : World} {vs : List Value} (hd : Dens (inF w) args vs) : Calls Tryz.prog f vs.toArray w fun e w' => e = .returned (.bool true) ∧ Below w.heap.size w w' :=
  (h w (inF w) vs (inF_ok w) hd).mono fun e w' ⟨x, F', h1, h2, _, _, h5⟩ => by
    rw [h2.raw_eq] at h1
    exact ⟨h1, h5⟩
end Go.Proofs.YtbldpojkpmafpaaGreatDoor

/- Package bus: the tracks of a layout, and the table of their crossings. -/
namespace Go.Proofs.YtbldpojkpmafpaaGreatDoor
open Go.RowKit Go.Shelf
attribute [local go_sem] Oper.semAt_some

theorem Row.same {S m B R : Nat} {rb : Nat → Nat} {W0 W : World} {A : Option Addr} {vs : List Value} (h : SameBut S m rb W0 W) (hr : Row W0 R A vs) (hR : R ≤ S) (hf : FreshA B A) (hB : ∀ j, j < m → rb j < B) : Row W R A vs := by
  rcases hr with hr | ⟨b, off, rfl, hb, hc⟩
  · exact .inl hr
  · have hbB := hf b off rfl
    exact .inr ⟨b, off, rfl, hb, fun i hi => (World.cell?_of_block (a := ⟨b, off + i, none⟩) (h.block b (by omega) fun j hj => by have := hB j hj; omega)).trans (hc i hi)⟩
theorem own_other {w : World} {base size n b : Nat} {e t : TypeId} {v : Value} {vs : List Value} {cs : Array Value} (h : w.ownsRow base e size v n vs) (hb : Blk w b t cs) (hne : t ≠ e) : some b ≠ v.ownBlock := by
  rcases h.2 with ⟨rfl, _⟩ | ⟨g, cap, cur, rfl, hbg, hg, rest⟩
  · intro h; cases h
  · intro h
    have h : some b = some g := h
    injection h with h
    subst h
    rw [show w.heap[b]? = some (.cells cs t (0, 0)) from hb] at hg
    cases hg
    exact hne rfl
theorem Blk.grownO {W W' : World} {r : Option Nat} {b : Nat} {t : TypeId} {cs : Array Value} (h : Blk W b t cs) (hg : W.grownBy W' r) (hr : some b ≠ r) : Blk W' b t cs := (hg.block b h.lt hr).trans h
theorem below_grownO {B : Nat} {w W W' : World} {r : Option Nat} (h : Below B w W) (hg : W.grownBy W' r) (hB : B ≤ w.heap.size) (hr : ∀ b, b < B → some b ≠ r) : Below B w W' := h.grown hg (Nat.le_trans hB h.size) fun k e => by
  rcases Nat.lt_or_ge k B with h | h
  · exact absurd e.symm (hr k h)
  · exact h

end Go.Proofs.YtbldpojkpmafpaaGreatDoor
