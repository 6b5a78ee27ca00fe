/- Package bus: Best. -/
import Derived.Test.YtbldpojkpmafpaaGreatDoorZbVOrdLaw
import Derived.Test.YtbldpojkpmafpaaGreatDoorZbVPairLaw
import Derived.Test.YtbldpojkpmafpaaGreatDoorZbVBestLaw
import Derived.Test.YtbldpojkpmafpaaGreatDoorZbOrders
import Derived.Test.YtbldpojkpmafpaaGreatDoorZbBusClique
namespace Go.Proofs.YtbldpojkpmafpaaGreatDoor
open Go.RowKit Sv
attribute [local go_sem] Oper.semAt_some
set_option maxRecDepth 100000
set_option linter.unusedVariables false
noncomputable section
def BBe : Code := (Tryz.f10.body).getD .skip
def beCs : VCaller := orCs rowFs rowCs (ctrs [cNetsB, cCmp, cFirst])
def eB : List Nat := [1, 1, 1, 1, 0, 1, 0, 1]
abbrev rkE (j : Nat) (c m l : Int) : Nat × Ent := (j, .blk (.cells 69 [iv c, iv m, iv l] true false false))
abbrev netE (j : Nat) (nets : List (Int × List Int)) : Nat × Ent := (j, .blk (.cells 22 [nv nets] true false false))
def SBs (nets : List (Int × List Int)) (n : Int) : St := { n := 56, sl := [(2, .ptr 64 0), (4, .ptr 65 0), (7, .ptr 66 0), (8, .ptr 67 0), (28, .func (.func 86) [] [.ptr 68 0])], en := [netE 64 nets, nilLay 65, nilLay 66, rkE 67 manyI manyI manyI, (68, .blk (.cells 3 [iv n] true false false))], next := 69 }
def SBe0 (nets : List (Int × List Int)) : St := { n := 56, sl := [(2, .ptr 64 0), (4, .ptr 65 0), (7, .ptr 66 0), (8, .ptr 67 0)], en := [netE 64 nets, nilLay 65, nilLay 66, rkE 67 manyI manyI manyI], next := 68 }
def SBe1 (nets : List (Int × List Int)) (bo bt : List Int) (c m l : Int) : St := { n := 56, sl := [(2, .ptr 64 0), (4, .ptr 65 0), (7, .ptr 66 0), (8, .ptr 67 0)], en := [netE 64 nets, nilLay 65, layE 66 bo bt, rkE 67 c m l], next := 68 }
def SBr0 (nets : List (Int × List Int)) (o : List Int) : St := { n := 56, sl := [(2, .ptr 64 0), (4, .ptr 65 0), (7, .ptr 66 0), (8, .ptr 67 0), (9, lv o), (29, lv o)], en := [netE 64 nets, nilLay 65, nilLay 66, rkE 67 manyI manyI manyI], next := 68 }
def SBr1 (nets : List (Int × List Int)) (o bo bt : List Int) (c m l : Int) : St := { n := 56, sl := [(2, .ptr 64 0), (4, .ptr 65 0), (7, .ptr 66 0), (8, .ptr 67 0), (9, lv o), (29, lv o)], en := [netE 64 nets, nilLay 65, layE 66 bo bt, rkE 67 c m l], next := 68 }
theorem be_far (nets : List (Int × List Int)) (n : Int) (h1 : (goodB nets && decide (List.length nets ≤ (140737488355328 : Nat))) = true) (h2 : n > (8 : Int)) (h3 : List.length [Bus.netsErr nets n, (21 : Int)] ≤ (1000000 : Nat)) (h4 : ¬firstOf [Bus.netsErr nets n, (21 : Int)] = (0 : Int)) :
    Tst.path (vrun0 Tryz.prog beCs (fl BBe []) 7 56 [nv nets, iv n]) [true, true] (toRet Tryz.prog Tryz.f10 false (.tuple [yv [] [], iv (firstOf [Bus.netsErr nets n, 21])])) := by
  have eTst : (Tst.path (vrun0 Tryz.prog beCs (fl BBe []) 7 56 [nv nets, iv n]) [true, true] (toRet Tryz.prog Tryz.f10 false (.tuple [yv [] [], iv (firstOf [Bus.netsErr nets n, 21])]))) = (((goodB nets && decide (List.length nets ≤ (140737488355328 : Nat))) = true) ∧ ((decide (n > (8 : Int))) = true) ∧ ((decide (List.length [Bus.netsErr nets n, (21 : Int)] ≤ (1000000 : Nat))) = true) ∧ ((firstOf [Bus.netsErr nets n, (21 : Int)] != (0 : Int)) = true) ∧ (((nilI) = ([])) ∧ ((nilI) = ([])) ∧ True) ∧ ((firstOf [Bus.netsErr nets n, (21 : Int)]) = (firstOf [Bus.netsErr nets n, (21 : Int)])) ∧ True) := by kernel_rfl
  exact eTst.mpr ⟨h1, ⟨decide_eq_true h2, ⟨decide_eq_true h3, ⟨bne_iff_ne.mpr h4, ⟨⟨rfl, ⟨rfl, trivial⟩⟩, ⟨rfl, trivial⟩⟩⟩⟩⟩⟩
theorem be_bad (nets : List (Int × List Int)) (n : Int) (h1 : (goodB nets && decide (List.length nets ≤ (140737488355328 : Nat))) = true) (h2 : ¬n > (8 : Int)) (h3 : List.length [Bus.netsErr nets n, (0 : Int)] ≤ (1000000 : Nat)) (h4 : ¬firstOf [Bus.netsErr nets n, (0 : Int)] = (0 : Int)) :
    Tst.path (vrun0 Tryz.prog beCs (fl BBe []) 7 56 [nv nets, iv n]) [false, true] (toRet Tryz.prog Tryz.f10 false (.tuple [yv [] [], iv (firstOf [Bus.netsErr nets n, 0])])) := by
  have eTst : (Tst.path (vrun0 Tryz.prog beCs (fl BBe []) 7 56 [nv nets, iv n]) [false, true] (toRet Tryz.prog Tryz.f10 false (.tuple [yv [] [], iv (firstOf [Bus.netsErr nets n, 0])]))) = (((goodB nets && decide (List.length nets ≤ (140737488355328 : Nat))) = true) ∧ ((decide (n > (8 : Int))) = false) ∧ ((decide (List.length [Bus.netsErr nets n, (0 : Int)] ≤ (1000000 : Nat))) = true) ∧ ((firstOf [Bus.netsErr nets n, (0 : Int)] != (0 : Int)) = true) ∧ (((nilI) = ([])) ∧ ((nilI) = ([])) ∧ True) ∧ ((firstOf [Bus.netsErr nets n, (0 : Int)]) = (firstOf [Bus.netsErr nets n, (0 : Int)])) ∧ True) := by kernel_rfl
  exact eTst.mpr ⟨h1, ⟨decide_eq_false h2, ⟨decide_eq_true h3, ⟨bne_iff_ne.mpr h4, ⟨⟨rfl, ⟨rfl, trivial⟩⟩, ⟨rfl, trivial⟩⟩⟩⟩⟩⟩
theorem be_start (nets : List (Int × List Int)) (n : Int) (h1 : (goodB nets && decide (List.length nets ≤ (140737488355328 : Nat))) = true) (h2 : ¬n > (8 : Int)) (h3 : List.length [Bus.netsErr nets n, (0 : Int)] ≤ (1000000 : Nat)) (h4 : firstOf [Bus.netsErr nets n, (0 : Int)] = (0 : Int)) :
    Tst.path (vrun0 Tryz.prog beCs (fl BBe []) 7 56 [nv nets, iv n]) [false, false] (toSt Tryz.prog 56 .normal [(64, 64, none), (65, 65, none), (66, 67, none), (67, 68, none), (68, 69, none)] (SBs nets n)) := by
  have eTst : (Tst.path (vrun0 Tryz.prog beCs (fl BBe []) 7 56 [nv nets, iv n]) [false, false] (toSt Tryz.prog 56 .normal [(64, 64, none), (65, 65, none), (66, 67, none), (67, 68, none), (68, 69, none)] (SBs nets n))) = (((goodB nets && decide (List.length nets ≤ (140737488355328 : Nat))) = true) ∧ ((decide (n > (8 : Int))) = false) ∧ ((decide (List.length [Bus.netsErr nets n, (0 : Int)] ≤ (1000000 : Nat))) = true) ∧ ((firstOf [Bus.netsErr nets n, (0 : Int)] != (0 : Int)) = false) ∧ (((0 : Nat)) = ((0 : Nat))) ∧ (((0 : Nat)) = ((0 : Nat))) ∧ (((0 : Nat)) = ((0 : Nat))) ∧ (((0 : Nat)) = ((0 : Nat))) ∧ ((True) ∧ (((0 : Nat)) = ((0 : Nat))) ∧ True) ∧ (((nets) = (nets)) ∧ True) ∧ (((Value.slice none (0 : Nat) (0 : Nat)) = (Value.slice none (0 : Nat) (0 : Nat))) ∧ ((Value.slice none (0 : Nat) (0 : Nat)) = (Value.slice none (0 : Nat) (0 : Nat))) ∧ True) ∧ (((Value.slice none (0 : Nat) (0 : Nat)) = (Value.slice none (0 : Nat) (0 : Nat))) ∧ ((Value.slice none (0 : Nat) (0 : Nat)) = (Value.slice none (0 : Nat) (0 : Nat))) ∧ True) ∧ ((((1099511627776 : Int)) = ((1099511627776 : Int))) ∧ (((1099511627776 : Int)) = ((1099511627776 : Int))) ∧ (((1099511627776 : Int)) = ((1099511627776 : Int))) ∧ True) ∧ (((n) = (n)) ∧ True) ∧ True) := by kernel_rfl
  exact eTst.mpr ⟨h1, ⟨decide_eq_false h2, ⟨decide_eq_true h3, ⟨bne_eq_false_iff_eq.mpr h4, ⟨rfl, ⟨rfl, ⟨rfl, ⟨rfl, ⟨⟨trivial, ⟨rfl, trivial⟩⟩, ⟨⟨rfl, trivial⟩, ⟨⟨rfl, ⟨rfl, trivial⟩⟩, ⟨⟨rfl, ⟨rfl, trivial⟩⟩, ⟨⟨rfl, ⟨rfl, ⟨rfl, trivial⟩⟩⟩, ⟨⟨rfl, trivial⟩, trivial⟩⟩⟩⟩⟩⟩⟩⟩⟩⟩⟩⟩⟩⟩
theorem be_take0 (nets : List (Int × List Int)) (o : List Int) (h1 : (okStand nets o) = true) (h2 : (okRow (rowD nets o)) = true) (h3 : (okRow (rowD nets o) && decide (List.length (trkD (rowD nets o)) = List.length (Prod.fst (rowD nets o)))) = true) (h4 : List.length [crossD (rowD nets o) (trkD (rowD nets o)) (1099511627776 : Int), numD (rowD nets o), lenD (rowD nets o)] ≤ (1000000 : Nat)) (h5 : cmpI [crossD (rowD nets o) (trkD (rowD nets o)) (1099511627776 : Int), numD (rowD nets o), lenD (rowD nets o)] [(1099511627776 : Int), (1099511627776 : Int), (1099511627776 : Int)] < (0 : Int)) :
    Tst.path (vall Tryz.prog beCs (fl BBe eB) (SBr0 nets o)) [true] (toSt Tryz.prog 56 .normal [(64, 64, none), (65, 65, none), (66, 66, none), (67, 67, none)] (SBe1 nets o (trkD (rowD nets o)) (crossD (rowD nets o) (trkD (rowD nets o)) 1099511627776) (numD (rowD nets o)) (lenD (rowD nets o)))) := by
  have eTst : (Tst.path (vall Tryz.prog beCs (fl BBe eB) (SBr0 nets o)) [true] (toSt Tryz.prog 56 .normal [(64, 64, none), (65, 65, none), (66, 66, none), (67, 67, none)] (SBe1 nets o (trkD (rowD nets o)) (crossD (rowD nets o) (trkD (rowD nets o)) 1099511627776) (numD (rowD nets o)) (lenD (rowD nets o))))) = (((okStand nets o) = true) ∧ ((okRow (rowD nets o)) = true) ∧ ((okRow (rowD nets o) && decide (List.length (trkD (rowD nets o)) = List.length (Prod.fst (rowD nets o)))) = true) ∧ ((okRow (rowD nets o)) = true) ∧ ((decide (List.length [crossD (rowD nets o) (trkD (rowD nets o)) (1099511627776 : Int), numD (rowD nets o), lenD (rowD nets o)] ≤ (1000000 : Nat))) = true) ∧ ((decide (cmpI [crossD (rowD nets o) (trkD (rowD nets o)) (1099511627776 : Int), numD (rowD nets o), lenD (rowD nets o)] [(1099511627776 : Int), (1099511627776 : Int), (1099511627776 : Int)] < (0 : Int))) = true) ∧ ((AV.same (AV.agg (List.take (3 : Nat) (List.drop (0 : Nat) (List.take (0 : Nat) (List.map AV.raw (Array.toList #[Value.int IntKind.i64 (0 : Int), Value.int IntKind.i64 (0 : Int), Value.int IntKind.i64 (0 : Int)])) ++ AV.raw (Value.int IntKind.i64 (crossD (rowD nets o) (trkD (rowD nets o)) (1099511627776 : Int))) :: AV.raw (Value.int IntKind.i64 (numD (rowD nets o))) :: AV.raw (Value.int IntKind.i64 (lenD (rowD nets o))) :: List.map._f AV.raw [] PUnit.unit ++ List.drop ((0 : Nat) + List.length (AV.raw (Value.int IntKind.i64 (crossD (rowD nets o) (trkD (rowD nets o)) (1099511627776 : Int))) :: AV.raw (Value.int IntKind.i64 (numD (rowD nets o))) :: AV.raw (Value.int IntKind.i64 (lenD (rowD nets o))) :: List.map._f AV.raw [] PUnit.unit)) (List.map AV.raw (Array.toList #[Value.int IntKind.i64 (0 : Int), Value.int IntKind.i64 (0 : Int), Value.int IntKind.i64 (0 : Int)])))))) (AV.agg (List.take (3 : Nat) (List.drop (0 : Nat) (List.take (0 : Nat) (List.map AV.raw (Array.toList #[Value.int IntKind.i64 (0 : Int), Value.int IntKind.i64 (0 : Int), Value.int IntKind.i64 (0 : Int)])) ++ AV.raw (Value.int IntKind.i64 (crossD (rowD nets o) (trkD (rowD nets o)) (1099511627776 : Int))) :: AV.raw (Value.int IntKind.i64 (numD (rowD nets o))) :: AV.raw (Value.int IntKind.i64 (lenD (rowD nets o))) :: List.map._f AV.raw [] PUnit.unit ++ List.drop ((0 : Nat) + List.length (AV.raw (Value.int IntKind.i64 (crossD (rowD nets o) (trkD (rowD nets o)) (1099511627776 : Int))) :: AV.raw (Value.int IntKind.i64 (numD (rowD nets o))) :: AV.raw (Value.int IntKind.i64 (lenD (rowD nets o))) :: List.map._f AV.raw [] PUnit.unit)) (List.map AV.raw (Array.toList #[Value.int IntKind.i64 (0 : Int), Value.int IntKind.i64 (0 : Int), Value.int IntKind.i64 (0 : Int)]))))))) = true) ∧ ((AV.same (AV.agg (List.take (3 : Nat) (List.drop (0 : Nat) (List.take (0 : Nat) (List.map AV.raw (Array.toList #[Value.int IntKind.i64 (0 : Int), Value.int IntKind.i64 (0 : Int), Value.int IntKind.i64 (0 : Int)])) ++ AV.raw (Value.int IntKind.i64 (crossD (rowD nets o) (trkD (rowD nets o)) (1099511627776 : Int))) :: AV.raw (Value.int IntKind.i64 (numD (rowD nets o))) :: AV.raw (Value.int IntKind.i64 (lenD (rowD nets o))) :: List.map._f AV.raw [] PUnit.unit ++ List.drop ((0 : Nat) + List.length (AV.raw (Value.int IntKind.i64 (crossD (rowD nets o) (trkD (rowD nets o)) (1099511627776 : Int))) :: AV.raw (Value.int IntKind.i64 (numD (rowD nets o))) :: AV.raw (Value.int IntKind.i64 (lenD (rowD nets o))) :: List.map._f AV.raw [] PUnit.unit)) (List.map AV.raw (Array.toList #[Value.int IntKind.i64 (0 : Int), Value.int IntKind.i64 (0 : Int), Value.int IntKind.i64 (0 : Int)])))))) (AV.agg (List.take (3 : Nat) (List.drop (0 : Nat) (List.take (0 : Nat) (List.map AV.raw (Array.toList #[Value.int IntKind.i64 (0 : Int), Value.int IntKind.i64 (0 : Int), Value.int IntKind.i64 (0 : Int)])) ++ AV.raw (Value.int IntKind.i64 (crossD (rowD nets o) (trkD (rowD nets o)) (1099511627776 : Int))) :: AV.raw (Value.int IntKind.i64 (numD (rowD nets o))) :: AV.raw (Value.int IntKind.i64 (lenD (rowD nets o))) :: List.map._f AV.raw [] PUnit.unit ++ List.drop ((0 : Nat) + List.length (AV.raw (Value.int IntKind.i64 (crossD (rowD nets o) (trkD (rowD nets o)) (1099511627776 : Int))) :: AV.raw (Value.int IntKind.i64 (numD (rowD nets o))) :: AV.raw (Value.int IntKind.i64 (lenD (rowD nets o))) :: List.map._f AV.raw [] PUnit.unit)) (List.map AV.raw (Array.toList #[Value.int IntKind.i64 (0 : Int), Value.int IntKind.i64 (0 : Int), Value.int IntKind.i64 (0 : Int)]))))))) = true) ∧ (((0 : Nat)) = ((0 : Nat))) ∧ (((0 : Nat)) = ((0 : Nat))) ∧ (((0 : Nat)) = ((0 : Nat))) ∧ (((0 : Nat)) = ((0 : Nat))) ∧ (((nets) = (nets)) ∧ True) ∧ (((Value.slice none (0 : Nat) (0 : Nat)) = (Value.slice none (0 : Nat) (0 : Nat))) ∧ ((Value.slice none (0 : Nat) (0 : Nat)) = (Value.slice none (0 : Nat) (0 : Nat))) ∧ True) ∧ (((o) = (o)) ∧ ((trkD (rowD nets o)) = (trkD (rowD nets o))) ∧ True) ∧ (((crossD (rowD nets o) (trkD (rowD nets o)) (1099511627776 : Int)) = (crossD (rowD nets o) (trkD (rowD nets o)) (1099511627776 : Int))) ∧ ((numD (rowD nets o)) = (numD (rowD nets o))) ∧ ((lenD (rowD nets o)) = (lenD (rowD nets o))) ∧ True) ∧ True) := by kernel_rfl
  exact eTst.mpr ⟨h1, ⟨h2, ⟨h3, ⟨h2, ⟨decide_eq_true h4, ⟨decide_eq_true h5, ⟨(by simp only [Nat.zero_add] <;> exact (show (AV.same (AV.agg (List.take (3 : Nat) (List.drop (0 : Nat) (List.take (0 : Nat) (List.map AV.raw (Array.toList #[Value.int IntKind.i64 (0 : Int), Value.int IntKind.i64 (0 : Int), Value.int IntKind.i64 (0 : Int)])) ++ AV.raw (Value.int IntKind.i64 (crossD (rowD nets o) (trkD (rowD nets o)) (1099511627776 : Int))) :: AV.raw (Value.int IntKind.i64 (numD (rowD nets o))) :: AV.raw (Value.int IntKind.i64 (lenD (rowD nets o))) :: List.map._f AV.raw [] PUnit.unit ++ List.drop (List.length (AV.raw (Value.int IntKind.i64 (crossD (rowD nets o) (trkD (rowD nets o)) (1099511627776 : Int))) :: AV.raw (Value.int IntKind.i64 (numD (rowD nets o))) :: AV.raw (Value.int IntKind.i64 (lenD (rowD nets o))) :: List.map._f AV.raw [] PUnit.unit)) (List.map AV.raw (Array.toList #[Value.int IntKind.i64 (0 : Int), Value.int IntKind.i64 (0 : Int), Value.int IntKind.i64 (0 : Int)])))))) (AV.agg (List.take (3 : Nat) (List.drop (0 : Nat) (List.take (0 : Nat) (List.map AV.raw (Array.toList #[Value.int IntKind.i64 (0 : Int), Value.int IntKind.i64 (0 : Int), Value.int IntKind.i64 (0 : Int)])) ++ AV.raw (Value.int IntKind.i64 (crossD (rowD nets o) (trkD (rowD nets o)) (1099511627776 : Int))) :: AV.raw (Value.int IntKind.i64 (numD (rowD nets o))) :: AV.raw (Value.int IntKind.i64 (lenD (rowD nets o))) :: List.map._f AV.raw [] PUnit.unit ++ List.drop (List.length (AV.raw (Value.int IntKind.i64 (crossD (rowD nets o) (trkD (rowD nets o)) (1099511627776 : Int))) :: AV.raw (Value.int IntKind.i64 (numD (rowD nets o))) :: AV.raw (Value.int IntKind.i64 (lenD (rowD nets o))) :: List.map._f AV.raw [] PUnit.unit)) (List.map AV.raw (Array.toList #[Value.int IntKind.i64 (0 : Int), Value.int IntKind.i64 (0 : Int), Value.int IntKind.i64 (0 : Int)]))))))) = true from same_refl (by kernel_rfl))), ⟨(by simp only [Nat.zero_add] <;> exact (show (AV.same (AV.agg (List.take (3 : Nat) (List.drop (0 : Nat) (List.take (0 : Nat) (List.map AV.raw (Array.toList #[Value.int IntKind.i64 (0 : Int), Value.int IntKind.i64 (0 : Int), Value.int IntKind.i64 (0 : Int)])) ++ AV.raw (Value.int IntKind.i64 (crossD (rowD nets o) (trkD (rowD nets o)) (1099511627776 : Int))) :: AV.raw (Value.int IntKind.i64 (numD (rowD nets o))) :: AV.raw (Value.int IntKind.i64 (lenD (rowD nets o))) :: List.map._f AV.raw [] PUnit.unit ++ List.drop (List.length (AV.raw (Value.int IntKind.i64 (crossD (rowD nets o) (trkD (rowD nets o)) (1099511627776 : Int))) :: AV.raw (Value.int IntKind.i64 (numD (rowD nets o))) :: AV.raw (Value.int IntKind.i64 (lenD (rowD nets o))) :: List.map._f AV.raw [] PUnit.unit)) (List.map AV.raw (Array.toList #[Value.int IntKind.i64 (0 : Int), Value.int IntKind.i64 (0 : Int), Value.int IntKind.i64 (0 : Int)])))))) (AV.agg (List.take (3 : Nat) (List.drop (0 : Nat) (List.take (0 : Nat) (List.map AV.raw (Array.toList #[Value.int IntKind.i64 (0 : Int), Value.int IntKind.i64 (0 : Int), Value.int IntKind.i64 (0 : Int)])) ++ AV.raw (Value.int IntKind.i64 (crossD (rowD nets o) (trkD (rowD nets o)) (1099511627776 : Int))) :: AV.raw (Value.int IntKind.i64 (numD (rowD nets o))) :: AV.raw (Value.int IntKind.i64 (lenD (rowD nets o))) :: List.map._f AV.raw [] PUnit.unit ++ List.drop (List.length (AV.raw (Value.int IntKind.i64 (crossD (rowD nets o) (trkD (rowD nets o)) (1099511627776 : Int))) :: AV.raw (Value.int IntKind.i64 (numD (rowD nets o))) :: AV.raw (Value.int IntKind.i64 (lenD (rowD nets o))) :: List.map._f AV.raw [] PUnit.unit)) (List.map AV.raw (Array.toList #[Value.int IntKind.i64 (0 : Int), Value.int IntKind.i64 (0 : Int), Value.int IntKind.i64 (0 : Int)]))))))) = true from same_refl (by kernel_rfl))), ⟨rfl, ⟨rfl, ⟨rfl, ⟨rfl, ⟨⟨rfl, trivial⟩, ⟨⟨rfl, ⟨rfl, trivial⟩⟩, ⟨⟨rfl, ⟨rfl, trivial⟩⟩, ⟨⟨rfl, ⟨rfl, ⟨rfl, trivial⟩⟩⟩, trivial⟩⟩⟩⟩⟩⟩⟩⟩⟩⟩⟩⟩⟩⟩⟩⟩
theorem be_keep0 (nets : List (Int × List Int)) (o : List Int) (h1 : (okStand nets o) = true) (h2 : (okRow (rowD nets o)) = true) (h3 : (okRow (rowD nets o) && decide (List.length (trkD (rowD nets o)) = List.length (Prod.fst (rowD nets o)))) = true) (h4 : List.length [crossD (rowD nets o) (trkD (rowD nets o)) (1099511627776 : Int), numD (rowD nets o), lenD (rowD nets o)] ≤ (1000000 : Nat)) (h5 : ¬cmpI [crossD (rowD nets o) (trkD (rowD nets o)) (1099511627776 : Int), numD (rowD nets o), lenD (rowD nets o)] [(1099511627776 : Int), (1099511627776 : Int), (1099511627776 : Int)] < (0 : Int)) :
    Tst.path (vall Tryz.prog beCs (fl BBe eB) (SBr0 nets o)) [false] (toSt Tryz.prog 56 .normal [(64, 64, none), (65, 65, none), (66, 66, none), (67, 67, none)] (SBe0 nets)) := by
  have eTst : (Tst.path (vall Tryz.prog beCs (fl BBe eB) (SBr0 nets o)) [false] (toSt Tryz.prog 56 .normal [(64, 64, none), (65, 65, none), (66, 66, none), (67, 67, none)] (SBe0 nets))) = (((okStand nets o) = true) ∧ ((okRow (rowD nets o)) = true) ∧ ((okRow (rowD nets o) && decide (List.length (trkD (rowD nets o)) = List.length (Prod.fst (rowD nets o)))) = true) ∧ ((okRow (rowD nets o)) = true) ∧ ((decide (List.length [crossD (rowD nets o) (trkD (rowD nets o)) (1099511627776 : Int), numD (rowD nets o), lenD (rowD nets o)] ≤ (1000000 : Nat))) = true) ∧ ((decide (cmpI [crossD (rowD nets o) (trkD (rowD nets o)) (1099511627776 : Int), numD (rowD nets o), lenD (rowD nets o)] [(1099511627776 : Int), (1099511627776 : Int), (1099511627776 : Int)] < (0 : Int))) = false) ∧ (((0 : Nat)) = ((0 : Nat))) ∧ (((0 : Nat)) = ((0 : Nat))) ∧ (((0 : Nat)) = ((0 : Nat))) ∧ (((0 : Nat)) = ((0 : Nat))) ∧ (((nets) = (nets)) ∧ True) ∧ (((Value.slice none (0 : Nat) (0 : Nat)) = (Value.slice none (0 : Nat) (0 : Nat))) ∧ ((Value.slice none (0 : Nat) (0 : Nat)) = (Value.slice none (0 : Nat) (0 : Nat))) ∧ True) ∧ (((Value.slice none (0 : Nat) (0 : Nat)) = (Value.slice none (0 : Nat) (0 : Nat))) ∧ ((Value.slice none (0 : Nat) (0 : Nat)) = (Value.slice none (0 : Nat) (0 : Nat))) ∧ True) ∧ ((((1099511627776 : Int)) = ((1099511627776 : Int))) ∧ (((1099511627776 : Int)) = ((1099511627776 : Int))) ∧ (((1099511627776 : Int)) = ((1099511627776 : Int))) ∧ True) ∧ True) := by kernel_rfl
  exact eTst.mpr ⟨h1, ⟨h2, ⟨h3, ⟨h2, ⟨decide_eq_true h4, ⟨decide_eq_false h5, ⟨rfl, ⟨rfl, ⟨rfl, ⟨rfl, ⟨⟨rfl, trivial⟩, ⟨⟨rfl, ⟨rfl, trivial⟩⟩, ⟨⟨rfl, ⟨rfl, trivial⟩⟩, ⟨⟨rfl, ⟨rfl, ⟨rfl, trivial⟩⟩⟩, trivial⟩⟩⟩⟩⟩⟩⟩⟩⟩⟩⟩⟩⟩⟩
theorem be_take1 (nets : List (Int × List Int)) (o bo bt : List Int) (c m l : Int) (h1 : (okStand nets o) = true) (h2 : (okRow (rowD nets o)) = true) (h3 : (okRow (rowD nets o) && decide (List.length (trkD (rowD nets o)) = List.length (Prod.fst (rowD nets o)))) = true) (h4 : List.length [crossD (rowD nets o) (trkD (rowD nets o)) c, numD (rowD nets o), lenD (rowD nets o)] ≤ (1000000 : Nat)) (h5 : cmpI [crossD (rowD nets o) (trkD (rowD nets o)) c, numD (rowD nets o), lenD (rowD nets o)] [c, m, l] < (0 : Int)) :
    Tst.path (vall Tryz.prog beCs (fl BBe eB) (SBr1 nets o bo bt c m l)) [true] (toSt Tryz.prog 56 .normal [(64, 64, none), (65, 65, none), (66, 66, none), (67, 67, none)] (SBe1 nets o (trkD (rowD nets o)) (crossD (rowD nets o) (trkD (rowD nets o)) c) (numD (rowD nets o)) (lenD (rowD nets o)))) := by
  have eTst : (Tst.path (vall Tryz.prog beCs (fl BBe eB) (SBr1 nets o bo bt c m l)) [true] (toSt Tryz.prog 56 .normal [(64, 64, none), (65, 65, none), (66, 66, none), (67, 67, none)] (SBe1 nets o (trkD (rowD nets o)) (crossD (rowD nets o) (trkD (rowD nets o)) c) (numD (rowD nets o)) (lenD (rowD nets o))))) = (((okStand nets o) = true) ∧ ((okRow (rowD nets o)) = true) ∧ ((okRow (rowD nets o) && decide (List.length (trkD (rowD nets o)) = List.length (Prod.fst (rowD nets o)))) = true) ∧ ((okRow (rowD nets o)) = true) ∧ ((decide (List.length [crossD (rowD nets o) (trkD (rowD nets o)) c, numD (rowD nets o), lenD (rowD nets o)] ≤ (1000000 : Nat))) = true) ∧ ((decide (cmpI [crossD (rowD nets o) (trkD (rowD nets o)) c, numD (rowD nets o), lenD (rowD nets o)] [c, m, l] < (0 : Int))) = true) ∧ ((AV.same (AV.agg (List.take (3 : Nat) (List.drop (0 : Nat) (List.take (0 : Nat) (List.map AV.raw (Array.toList #[Value.int IntKind.i64 (0 : Int), Value.int IntKind.i64 (0 : Int), Value.int IntKind.i64 (0 : Int)])) ++ AV.raw (Value.int IntKind.i64 (crossD (rowD nets o) (trkD (rowD nets o)) c)) :: AV.raw (Value.int IntKind.i64 (numD (rowD nets o))) :: AV.raw (Value.int IntKind.i64 (lenD (rowD nets o))) :: List.map._f AV.raw [] PUnit.unit ++ List.drop ((0 : Nat) + List.length (AV.raw (Value.int IntKind.i64 (crossD (rowD nets o) (trkD (rowD nets o)) c)) :: AV.raw (Value.int IntKind.i64 (numD (rowD nets o))) :: AV.raw (Value.int IntKind.i64 (lenD (rowD nets o))) :: List.map._f AV.raw [] PUnit.unit)) (List.map AV.raw (Array.toList #[Value.int IntKind.i64 (0 : Int), Value.int IntKind.i64 (0 : Int), Value.int IntKind.i64 (0 : Int)])))))) (AV.agg (List.take (3 : Nat) (List.drop (0 : Nat) (List.take (0 : Nat) (List.map AV.raw (Array.toList #[Value.int IntKind.i64 (0 : Int), Value.int IntKind.i64 (0 : Int), Value.int IntKind.i64 (0 : Int)])) ++ AV.raw (Value.int IntKind.i64 (crossD (rowD nets o) (trkD (rowD nets o)) c)) :: AV.raw (Value.int IntKind.i64 (numD (rowD nets o))) :: AV.raw (Value.int IntKind.i64 (lenD (rowD nets o))) :: List.map._f AV.raw [] PUnit.unit ++ List.drop ((0 : Nat) + List.length (AV.raw (Value.int IntKind.i64 (crossD (rowD nets o) (trkD (rowD nets o)) c)) :: AV.raw (Value.int IntKind.i64 (numD (rowD nets o))) :: AV.raw (Value.int IntKind.i64 (lenD (rowD nets o))) :: List.map._f AV.raw [] PUnit.unit)) (List.map AV.raw (Array.toList #[Value.int IntKind.i64 (0 : Int), Value.int IntKind.i64 (0 : Int), Value.int IntKind.i64 (0 : Int)]))))))) = true) ∧ ((AV.same (AV.agg (List.take (3 : Nat) (List.drop (0 : Nat) (List.take (0 : Nat) (List.map AV.raw (Array.toList #[Value.int IntKind.i64 (0 : Int), Value.int IntKind.i64 (0 : Int), Value.int IntKind.i64 (0 : Int)])) ++ AV.raw (Value.int IntKind.i64 (crossD (rowD nets o) (trkD (rowD nets o)) c)) :: AV.raw (Value.int IntKind.i64 (numD (rowD nets o))) :: AV.raw (Value.int IntKind.i64 (lenD (rowD nets o))) :: List.map._f AV.raw [] PUnit.unit ++ List.drop ((0 : Nat) + List.length (AV.raw (Value.int IntKind.i64 (crossD (rowD nets o) (trkD (rowD nets o)) c)) :: AV.raw (Value.int IntKind.i64 (numD (rowD nets o))) :: AV.raw (Value.int IntKind.i64 (lenD (rowD nets o))) :: List.map._f AV.raw [] PUnit.unit)) (List.map AV.raw (Array.toList #[Value.int IntKind.i64 (0 : Int), Value.int IntKind.i64 (0 : Int), Value.int IntKind.i64 (0 : Int)])))))) (AV.agg (List.take (3 : Nat) (List.drop (0 : Nat) (List.take (0 : Nat) (List.map AV.raw (Array.toList #[Value.int IntKind.i64 (0 : Int), Value.int IntKind.i64 (0 : Int), Value.int IntKind.i64 (0 : Int)])) ++ AV.raw (Value.int IntKind.i64 (crossD (rowD nets o) (trkD (rowD nets o)) c)) :: AV.raw (Value.int IntKind.i64 (numD (rowD nets o))) :: AV.raw (Value.int IntKind.i64 (lenD (rowD nets o))) :: List.map._f AV.raw [] PUnit.unit ++ List.drop ((0 : Nat) + List.length (AV.raw (Value.int IntKind.i64 (crossD (rowD nets o) (trkD (rowD nets o)) c)) :: AV.raw (Value.int IntKind.i64 (numD (rowD nets o))) :: AV.raw (Value.int IntKind.i64 (lenD (rowD nets o))) :: List.map._f AV.raw [] PUnit.unit)) (List.map AV.raw (Array.toList #[Value.int IntKind.i64 (0 : Int), Value.int IntKind.i64 (0 : Int), Value.int IntKind.i64 (0 : Int)]))))))) = true) ∧ (((0 : Nat)) = ((0 : Nat))) ∧ (((0 : Nat)) = ((0 : Nat))) ∧ (((0 : Nat)) = ((0 : Nat))) ∧ (((0 : Nat)) = ((0 : Nat))) ∧ (((nets) = (nets)) ∧ True) ∧ (((Value.slice none (0 : Nat) (0 : Nat)) = (Value.slice none (0 : Nat) (0 : Nat))) ∧ ((Value.slice none (0 : Nat) (0 : Nat)) = (Value.slice none (0 : Nat) (0 : Nat))) ∧ True) ∧ (((o) = (o)) ∧ ((trkD (rowD nets o)) = (trkD (rowD nets o))) ∧ True) ∧ (((crossD (rowD nets o) (trkD (rowD nets o)) c) = (crossD (rowD nets o) (trkD (rowD nets o)) c)) ∧ ((numD (rowD nets o)) = (numD (rowD nets o))) ∧ ((lenD (rowD nets o)) = (lenD (rowD nets o))) ∧ True) ∧ True) := by kernel_rfl
  exact eTst.mpr ⟨h1, ⟨h2, ⟨h3, ⟨h2, ⟨decide_eq_true h4, ⟨decide_eq_true h5, ⟨(by simp only [Nat.zero_add] <;> exact (show (AV.same (AV.agg (List.take (3 : Nat) (List.drop (0 : Nat) (List.take (0 : Nat) (List.map AV.raw (Array.toList #[Value.int IntKind.i64 (0 : Int), Value.int IntKind.i64 (0 : Int), Value.int IntKind.i64 (0 : Int)])) ++ AV.raw (Value.int IntKind.i64 (crossD (rowD nets o) (trkD (rowD nets o)) c)) :: AV.raw (Value.int IntKind.i64 (numD (rowD nets o))) :: AV.raw (Value.int IntKind.i64 (lenD (rowD nets o))) :: List.map._f AV.raw [] PUnit.unit ++ List.drop (List.length (AV.raw (Value.int IntKind.i64 (crossD (rowD nets o) (trkD (rowD nets o)) c)) :: AV.raw (Value.int IntKind.i64 (numD (rowD nets o))) :: AV.raw (Value.int IntKind.i64 (lenD (rowD nets o))) :: List.map._f AV.raw [] PUnit.unit)) (List.map AV.raw (Array.toList #[Value.int IntKind.i64 (0 : Int), Value.int IntKind.i64 (0 : Int), Value.int IntKind.i64 (0 : Int)])))))) (AV.agg (List.take (3 : Nat) (List.drop (0 : Nat) (List.take (0 : Nat) (List.map AV.raw (Array.toList #[Value.int IntKind.i64 (0 : Int), Value.int IntKind.i64 (0 : Int), Value.int IntKind.i64 (0 : Int)])) ++ AV.raw (Value.int IntKind.i64 (crossD (rowD nets o) (trkD (rowD nets o)) c)) :: AV.raw (Value.int IntKind.i64 (numD (rowD nets o))) :: AV.raw (Value.int IntKind.i64 (lenD (rowD nets o))) :: List.map._f AV.raw [] PUnit.unit ++ List.drop (List.length (AV.raw (Value.int IntKind.i64 (crossD (rowD nets o) (trkD (rowD nets o)) c)) :: AV.raw (Value.int IntKind.i64 (numD (rowD nets o))) :: AV.raw (Value.int IntKind.i64 (lenD (rowD nets o))) :: List.map._f AV.raw [] PUnit.unit)) (List.map AV.raw (Array.toList #[Value.int IntKind.i64 (0 : Int), Value.int IntKind.i64 (0 : Int), Value.int IntKind.i64 (0 : Int)]))))))) = true from same_refl (by kernel_rfl))), ⟨(by simp only [Nat.zero_add] <;> exact (show (AV.same (AV.agg (List.take (3 : Nat) (List.drop (0 : Nat) (List.take (0 : Nat) (List.map AV.raw (Array.toList #[Value.int IntKind.i64 (0 : Int), Value.int IntKind.i64 (0 : Int), Value.int IntKind.i64 (0 : Int)])) ++ AV.raw (Value.int IntKind.i64 (crossD (rowD nets o) (trkD (rowD nets o)) c)) :: AV.raw (Value.int IntKind.i64 (numD (rowD nets o))) :: AV.raw (Value.int IntKind.i64 (lenD (rowD nets o))) :: List.map._f AV.raw [] PUnit.unit ++ List.drop (List.length (AV.raw (Value.int IntKind.i64 (crossD (rowD nets o) (trkD (rowD nets o)) c)) :: AV.raw (Value.int IntKind.i64 (numD (rowD nets o))) :: AV.raw (Value.int IntKind.i64 (lenD (rowD nets o))) :: List.map._f AV.raw [] PUnit.unit)) (List.map AV.raw (Array.toList #[Value.int IntKind.i64 (0 : Int), Value.int IntKind.i64 (0 : Int), Value.int IntKind.i64 (0 : Int)])))))) (AV.agg (List.take (3 : Nat) (List.drop (0 : Nat) (List.take (0 : Nat) (List.map AV.raw (Array.toList #[Value.int IntKind.i64 (0 : Int), Value.int IntKind.i64 (0 : Int), Value.int IntKind.i64 (0 : Int)])) ++ AV.raw (Value.int IntKind.i64 (crossD (rowD nets o) (trkD (rowD nets o)) c)) :: AV.raw (Value.int IntKind.i64 (numD (rowD nets o))) :: AV.raw (Value.int IntKind.i64 (lenD (rowD nets o))) :: List.map._f AV.raw [] PUnit.unit ++ List.drop (List.length (AV.raw (Value.int IntKind.i64 (crossD (rowD nets o) (trkD (rowD nets o)) c)) :: AV.raw (Value.int IntKind.i64 (numD (rowD nets o))) :: AV.raw (Value.int IntKind.i64 (lenD (rowD nets o))) :: List.map._f AV.raw [] PUnit.unit)) (List.map AV.raw (Array.toList #[Value.int IntKind.i64 (0 : Int), Value.int IntKind.i64 (0 : Int), Value.int IntKind.i64 (0 : Int)]))))))) = true from same_refl (by kernel_rfl))), ⟨rfl, ⟨rfl, ⟨rfl, ⟨rfl, ⟨⟨rfl, trivial⟩, ⟨⟨rfl, ⟨rfl, trivial⟩⟩, ⟨⟨rfl, ⟨rfl, trivial⟩⟩, ⟨⟨rfl, ⟨rfl, ⟨rfl, trivial⟩⟩⟩, trivial⟩⟩⟩⟩⟩⟩⟩⟩⟩⟩⟩⟩⟩⟩⟩⟩
theorem be_keep1 (nets : List (Int × List Int)) (o bo bt : List Int) (c m l : Int) (h1 : (okStand nets o) = true) (h2 : (okRow (rowD nets o)) = true) (h3 : (okRow (rowD nets o) && decide (List.length (trkD (rowD nets o)) = List.length (Prod.fst (rowD nets o)))) = true) (h4 : List.length [crossD (rowD nets o) (trkD (rowD nets o)) c, numD (rowD nets o), lenD (rowD nets o)] ≤ (1000000 : Nat)) (h5 : ¬cmpI [crossD (rowD nets o) (trkD (rowD nets o)) c, numD (rowD nets o), lenD (rowD nets o)] [c, m, l] < (0 : Int)) :
    Tst.path (vall Tryz.prog beCs (fl BBe eB) (SBr1 nets o bo bt c m l)) [false] (toSt Tryz.prog 56 .normal [(64, 64, none), (65, 65, none), (66, 66, none), (67, 67, none)] (SBe1 nets bo bt c m l)) := by
  have eTst : (Tst.path (vall Tryz.prog beCs (fl BBe eB) (SBr1 nets o bo bt c m l)) [false] (toSt Tryz.prog 56 .normal [(64, 64, none), (65, 65, none), (66, 66, none), (67, 67, none)] (SBe1 nets bo bt c m l))) = (((okStand nets o) = true) ∧ ((okRow (rowD nets o)) = true) ∧ ((okRow (rowD nets o) && decide (List.length (trkD (rowD nets o)) = List.length (Prod.fst (rowD nets o)))) = true) ∧ ((okRow (rowD nets o)) = true) ∧ ((decide (List.length [crossD (rowD nets o) (trkD (rowD nets o)) c, numD (rowD nets o), lenD (rowD nets o)] ≤ (1000000 : Nat))) = true) ∧ ((decide (cmpI [crossD (rowD nets o) (trkD (rowD nets o)) c, numD (rowD nets o), lenD (rowD nets o)] [c, m, l] < (0 : Int))) = false) ∧ (((0 : Nat)) = ((0 : Nat))) ∧ (((0 : Nat)) = ((0 : Nat))) ∧ (((0 : Nat)) = ((0 : Nat))) ∧ (((0 : Nat)) = ((0 : Nat))) ∧ (((nets) = (nets)) ∧ True) ∧ (((Value.slice none (0 : Nat) (0 : Nat)) = (Value.slice none (0 : Nat) (0 : Nat))) ∧ ((Value.slice none (0 : Nat) (0 : Nat)) = (Value.slice none (0 : Nat) (0 : Nat))) ∧ True) ∧ (((bo) = (bo)) ∧ ((bt) = (bt)) ∧ True) ∧ (((c) = (c)) ∧ ((m) = (m)) ∧ ((l) = (l)) ∧ True) ∧ True) := by kernel_rfl
  exact eTst.mpr ⟨h1, ⟨h2, ⟨h3, ⟨h2, ⟨decide_eq_true h4, ⟨decide_eq_false h5, ⟨rfl, ⟨rfl, ⟨rfl, ⟨rfl, ⟨⟨rfl, trivial⟩, ⟨⟨rfl, ⟨rfl, trivial⟩⟩, ⟨⟨rfl, ⟨rfl, trivial⟩⟩, ⟨⟨rfl, ⟨rfl, ⟨rfl, trivial⟩⟩⟩, trivial⟩⟩⟩⟩⟩⟩⟩⟩⟩⟩⟩⟩⟩⟩
theorem be_fit0 (nets : List (Int × List Int)) (n : Int)  :
    Tst.path ((Tst.ret (R.normal (SBs nets n).T ((SBs nets n).H.drop 68) []) : Tst R)) [] (toSt Tryz.prog 56 .normal [(64, 64, none), (65, 65, none), (66, 66, none), (67, 67, none)] (SBe0 nets)) := by
  have eTst : (Tst.path ((Tst.ret (R.normal (SBs nets n).T ((SBs nets n).H.drop 68) []) : Tst R)) [] (toSt Tryz.prog 56 .normal [(64, 64, none), (65, 65, none), (66, 66, none), (67, 67, none)] (SBe0 nets))) = ((((0 : Nat)) = ((0 : Nat))) ∧ (((0 : Nat)) = ((0 : Nat))) ∧ (((0 : Nat)) = ((0 : Nat))) ∧ (((0 : Nat)) = ((0 : Nat))) ∧ (((nets) = (nets)) ∧ True) ∧ (((Value.slice none (0 : Nat) (0 : Nat)) = (Value.slice none (0 : Nat) (0 : Nat))) ∧ ((Value.slice none (0 : Nat) (0 : Nat)) = (Value.slice none (0 : Nat) (0 : Nat))) ∧ True) ∧ (((Value.slice none (0 : Nat) (0 : Nat)) = (Value.slice none (0 : Nat) (0 : Nat))) ∧ ((Value.slice none (0 : Nat) (0 : Nat)) = (Value.slice none (0 : Nat) (0 : Nat))) ∧ True) ∧ ((((1099511627776 : Int)) = ((1099511627776 : Int))) ∧ (((1099511627776 : Int)) = ((1099511627776 : Int))) ∧ (((1099511627776 : Int)) = ((1099511627776 : Int))) ∧ True) ∧ True) := by kernel_rfl
  exact eTst.mpr ⟨rfl, ⟨rfl, ⟨rfl, ⟨rfl, ⟨⟨rfl, trivial⟩, ⟨⟨rfl, ⟨rfl, trivial⟩⟩, ⟨⟨rfl, ⟨rfl, trivial⟩⟩, ⟨⟨rfl, ⟨rfl, ⟨rfl, trivial⟩⟩⟩, trivial⟩⟩⟩⟩⟩⟩⟩⟩
theorem be_ret (nets : List (Int × List Int)) (bo bt : List Int) (c m l : Int)  :
    Tst.path (vallM Tryz.prog beCs (List.drop 8 (fl BBe [])) (SBe1 nets bo bt c m l)) [] (toRetM Tryz.prog Tryz.f10 false (.tuple [yv bo bt, iv 0]) [68]) := by
  have eTst : (Tst.path (vallM Tryz.prog beCs (List.drop 8 (fl BBe [])) (SBe1 nets bo bt c m l)) [] (toRetM Tryz.prog Tryz.f10 false (.tuple [yv bo bt, iv 0]) [68])) = (((Exit.ret) = (Exit.ret)) ∧ (((bo) = (bo)) ∧ ((bt) = (bt)) ∧ True) ∧ (((0 : Int)) = ((0 : Int))) ∧ True) := by kernel_rfl
  exact eTst.mpr ⟨rfl, ⟨⟨rfl, ⟨rfl, trivial⟩⟩, ⟨rfl, trivial⟩⟩⟩
theorem be_ok : CallOk Tryz.prog (gS beCs) := orCs_ok rowCs_ok (ctrs_ok fun c hc => by
  simp only [List.mem_cons, List.not_mem_nil, or_false] at hc
  rcases hc with rfl | rfl | rfl
  · exact cNetsB_ok
  · exact cCmp_ok
  · exact cFirst_ok)
def SBe (nets : List (Int × List Int)) (st : Option (List Int)) : St := match st with
  | none => SBe0 nets
  | some b => SBe1 nets b (trkO nets b) (crsO nets b) (numO nets b) (sumExt (extsOf nets b))
theorem cmp_neg {a b : List Int} : cmpI a b < 0 ↔ lexB a b = true := by
  unfold cmpI
  by_cases h : lexB a b = true
  · rw [if_pos h]; exact ⟨fun _ => h, fun _ => by decide⟩
  · rw [if_neg h]
    constructor
    · intro h2; split at h2 <;> exact absurd h2 (by decide)
    · intro h2; exact absurd h2 h
theorem row_good {nets : List (Int × List Int)} {n : Int} {o : List Int} (hg : goodB nets = true) (hE : Bus.bothErr nets n o = 0) (h20 : nets.length < 20) : okRow (rowD nets o) = true := by
  have e1 : (rowD nets o).2.2 = extsOf nets o := rfl
  have e0 : (rowD nets o).1 = nets := rfl
  obtain ⟨n1, n97, l64, hcols⟩ := Bus.netsErr_zero (both_iff.1 hE).1
  have hol := (Bus.orderErr_zero (both_iff.1 hE).2).1
  have hT := taps_few (l := mkNets nets) (n := n) (by rw [mkNets_net]; exact (both_iff.1 hE).1) (Bus.atUp o o.length)
  have e : (mkNets nets).map NetAt.cols = nets.map Prod.snd := by
    have : (mkNets nets).map NetAt.cols = ((mkNets nets).map NetAt.net).map Prod.snd := by rw [List.map_map]; rfl
    rw [this, mkNets_net]
  rw [e] at hT
  have hr := row_taps hE
  unfold okRow
  simp only [Bool.and_eq_true, decide_eq_true_eq, List.all_eq_true]
  rw [hr, e1, e0, extsOf_len]
  refine ⟨hg, rfl, h20, fun p hp => ?_, fun x hx c hc => nets97 hE x hx c hc, by omega⟩
  obtain ⟨i, hi, rfl⟩ := List.mem_iff_getElem.1 hp
  rw [extsOf_len] at hi
  have hb := ext_bd hE i hi
  have hg' : (extsOf nets o).getD i (0, 0) = (extsOf nets o)[i] := by rw [List.getD_eq_getElem?_getD, List.getElem?_eq_getElem (by rw [extsOf_len]; exact hi)]; rfl
  rw [hg'] at hb
  omega
theorem stand_good {nets : List (Int × List Int)} {n : Int} {o : List Int} (hg : goodB nets = true) (hE : Bus.bothErr nets n o = 0) : okStand nets o = true := by
  have hol := (Bus.orderErr_zero (both_iff.1 hE).2).1
  unfold okStand
  rw [hg, Bool.true_and]
  refine decide_eq_true ?_
  rw [hol]; exact hE
def RBe (nets : List (Int × List Int)) (n : Int) (pre : List (List Int)) (st : Option (List Int)) : Prop := st = bestOf (valOf nets) lexB pre ∧ ∀ b, st = some b → Bus.bothErr nets n b = 0
theorem be_code : List.drop 7 (fl BBe []) = .block 0 (.rangeFunc (.tmp 28) #[29] (cat BBe [1, 1, 1, 1, 0, 1, 0, 0]) (cat BBe eB)) :: List.drop 8 (fl BBe []) := by kernel_rfl
theorem be_T1 (nets : List (Int × List Int)) (o : List Int) : (SBr0 nets o).T = ((SBe0 nets).T.set 29 (some (lv o))).set 9 (some (lv o)) := by kernel_rfl
theorem be_fit (nets : List (Int × List Int)) (n : Int) : fit Tryz.prog [(64, 64, none), (65, 65, none), (66, 66, none), (67, 67, none)] 56 (SBs nets n).T ((SBs nets n).H.drop 68) (SBe0 nets) := be_fit0 nets n
theorem be_body {nets : List (Int × List Int)} {n : Int} {o : List Int} {st : Option (List Int)} {pre : List (List Int)} (hg : goodB nets = true) (h20 : nets.length < 20) (hR : RBe nets n pre st) (hE : Bus.bothErr nets n o = 0) {w0 : World} {F : Env} (l : Nat) (K : Nat → Option Obj) (A : Nat → Option (Nat × Nat)) (Z : Nat → Option (Array Value)) (sz : Nat) :
    GoalLX { rd := some l, K := K, R := fun _ _ => False, pin := [64, 65, 66, 67], A := A, Z := Z, sz := sz } Tryz.prog w0 F 56 (fl BBe eB) (SBr0 nets o).T (SBe nets st).H (onN (fun T H => ∃ j, RBe nets n (pre ++ [o]) j ∧ H = (SBe nets j).H) (fun _ _ _ => False)) := by
  have hS := be_ok
  obtain ⟨hst, hsb⟩ := hR
  have hrow := row_good hg hE h20
  have hstd := stand_good hg hE
  have hlen : (okRow (rowD nets o) && decide ((trkD (rowD nets o)).length = (rowD nets o).1.length)) = true := by
    rw [hrow, Bool.true_and]
    exact decide_eq_true (lay_zero hE (low_lay hE)).1
  have hsn : bestOf (valOf nets) lexB (pre ++ [o]) = bestStep (valOf nets) lexB st o := by rw [bestOf_snoc, ← hst]
  cases hl : lexB [crossD (rowD nets o) (trkO nets o) (rk0 nets st), numO nets o, sumExt (extsOf nets o)] [rk0 nets st, rk1 nets st, rk2 nets st] with
  | true =>
    obtain ⟨h1, h2⟩ := best_take hE hsb hl
    have hfin : RBe nets n (pre ++ [o]) (some o) := ⟨by rw [hsn, h1], fun b hb => by cases hb; exact hE⟩
    cases st with
    | none =>
      refine GoalL.all (s := SBr0 nets o) (s' := SBe1 nets o (trkD (rowD nets o)) (crossD (rowD nets o) (trkD (rowD nets o)) 1099511627776) (numD (rowD nets o)) (lenD (rowD nets o))) known mixed hS _ (be_take0 nets o hstd hrow hlen (by simp) (cmp_neg.2 hl)) (by kernel_rfl) ?_
      exact ⟨some o, hfin, by
        have h2 : crossD (rowD nets o) (trkD (rowD nets o)) 1099511627776 = crsO nets o := h2
        rw [h2]; rfl⟩
    | some b =>
      refine GoalL.all (s := SBr1 nets o b (trkO nets b) (crsO nets b) (numO nets b) (sumExt (extsOf nets b))) (s' := SBe1 nets o (trkD (rowD nets o)) (crossD (rowD nets o) (trkD (rowD nets o)) (crsO nets b)) (numD (rowD nets o)) (lenD (rowD nets o))) known mixed hS _ (be_take1 nets o b _ _ _ _ hstd hrow hlen (by simp) (cmp_neg.2 hl)) (by kernel_rfl) ?_
      exact ⟨some o, hfin, by
        have h2 : crossD (rowD nets o) (trkD (rowD nets o)) (crsO nets b) = crsO nets o := h2
        rw [h2]; rfl⟩
  | false =>
    have h1 := best_keep hE hsb hl
    have hfin : RBe nets n (pre ++ [o]) st := ⟨by rw [hsn, h1], hsb⟩
    have hn : ∀ {x : Int}, x = cmpI [crossD (rowD nets o) (trkO nets o) (rk0 nets st), numO nets o, sumExt (extsOf nets o)] [rk0 nets st, rk1 nets st, rk2 nets st] → ¬ x < 0 := fun {x} hx h => by
      rw [hx, cmp_neg, hl] at h; cases h
    cases st with
    | none =>
      refine GoalL.all (s := SBr0 nets o) (s' := SBe0 nets) known mixed hS _ (be_keep0 nets o hstd hrow hlen (by simp) (hn rfl)) (by kernel_rfl) ?_
      exact ⟨none, hfin, rfl⟩
    | some b =>
      refine GoalL.all (s := SBr1 nets o b (trkO nets b) (crsO nets b) (numO nets b) (sumExt (extsOf nets b))) (s' := SBe1 nets b (trkO nets b) (crsO nets b) (numO nets b) (sumExt (extsOf nets b))) known mixed hS _ (be_keep1 nets o b _ _ _ _ hstd hrow hlen (by simp) (hn rfl)) (by kernel_rfl) ?_
      exact ⟨some b, hfin, rfl⟩
def bstB (nets : List (Int × List Int)) (n : Int) : (List Int × List Int) × Int :=
  if firstOf [Bus.netsErr nets n, if n > 8 then 21 else 0] = 0 then ((bOrd (bestO nets n.toNat), bTrk nets (bestO nets n.toNat)), 0) else (([], []), firstOf [Bus.netsErr nets n, if n > 8 then 21 else 0])
def okBB (nets : List (Int × List Int)) (n : Int) : Bool := goodB nets && (decide (nets.length ≤ 140737488355328) && (decide (Bus.netsErr nets n ≠ 0) || (decide (n > 8) || decide (nets.length < 20))))
theorem bestB_holds (nets : List (Int × List Int)) (n : Int) (h : okBB nets n = true) : Holds Tryz.prog false 10 [nv nets, iv n] (.tuple [yv (bstB nets n).1.1 (bstB nets n).1.2, iv (bstB nets n).2]) := by
  unfold okBB at h
  simp only [Bool.and_eq_true, Bool.or_eq_true, decide_eq_true_eq] at h
  obtain ⟨hg, hl, hcase⟩ := h
  have hS := be_ok
  have hpre : (goodB nets && decide (nets.length ≤ 140737488355328)) = true := by rw [hg, decide_eq_true hl]; rfl
  refine holds_flW (c := BBe) Tryz.func10 rfl rfl fun w F hF => ?_
  by_cases h8 : n > 8
  · have hne : ¬ firstOf [Bus.netsErr nets n, 21] = 0 := by
      by_cases hN : Bus.netsErr nets n = 0
      · rw [hN]; decide
      · rw [firstOf_hit _ _ hN]; exact hN
    have e : bstB nets n = (([], []), firstOf [Bus.netsErr nets n, 21]) := by unfold bstB; rw [if_pos h8, if_neg hne]
    rw [e]
    exact GoalW.full (GoalL.ret known mixed hS 7 _ (be_far nets n hpre h8 (by simp) hne) fun T H h => h)
  · by_cases hN : Bus.netsErr nets n = 0
    · have hz : firstOf [Bus.netsErr nets n, 0] = 0 := by rw [hN]; decide
      have e : bstB nets n = ((bOrd (bestO nets n.toNat), bTrk nets (bestO nets n.toNat)), 0) := by unfold bstB; rw [if_neg h8, if_pos hz]
      have h20 : nets.length < 20 := by
        rcases hcase with h | h | h
        · exact absurd hN h
        · exact absurd h h8
        · exact h
      obtain ⟨n1, n97, _⟩ := Bus.netsErr_zero hN
      obtain ⟨m, rfl⟩ : ∃ m : Nat, n = (m : Int) := ⟨n.toNat, by omega⟩
      rw [e, Int.toNat_natCast]
      obtain ⟨b, hb, hb2⟩ := best_some (nets := nets) m
      rw [hb]
      refine GoalW.to known mixed hS (s' := SBs nets m) 7 _ (be_start nets m hpre h8 (by simp) hz) (by kernel_rfl) ?_
      rw [be_code]
      refine GoalW.rangeRows (gf := 86) (ib := 68) (e := 3) (m := (m : Int)) (G := IsOrd m) (S := fun ps => ps = ext m m []) (s0 := SBs nets m) (σ := [(64, 64, none), (65, 65, none), (66, 66, none), (67, 67, none)]) hF
        (SBe nets) none (RBe nets m) [64, 65, 66, 67] (fun o => (SBr0 nets o).T) (fun tmps v => set2 tmps 29 9 v) (by kernel_rfl) (by kernel_rfl) (enters_of Tryz.func86 (by kernel_rfl) rfl)
        (fun bn W hW => orders_seq m (by omega) bn W hW) rfl (be_fit nets m) (fun i => by cases i <;> exact ⟨rfl, rfl, rfl⟩) (fun i => by cases i <;> rfl) (by kernel_rfl) (by kernel_rfl) ⟨by simp [bestOf], fun b hb => by cases hb⟩ ?assign ?t1 ?body ?rest
      case assign =>
        intro l tmps v W K hsz hK
        have hlt : 29 < tmps.size := by rw [hsz]; decide
        change Code.wpIn _ _ _ (Code.region 7 _ _) _ _ _
        gi_wp2
        exact hK
      case t1 =>
        intro ρ tmps v ch hT hv
        rw [be_T1]
        exact set2_den hT (by decide) (by decide) hv
      case body =>
        intro pre st o hR hO l K A Z sz
        exact be_body hg h20 hR (ord_both hN hO) l K A Z sz
      case rest =>
        intro xs st hxs hR D
        subst hxs
        have hst : st = some b := by rw [hR.1]; exact hb
        subst hst
        exact GoalL.stRetM (s := SBe1 nets b (trkO nets b) (crsO nets b) (numO nets b) (sumExt (extsOf nets b))) known mixed hS _ (be_ret nets b (trkO nets b) (crsO nets b) (numO nets b) (sumExt (extsOf nets b)))
    · have hne : ¬ firstOf [Bus.netsErr nets n, 0] = 0 := by rw [firstOf_hit _ _ hN]; exact hN
      have e : bstB nets n = (([], []), firstOf [Bus.netsErr nets n, 0]) := by unfold bstB; rw [if_neg h8, if_neg hne]
      rw [e]
      exact GoalW.full (GoalL.ret known mixed hS 7 _ (be_bad nets n hpre h8 (by simp) hne) fun T H h => h)
noncomputable def cBestB : Ctr := { f := 10, ps := [.list false (.pair (.int .i64) (.list false (.int .i64))), .int .i64], rs := [.pair (.list false (.int .i64)) (.list false (.int .i64)), .int .i64], fresh := false, pre := fun d => okBB d.1 d.2.1, fn := fun d => ((bstB d.1 d.2.1).1, ((bstB d.1 d.2.1).2, ())) }
theorem cBestB_ok : cBestB.Ok Tryz.prog := fun ⟨nets, n, _⟩ h => bestB_holds nets n h
end
end Go.Proofs.YtbldpojkpmafpaaGreatDoor

/- The runner: a slice of cells that the run has filled, and writes no more, is taken as plain data. -/
namespace Go.Proofs.YtbldpojkpmafpaaGreatDoor
open Go.RowKit Sv
section
variable {X : Ext} {P : Program} {w0 : World} {F : Env} {n : Nat} {T : Tr AV} {H : AHeap} {a : Act} {w : World} {B : Nat} {ρ ρ' : Env}
theorem Sat.freezeSlice {i s n' : Nat} {e : TypeId} {cs : List AV} {t : Ty} {xs : List t.den} {cap : Cap} (hs' : T.get s = some (.slice i 0 n' cap)) (hi : H.get i = some (.cells e cs true false false)) (hr : t.readL n' (cut cs 0 (n' * t.size)) = some xs) (hle : Nat.ble (n' * t.size) cs.length = true)
    (hs : SatX X P w0 F n T H a w) : SatX X P w0 F n (T.set s (some (.lst false t xs))) (H.drop i) a w := by
  obtain ⟨⟨ρ, hAR, hnone, hfz, hkp⟩, hb, hd⟩ := hs
  have hdrop : ∀ {ρ' : Env}, Le ρ ρ' → (∀ i, ρ' i = ρ i) → (∀ b A, ρ'.fz b = some A → (∃ e fr, w.heap[b]? = some (.cells A e fr)) ∧ ∀ k kk c, k ≠ i → H.get k = some kk → ρ k = some (b, c) → kk.isRo = true) → HDen P w0.heap.size ρ' (H.drop i) w := fun {ρ'} hl ha hf => by
    have key : ∀ k kk, (H.drop i).get k = some kk → k ≠ i ∧ H.get k = some kk := fun k kk h => by
      rw [AHeap.get_drop] at h
      split at h
      · cases h
      · rename_i h2; exact ⟨fun h => h2 h.symm, h⟩
    refine ⟨fun k kk h => ?_, fun i1 i2 k1 k2 b c1 c2 g1 g2 g3 g4 => ?_, fun k kk h => hAR.H.lt k kk (key k kk h).2, hAR.H.base, fun b A h => ⟨(hf b A h).1, fun k kk c g1 g2 => ?_⟩⟩
    · obtain ⟨b, c, o, e1, e2, e3, e4⟩ := hAR.H.blk k kk (key k kk h).2
      exact ⟨b, c, o, by rw [ha]; exact e1, e2, e3.mono hl, e4⟩
    · rw [ha] at g3 g4
      exact hAR.H.inj _ _ _ _ _ _ _ (key _ _ g1).2 (key _ _ g2).2 g3 g4
    · rw [ha] at g2
      exact (hf b A h).2 k kk c (key k kk g1).1 (key k kk g1).2 g2
  have hset : ∀ {ρ' : Env}, Le ρ ρ' → (∀ y, Den ρ (.slice i 0 n' cap) y → Den ρ' (.lst false t xs) y) → TDen ρ' (T.set s (some (.lst false t xs))) n a.tmps := fun {ρ'} hl hv => ⟨hAR.T.size, fun k => by
    rw [Tr.get_set]
    have hk := hAR.T.get k
    by_cases hks : s = k
    · subst hks
      rw [if_pos rfl]
      rw [hs'] at hk
      exact hv _ hk
    · rw [if_neg hks]; exact hk.mono hl⟩
  obtain ⟨b, c, o, hib, _, _, hB⟩ := hAR.H.blk i _ hi
  obtain ⟨zs, fz0, z1, z2, z3, z4, _, z6⟩ := cells_at hAR.H hi hib
  obtain rfl := z2 rfl
  have hlen := Nat.le_of_ble_eq_true hle
  have hcut := (z3.drop 0).take (n' * t.size)
  obtain ⟨hfd, hn⟩ := Ty.readL_den hr hcut
  have hfl := t.flat_len xs
  have hnf : ρ.fz b = none := by
    cases hz : ρ.fz b with
    | none => rfl
    | some A =>
      have := (hAR.H.fz b A hz).2 i _ c hi hib
      cases this
  clear hle
  have hle : Le ρ ⟨ρ.at', fun q => if q = b then some zs else ρ.fz q⟩ := ⟨fun _ _ h => h, fun q A h => by
    show (if q = b then some zs else ρ.fz q) = some A
    by_cases hq : q = b
    · subst hq; rw [hnf] at h; cases h
    · rw [if_neg hq]; exact h⟩
  refine ⟨⟨⟨ρ.at', fun q => if q = b then some zs else ρ.fz q⟩, ⟨hset hle fun y hy => ?_, hdrop hle (fun _ => rfl) (fun q A h => ?_), hAR.G.mono hle⟩, hnone, fun q A h => ?_, hkp.re hle (Nat.le_refl _) (fun _ hh => own_drop (fun _ => rfl) hh) fun q A h => by
    have h : (if q = b then some zs else ρ.fz q) = some A := h
    by_cases hq : q = b
    · exact .inr ⟨i, _, c, hi, rfl, hq ▸ hib⟩
    · rw [if_neg hq] at h; exact .inl h⟩, hb, hd⟩
  · obtain ⟨b', c', k, g1, _, g3, rfl⟩ := hy.slice_inv
    rw [hib] at g1
    cases g1
    subst hn
    refine .lst (A := zs) (b := b) (off := 0) (by show (if b = b then some zs else _) = _; rw [if_pos rfl]) (by rw [hfl]; omega) rfl ?_ g3 (fun e => by cases e)
    have e2 : ((zs.toList.take cs.length).drop 0).take (xs.length * t.size) = (zs.toList.drop 0).take (t.flat xs).length := by
      rw [hfl, List.drop_zero, List.drop_zero, List.take_take, Nat.min_eq_left (by omega)]
    rw [← e2]
    exact hfd.mono hle
  · have h : (if q = b then some zs else ρ.fz q) = some A := h
    by_cases hq : q = b
    · subst hq
      rw [if_pos rfl] at h
      cases h
      exact ⟨⟨_, _, z1⟩, fun k kk c' hne g1 g2 => absurd (hAR.H.inj k i kk _ q c' c g1 hi g2 hib) hne⟩
    · rw [if_neg hq] at h
      exact ⟨(hAR.H.fz q A h).1, fun k kk c _ g1 g2 => (hAR.H.fz q A h).2 k kk c g1 g2⟩
  · have h : (if q = b then some zs else ρ.fz q) = some A := h
    by_cases hq : q = b
    · subst hq; exact .inr (hB rfl)
    · rw [if_neg hq] at h; exact hfz q A h
theorem GoalL.freezeSlice {Q : Exit → Tr AV → AHeap → Prop} {l : List Code} (hl : l ≠ []) {i s n' : Nat} {e : TypeId} {cs : List AV} {t : Ty} {xs : List t.den} {cap : Cap} (hs' : T.get s = some (.slice i 0 n' cap)) (hi : H.get i = some (.cells e cs true false false)) (hr : t.readL n' (cut cs 0 (n' * t.size)) = some xs) (hle : Nat.ble (n' * t.size) cs.length = true)
    (hg : GoalLX X P w0 F n l (T.set s (some (.lst false t xs))) (H.drop i) Q) : GoalLX X P w0 F n l T H Q := by
  cases l with
  | nil => exact absurd rfl hl
  | cons c l => exact fun a w hs k => hg a w (Sat.freezeSlice hs' hi hr hle hs) k
end
end Go.Proofs.YtbldpojkpmafpaaGreatDoor
