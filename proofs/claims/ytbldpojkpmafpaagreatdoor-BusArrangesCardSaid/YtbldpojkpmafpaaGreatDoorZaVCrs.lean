/- The reference of chapter 7: all orders, by levels. -/
import Derived.Test.YtbldpojkpmafpaaGreatDoorZaVRenLaw
import Derived.Test.YtbldpojkpmafpaaGreatDoorZaVFrz2
import Derived.Test.YtbldpojkpmafpaaGreatDoorZaVRef4
import Derived.Test.YtbldpojkpmafpaaGreatDoorZaBusPairs
import Derived.Test.YtbldpojkpmafpaaGreatDoorZaBusTap1
import Derived.Deep.RegionWith
namespace Go.Proofs.YtbldpojkpmafpaaGreatDoor
open Go.RowKit Sv
set_option maxRecDepth 100000
set_option linter.unusedVariables false
noncomputable section
abbrev tLL : Ty := .list false (.int .i64)
def nilL : List (List Int) := []
abbrev llO (l : List (List Int)) : AV := .lst false (.list false (.int .i64)) l
abbrev obL (j : Nat) (l : List (List Int)) : AV := .osl 24 tLL j 0 l.length (capOf l.length)
abbrev oeL (l : List (List Int)) : Ent := .opt 24 tLL l
def ordCs : VCaller := ctrs [cIn]
def BOr : Code := (Tryz.f47.body).getD .skip
def oB : List Nat := [1, 1, 0, 1, 0, 0]
def oC : List Nat := [1, 1, 0, 1, 0, 0, 1, 0, 0]
def oI : List Nat := [1, 1, 0, 1, 0, 0, 1, 0, 0, 1, 0, 1, 0, 0]
def oJ : List Nat := [1, 1, 0, 1, 0, 0, 1, 0, 0, 1, 0, 1, 0, 0, 1, 0, 0]
def oX : List Nat := [1, 1, 0, 1, 0, 0, 1, 0, 0, 1, 0, 1, 0, 0, 1, 0, 0, 1, 0, 0]
def SOs (n : Nat) : St := { n := 46, sl := [(0, iv n), (3, .slice 64 0 1 (.known 1)), (4, iv (0 : Nat))], en := [(64, .blk (.cells 24 [.raw (.slice none 0 0)] true false false))], next := 65 }
def SOr (n : Nat) (ls : List (List Int)) (k : Nat) : St := { n := 46, sl := [(0, iv n), (3, llO ls), (4, iv k)], en := [], next := 64 }
def SOd (n : Nat) (ls : List (List Int)) (k : Nat) : St := { n := 46, sl := [(0, iv n), (3, obL 64 ls), (4, iv k)], en := [(64, oeL ls)], next := 65 }
def SOi (n : Nat) (ls : List (List Int)) (k : Nat) (nx : List (List Int)) (i : Nat) : St := { n := 46, sl := [(0, iv n), (3, llO ls), (4, iv k), (5, obL 64 nx), (6, iv i)], en := [(64, oeL nx)], next := 65 }
def SOx (n : Nat) (ls : List (List Int)) (k : Nat) (nx : List (List Int)) (i x : Nat) : St := { n := 46, sl := [(0, iv n), (3, llO ls), (4, iv k), (5, obL 64 nx), (6, iv i), (7, iv x)], en := [(64, oeL nx)], next := 65 }
theorem or_start (n : Nat)  :
    Tst.path (vrun0 Tryz.prog ordCs (fl BOr []) 3 46 [iv n]) [] (toSt Tryz.prog 46 .normal [(64, 64, none)] (SOs n)) := by
  have eTst : (Tst.path (vrun0 Tryz.prog ordCs (fl BOr []) 3 46 [iv n]) [] (toSt Tryz.prog 46 .normal [(64, 64, none)] (SOs n))) = ((((↑n : Int)) = ((↑n : Int))) ∧ ((((0 : Nat)) = ((0 : Nat))) ∧ (((1 : Nat)) = ((1 : Nat))) ∧ (Cap.known (1 : Nat)) = (Cap.known (1 : Nat))) ∧ (((0 : Int)) = ((↑(0 : Nat) : Int))) ∧ (((Value.slice none (0 : Nat) (0 : Nat)) = (Value.slice none (0 : Nat) (0 : Nat))) ∧ True) ∧ True) := by kernel_rfl
  exact eTst.mpr ⟨rfl, ⟨⟨rfl, ⟨rfl, rfl⟩⟩, ⟨rfl, ⟨⟨rfl, trivial⟩, trivial⟩⟩⟩⟩
theorem or_go (n : Nat) (ls : List (List Int)) (k : Nat) (h1 : (↑k : Int) < (↑n : Int)) :
    Tst.path (vrun Tryz.prog ordCs (fl BOr oB) 2 (SOr n ls k)) [true] (toSt Tryz.prog 46 .normal [] (SOr n ls k)) := by
  have eTst : (Tst.path (vrun Tryz.prog ordCs (fl BOr oB) 2 (SOr n ls k)) [true] (toSt Tryz.prog 46 .normal [] (SOr n ls k))) = (((decide ((↑k : Int) < (↑n : Int))) = true) ∧ (((↑n : Int)) = ((↑n : Int))) ∧ ((ls) = (ls)) ∧ (((↑k : Int)) = ((↑k : Int))) ∧ True) := by kernel_rfl
  exact eTst.mpr ⟨decide_eq_true h1, ⟨rfl, ⟨rfl, ⟨rfl, trivial⟩⟩⟩⟩
theorem or_stop (n : Nat) (ls : List (List Int)) (k : Nat) (h1 : ¬(↑k : Int) < (↑n : Int)) :
    Tst.path (vrun Tryz.prog ordCs (fl BOr oB) 2 (SOr n ls k)) [false] (toSt Tryz.prog 46 (.exit 0) [] (SOr n ls k)) := by
  have eTst : (Tst.path (vrun Tryz.prog ordCs (fl BOr oB) 2 (SOr n ls k)) [false] (toSt Tryz.prog 46 (.exit 0) [] (SOr n ls k))) = (((decide ((↑k : Int) < (↑n : Int))) = false) ∧ (((↑n : Int)) = ((↑n : Int))) ∧ ((ls) = (ls)) ∧ (((↑k : Int)) = ((↑k : Int))) ∧ True) := by kernel_rfl
  exact eTst.mpr ⟨decide_eq_false h1, ⟨rfl, ⟨rfl, ⟨rfl, trivial⟩⟩⟩⟩
theorem or_in (n : Nat) (ls : List (List Int)) (k : Nat) (h1 : (List.length nilL) = ((0 : Nat))) (h2 : (nilL) = ([])) :
    Tst.path (vrun Tryz.prog ordCs (fl BOr oC) 2 (SOr n ls k)) [] (toSt Tryz.prog 46 .normal [] (SOi n ls k nilL 0)) := by
  have eTst : (Tst.path (vrun Tryz.prog ordCs (fl BOr oC) 2 (SOr n ls k)) [] (toSt Tryz.prog 46 .normal [] (SOi n ls k nilL 0))) = ((((↑n : Int)) = ((↑n : Int))) ∧ ((ls) = (ls)) ∧ (((↑k : Int)) = ((↑k : Int))) ∧ ((List.length nilL) = ((0 : Nat))) ∧ (((0 : Int)) = ((↑(0 : Nat) : Int))) ∧ ((nilL) = ([])) ∧ True) := by kernel_rfl
  exact eTst.mpr ⟨rfl, ⟨rfl, ⟨rfl, ⟨h1, ⟨rfl, ⟨h2, trivial⟩⟩⟩⟩⟩⟩
theorem or_igo (n : Nat) (ls nx : List (List Int)) (k i : Nat) (h1 : (↑i : Int) < (↑(List.length ls) : Int)) :
    Tst.path (vrun Tryz.prog ordCs (fl BOr oI) 2 (SOi n ls k nx i)) [true] (toSt Tryz.prog 46 .normal [(64, 64, none)] (SOi n ls k nx i)) := by
  have eTst : (Tst.path (vrun Tryz.prog ordCs (fl BOr oI) 2 (SOi n ls k nx i)) [true] (toSt Tryz.prog 46 .normal [(64, 64, none)] (SOi n ls k nx i))) = (((decide ((↑i : Int) < (↑(List.length ls) : Int))) = true) ∧ (((↑n : Int)) = ((↑n : Int))) ∧ ((ls) = (ls)) ∧ (((↑k : Int)) = ((↑k : Int))) ∧ ((((0 : Nat)) = ((0 : Nat))) ∧ ((List.length nx) = (List.length nx)) ∧ (capOf (List.length nx)) = (capOf (List.length nx))) ∧ (((↑i : Int)) = ((↑i : Int))) ∧ ((fitOpt Tryz.prog none (optOwn (nat_lit 24) tLL nx) (nat_lit 24) tLL nx)) ∧ True) := by kernel_rfl
  exact eTst.mpr ⟨decide_eq_true h1, ⟨rfl, ⟨rfl, ⟨rfl, ⟨⟨rfl, ⟨rfl, rfl⟩⟩, ⟨rfl, ⟨(fitOpt_refl _ _ _ _), trivial⟩⟩⟩⟩⟩⟩⟩
theorem or_istop (n : Nat) (ls nx : List (List Int)) (k i : Nat) (h1 : ¬(↑i : Int) < (↑(List.length ls) : Int)) :
    Tst.path (vrun Tryz.prog ordCs (fl BOr oI) 2 (SOi n ls k nx i)) [false] (toSt Tryz.prog 46 (.exit 2) [(64, 64, none)] (SOi n ls k nx i)) := by
  have eTst : (Tst.path (vrun Tryz.prog ordCs (fl BOr oI) 2 (SOi n ls k nx i)) [false] (toSt Tryz.prog 46 (.exit 2) [(64, 64, none)] (SOi n ls k nx i))) = (((decide ((↑i : Int) < (↑(List.length ls) : Int))) = false) ∧ (((↑n : Int)) = ((↑n : Int))) ∧ ((ls) = (ls)) ∧ (((↑k : Int)) = ((↑k : Int))) ∧ ((((0 : Nat)) = ((0 : Nat))) ∧ ((List.length nx) = (List.length nx)) ∧ (capOf (List.length nx)) = (capOf (List.length nx))) ∧ (((↑i : Int)) = ((↑i : Int))) ∧ ((fitOpt Tryz.prog none (optOwn (nat_lit 24) tLL nx) (nat_lit 24) tLL nx)) ∧ True) := by kernel_rfl
  exact eTst.mpr ⟨decide_eq_false h1, ⟨rfl, ⟨rfl, ⟨rfl, ⟨⟨rfl, ⟨rfl, rfl⟩⟩, ⟨rfl, ⟨(fitOpt_refl _ _ _ _), trivial⟩⟩⟩⟩⟩⟩⟩
theorem or_x0 (n : Nat) (ls nx : List (List Int)) (k i : Nat)  :
    Tst.path (vrun Tryz.prog ordCs (fl BOr oJ) 1 (SOi n ls k nx i)) [] (toSt Tryz.prog 46 .normal [(64, 64, none)] (SOx n ls k nx i 0)) := by
  have eTst : (Tst.path (vrun Tryz.prog ordCs (fl BOr oJ) 1 (SOi n ls k nx i)) [] (toSt Tryz.prog 46 .normal [(64, 64, none)] (SOx n ls k nx i 0))) = ((((↑n : Int)) = ((↑n : Int))) ∧ ((ls) = (ls)) ∧ (((↑k : Int)) = ((↑k : Int))) ∧ ((((0 : Nat)) = ((0 : Nat))) ∧ ((List.length nx) = (List.length nx)) ∧ (capOf (List.length nx)) = (capOf (List.length nx))) ∧ (((↑i : Int)) = ((↑i : Int))) ∧ (((0 : Int)) = ((↑(0 : Nat) : Int))) ∧ ((fitOpt Tryz.prog none (optOwn (nat_lit 24) tLL nx) (nat_lit 24) tLL nx)) ∧ True) := by kernel_rfl
  exact eTst.mpr ⟨rfl, ⟨rfl, ⟨rfl, ⟨⟨rfl, ⟨rfl, rfl⟩⟩, ⟨rfl, ⟨rfl, ⟨(fitOpt_refl _ _ _ _), trivial⟩⟩⟩⟩⟩⟩⟩
theorem or_xadd0 (n : Nat) (ls nx : List (List Int)) (k i x : Nat) (h1 : (↑x : Int) < (↑n : Int)) (h2 : i < List.length ls) (h3 : List.length (List.getD ls i []) ≤ (1000000 : Nat)) (h4 : ¬(↑x : Int) ∈ List.getD ls i []) (h5 : List.length (List.getD ls i []) = (0 : Nat)) (h6 : (1 : Nat) ≤ 1000000) (h7 : (1 : Nat) = List.length (blkXs (Ty.int IntKind.i64) none ++ [(↑x : Int)])) (h8 : List.length nx + (1 : Nat) ≤ 1000000) (h9 : -9223372036854775808 ≤ (↑x : Int) + (1 : Int) ∧ (↑x : Int) + (1 : Int) ≤ 9223372036854775807) (h10 : (List.length nx + (1 : Nat)) = (List.length (nx ++ [[(↑x : Int)]]))) (h11 : (Cap.full) = (capOf (List.length (nx ++ [[(↑x : Int)]])))) (h12 : (nx ++ [blkXs (Ty.int IntKind.i64) none ++ [(↑x : Int)]]) = (nx ++ [[(↑x : Int)]])) :
    Tst.path (vall Tryz.prog ordCs (fl BOr oX) (SOx n ls k nx i x)) [true, true, true, false, false] (toSt Tryz.prog 46 .normal [(64, 70, none)] (SOx n ls k (nx ++ [[(x : Int)]]) i (x + 1))) := by
  have eTst : (Tst.path (vall Tryz.prog ordCs (fl BOr oX) (SOx n ls k nx i x)) [true, true, true, false, false] (toSt Tryz.prog 46 .normal [(64, 70, none)] (SOx n ls k (nx ++ [[(x : Int)]]) i (x + 1)))) = (((decide ((↑x : Int) < (↑n : Int))) = true) ∧ ((decide ((0 : Int) ≤ (↑i : Int))) = true) ∧ ((decide (i < List.length ls)) = true) ∧ ((decide (List.length (List.getD ls i []) ≤ (1000000 : Nat))) = true) ∧ ((!decide ((↑x : Int) ∈ List.getD ls i [])) = true) ∧ ((decide ((0 : Int) ≤ (↑i : Int))) = true) ∧ ((decide (i < List.length ls)) = true) ∧ ((Nat.beq (0 : Nat) (0 : Nat)) = true) ∧ ((Nat.beq (List.length (List.getD ls i [])) (0 : Nat)) = true) ∧ ((Nat.beq (0 : Nat) (0 : Nat)) = true) ∧ ((Nat.beq (1 : Nat) (0 : Nat)) = false) ∧ ((true) = true) ∧ ((bounded ((0 : Nat) + (1 : Nat)) (8 : Nat)) = true) ∧ ((Nat.beq ((0 : Nat) + (1 : Nat)) (List.length (blkXs (Ty.int IntKind.i64) none ++ [(↑x : Int)]))) = true) ∧ ((Nat.beq (0 : Nat) (0 : Nat)) = true) ∧ ((Nat.beq (1 : Nat) (0 : Nat)) = false) ∧ ((blkIs (24 : TypeId) tLL (optOwn (nat_lit 24) tLL nx) (List.length nx) (capOf (List.length nx))) = true) ∧ ((bounded (List.length nx + (1 : Nat)) (24 : Nat)) = true) ∧ ((fits IntKind.i64 ((↑x : Int) + (1 : Int))) = true) ∧ (((↑n : Int)) = ((↑n : Int))) ∧ ((ls) = (ls)) ∧ (((↑k : Int)) = ((↑k : Int))) ∧ ((((0 : Nat)) = ((0 : Nat))) ∧ ((List.length nx + (1 : Nat)) = (List.length (nx ++ [[(↑x : Int)]]))) ∧ (Cap.full) = (capOf (List.length (nx ++ [[(↑x : Int)]])))) ∧ (((↑i : Int)) = ((↑i : Int))) ∧ (((↑x : Int) + (1 : Int)) = ((↑(x + (1 : Nat)) : Int))) ∧ ((blkXs tLL (optOwn (nat_lit 24) tLL nx) ++ [blkXs (Ty.int IntKind.i64) none ++ [(↑x : Int)]]) = (nx ++ [[(↑x : Int)]])) ∧ True) := by kernel_rfl
  exact eTst.mpr ⟨decide_eq_true h1, ⟨decide_eq_true (by omega), ⟨decide_eq_true h2, ⟨decide_eq_true h3, ⟨congrArg (fun y => !y) (show (decide ((↑x : Int) ∈ List.getD ls i [])) = false from decide_eq_false h4), ⟨decide_eq_true (by omega), ⟨decide_eq_true h2, ⟨rfl, ⟨beq_of h5, ⟨rfl, ⟨rfl, ⟨rfl, ⟨(by simp only [Nat.zero_add] <;> exact (show (bounded (1 : Nat) (8 : Nat)) = true from bounded_of h6 (by omega))), ⟨(by simp only [Nat.zero_add] <;> exact (show (Nat.beq (1 : Nat) (List.length (blkXs (Ty.int IntKind.i64) none ++ [(↑x : Int)]))) = true from beq_of h7)), ⟨rfl, ⟨rfl, ⟨(blkIs_optOwn _ _ _), ⟨bounded_of h8 (by omega), ⟨fits_i64 h9, ⟨rfl, ⟨rfl, ⟨rfl, ⟨⟨rfl, ⟨h10, h11⟩⟩, ⟨rfl, ⟨(by omega), ⟨(by simp only [blkXs_optOwn] <;> exact h12), trivial⟩⟩⟩⟩⟩⟩⟩⟩⟩⟩⟩⟩⟩⟩⟩⟩⟩⟩⟩⟩⟩⟩⟩⟩⟩⟩
theorem or_xadd (n : Nat) (ls nx : List (List Int)) (k i x : Nat) (h1 : (↑x : Int) < (↑n : Int)) (h2 : i < List.length ls) (h3 : List.length (List.getD ls i []) ≤ (1000000 : Nat)) (h4 : ¬(↑x : Int) ∈ List.getD ls i []) (h5 : (Nat.beq (List.length (List.getD ls i [])) (0 : Nat)) = false) (h6 : List.length (List.getD ls i []) ≤ 1000000) (h7 : (blkIs (3 : Nat) (Ty.int IntKind.i64) (some (ABlk.own (3 : Nat) (Ty.int IntKind.i64) (blkXs (Ty.int IntKind.i64) none ++ List.getD ls i []))) (List.length (List.getD ls i [])) Cap.full) = true) (h8 : List.length (List.getD ls i []) + (1 : Nat) ≤ 1000000) (h9 : List.length (List.getD ls i []) + (1 : Nat) = List.length (blkXs (Ty.int IntKind.i64) none ++ List.getD ls i [] ++ [(↑x : Int)])) (h10 : List.length nx + (1 : Nat) ≤ 1000000) (h11 : -9223372036854775808 ≤ (↑x : Int) + (1 : Int) ∧ (↑x : Int) + (1 : Int) ≤ 9223372036854775807) (h12 : (List.length nx + (1 : Nat)) = (List.length (nx ++ [List.getD ls i [] ++ [(↑x : Int)]]))) (h13 : (Cap.full) = (capOf (List.length (nx ++ [List.getD ls i [] ++ [(↑x : Int)]])))) (h14 : (nx ++ [blkXs (Ty.int IntKind.i64) none ++ List.getD ls i [] ++ [(↑x : Int)]]) = (nx ++ [List.getD ls i [] ++ [(↑x : Int)]])) :
    Tst.path (vall Tryz.prog ordCs (fl BOr oX) (SOx n ls k nx i x)) [true, true, false, false, false] (toSt Tryz.prog 46 .normal [(64, 70, none)] (SOx n ls k (nx ++ [ls.getD i [] ++ [(x : Int)]]) i (x + 1))) := by
  have eTst : (Tst.path (vall Tryz.prog ordCs (fl BOr oX) (SOx n ls k nx i x)) [true, true, false, false, false] (toSt Tryz.prog 46 .normal [(64, 70, none)] (SOx n ls k (nx ++ [ls.getD i [] ++ [(x : Int)]]) i (x + 1)))) = (((decide ((↑x : Int) < (↑n : Int))) = true) ∧ ((decide ((0 : Int) ≤ (↑i : Int))) = true) ∧ ((decide (i < List.length ls)) = true) ∧ ((decide (List.length (List.getD ls i []) ≤ (1000000 : Nat))) = true) ∧ ((!decide ((↑x : Int) ∈ List.getD ls i [])) = true) ∧ ((decide ((0 : Int) ≤ (↑i : Int))) = true) ∧ ((decide (i < List.length ls)) = true) ∧ ((Nat.beq (0 : Nat) (0 : Nat)) = true) ∧ ((Nat.beq (List.length (List.getD ls i [])) (0 : Nat)) = false) ∧ ((true) = true) ∧ ((bounded ((0 : Nat) + List.length (List.getD ls i [])) (8 : Nat)) = true) ∧ ((Nat.beq (0 : Nat) (0 : Nat)) = true) ∧ ((Nat.beq (1 : Nat) (0 : Nat)) = false) ∧ ((blkIs (3 : Nat) (Ty.int IntKind.i64) (some (ABlk.own (3 : Nat) (Ty.int IntKind.i64) (blkXs (Ty.int IntKind.i64) none ++ List.getD ls i []))) ((0 : Nat) + List.length (List.getD ls i [])) Cap.full) = true) ∧ ((bounded ((0 : Nat) + List.length (List.getD ls i []) + (1 : Nat)) (8 : Nat)) = true) ∧ ((Nat.beq ((0 : Nat) + List.length (List.getD ls i []) + (1 : Nat)) (List.length (blkXs (Ty.int IntKind.i64) none ++ List.getD ls i [] ++ [(↑x : Int)]))) = true) ∧ ((Nat.beq (0 : Nat) (0 : Nat)) = true) ∧ ((Nat.beq (1 : Nat) (0 : Nat)) = false) ∧ ((blkIs (24 : TypeId) tLL (optOwn (nat_lit 24) tLL nx) (List.length nx) (capOf (List.length nx))) = true) ∧ ((bounded (List.length nx + (1 : Nat)) (24 : Nat)) = true) ∧ ((fits IntKind.i64 ((↑x : Int) + (1 : Int))) = true) ∧ (((↑n : Int)) = ((↑n : Int))) ∧ ((ls) = (ls)) ∧ (((↑k : Int)) = ((↑k : Int))) ∧ ((((0 : Nat)) = ((0 : Nat))) ∧ ((List.length nx + (1 : Nat)) = (List.length (nx ++ [List.getD ls i [] ++ [(↑x : Int)]]))) ∧ (Cap.full) = (capOf (List.length (nx ++ [List.getD ls i [] ++ [(↑x : Int)]])))) ∧ (((↑i : Int)) = ((↑i : Int))) ∧ (((↑x : Int) + (1 : Int)) = ((↑(x + (1 : Nat)) : Int))) ∧ ((blkXs tLL (optOwn (nat_lit 24) tLL nx) ++ [blkXs (Ty.int IntKind.i64) none ++ List.getD ls i [] ++ [(↑x : Int)]]) = (nx ++ [List.getD ls i [] ++ [(↑x : Int)]])) ∧ True) := by kernel_rfl
  exact eTst.mpr ⟨decide_eq_true h1, ⟨decide_eq_true (by omega), ⟨decide_eq_true h2, ⟨decide_eq_true h3, ⟨congrArg (fun y => !y) (show (decide ((↑x : Int) ∈ List.getD ls i [])) = false from decide_eq_false h4), ⟨decide_eq_true (by omega), ⟨decide_eq_true h2, ⟨rfl, ⟨h5, ⟨rfl, ⟨(by simp only [Nat.zero_add] <;> exact (show (bounded (List.length (List.getD ls i [])) (8 : Nat)) = true from bounded_of h6 (by omega))), ⟨rfl, ⟨rfl, ⟨(by simp only [Nat.zero_add] <;> exact (show (blkIs (3 : Nat) (Ty.int IntKind.i64) (some (ABlk.own (3 : Nat) (Ty.int IntKind.i64) (blkXs (Ty.int IntKind.i64) none ++ List.getD ls i []))) (List.length (List.getD ls i [])) Cap.full) = true from h7)), ⟨(by simp only [Nat.zero_add] <;> exact (show (bounded (List.length (List.getD ls i []) + (1 : Nat)) (8 : Nat)) = true from bounded_of h8 (by omega))), ⟨(by simp only [Nat.zero_add] <;> exact (show (Nat.beq (List.length (List.getD ls i []) + (1 : Nat)) (List.length (blkXs (Ty.int IntKind.i64) none ++ List.getD ls i [] ++ [(↑x : Int)]))) = true from beq_of h9)), ⟨rfl, ⟨rfl, ⟨(blkIs_optOwn _ _ _), ⟨bounded_of h10 (by omega), ⟨fits_i64 h11, ⟨rfl, ⟨rfl, ⟨rfl, ⟨⟨rfl, ⟨h12, h13⟩⟩, ⟨rfl, ⟨(by omega), ⟨(by simp only [blkXs_optOwn] <;> exact h14), trivial⟩⟩⟩⟩⟩⟩⟩⟩⟩⟩⟩⟩⟩⟩⟩⟩⟩⟩⟩⟩⟩⟩⟩⟩⟩⟩⟩⟩
theorem or_xhit (n : Nat) (ls nx : List (List Int)) (k i x : Nat) (h1 : (↑x : Int) < (↑n : Int)) (h2 : i < List.length ls) (h3 : List.length (List.getD ls i []) ≤ (1000000 : Nat)) (h4 : (↑x : Int) ∈ List.getD ls i []) (h5 : -9223372036854775808 ≤ (↑x : Int) + (1 : Int) ∧ (↑x : Int) + (1 : Int) ≤ 9223372036854775807) :
    Tst.path (vall Tryz.prog ordCs (fl BOr oX) (SOx n ls k nx i x)) [true, false] (toSt Tryz.prog 46 .normal [(64, 64, none)] (SOx n ls k nx i (x + 1))) := by
  have eTst : (Tst.path (vall Tryz.prog ordCs (fl BOr oX) (SOx n ls k nx i x)) [true, false] (toSt Tryz.prog 46 .normal [(64, 64, none)] (SOx n ls k nx i (x + 1)))) = (((decide ((↑x : Int) < (↑n : Int))) = true) ∧ ((decide ((0 : Int) ≤ (↑i : Int))) = true) ∧ ((decide (i < List.length ls)) = true) ∧ ((decide (List.length (List.getD ls i []) ≤ (1000000 : Nat))) = true) ∧ ((!decide ((↑x : Int) ∈ List.getD ls i [])) = false) ∧ ((fits IntKind.i64 ((↑x : Int) + (1 : Int))) = true) ∧ (((↑n : Int)) = ((↑n : Int))) ∧ ((ls) = (ls)) ∧ (((↑k : Int)) = ((↑k : Int))) ∧ ((((0 : Nat)) = ((0 : Nat))) ∧ ((List.length nx) = (List.length nx)) ∧ (capOf (List.length nx)) = (capOf (List.length nx))) ∧ (((↑i : Int)) = ((↑i : Int))) ∧ (((↑x : Int) + (1 : Int)) = ((↑(x + (1 : Nat)) : Int))) ∧ ((fitOpt Tryz.prog none (optOwn (nat_lit 24) tLL nx) (nat_lit 24) tLL nx)) ∧ True) := by kernel_rfl
  exact eTst.mpr ⟨decide_eq_true h1, ⟨decide_eq_true (by omega), ⟨decide_eq_true h2, ⟨decide_eq_true h3, ⟨congrArg (fun y => !y) (show (decide ((↑x : Int) ∈ List.getD ls i [])) = true from decide_eq_true h4), ⟨fits_i64 h5, ⟨rfl, ⟨rfl, ⟨rfl, ⟨⟨rfl, ⟨rfl, rfl⟩⟩, ⟨rfl, ⟨(by omega), ⟨(fitOpt_refl _ _ _ _), trivial⟩⟩⟩⟩⟩⟩⟩⟩⟩⟩⟩⟩⟩
theorem or_xstop (n : Nat) (ls nx : List (List Int)) (k i x : Nat) (h1 : ¬(↑x : Int) < (↑n : Int)) :
    Tst.path (vall Tryz.prog ordCs (fl BOr oX) (SOx n ls k nx i x)) [false] (toSt Tryz.prog 46 (.exit 4) [(64, 64, none)] (SOx n ls k nx i x)) := by
  have eTst : (Tst.path (vall Tryz.prog ordCs (fl BOr oX) (SOx n ls k nx i x)) [false] (toSt Tryz.prog 46 (.exit 4) [(64, 64, none)] (SOx n ls k nx i x))) = (((decide ((↑x : Int) < (↑n : Int))) = false) ∧ (((↑n : Int)) = ((↑n : Int))) ∧ ((ls) = (ls)) ∧ (((↑k : Int)) = ((↑k : Int))) ∧ ((((0 : Nat)) = ((0 : Nat))) ∧ ((List.length nx) = (List.length nx)) ∧ (capOf (List.length nx)) = (capOf (List.length nx))) ∧ (((↑i : Int)) = ((↑i : Int))) ∧ (((↑x : Int)) = ((↑x : Int))) ∧ ((fitOpt Tryz.prog none (optOwn (nat_lit 24) tLL nx) (nat_lit 24) tLL nx)) ∧ True) := by kernel_rfl
  exact eTst.mpr ⟨decide_eq_false h1, ⟨rfl, ⟨rfl, ⟨rfl, ⟨⟨rfl, ⟨rfl, rfl⟩⟩, ⟨rfl, ⟨rfl, ⟨(fitOpt_refl _ _ _ _), trivial⟩⟩⟩⟩⟩⟩⟩⟩
theorem or_inext (n : Nat) (ls nx : List (List Int)) (k i x : Nat) (h1 : -9223372036854775808 ≤ (↑i : Int) + (1 : Int) ∧ (↑i : Int) + (1 : Int) ≤ 9223372036854775807) :
    Tst.path (vall Tryz.prog ordCs (List.drop 3 (fl BOr oI)) (SOx n ls k nx i x)) [] (toSt Tryz.prog 46 .normal [(64, 64, none)] (SOi n ls k nx (i + 1))) := by
  have eTst : (Tst.path (vall Tryz.prog ordCs (List.drop 3 (fl BOr oI)) (SOx n ls k nx i x)) [] (toSt Tryz.prog 46 .normal [(64, 64, none)] (SOi n ls k nx (i + 1)))) = (((fits IntKind.i64 ((↑i : Int) + (1 : Int))) = true) ∧ (((↑n : Int)) = ((↑n : Int))) ∧ ((ls) = (ls)) ∧ (((↑k : Int)) = ((↑k : Int))) ∧ ((((0 : Nat)) = ((0 : Nat))) ∧ ((List.length nx) = (List.length nx)) ∧ (capOf (List.length nx)) = (capOf (List.length nx))) ∧ (((↑i : Int) + (1 : Int)) = ((↑(i + (1 : Nat)) : Int))) ∧ ((fitOpt Tryz.prog none (optOwn (nat_lit 24) tLL nx) (nat_lit 24) tLL nx)) ∧ True) := by kernel_rfl
  exact eTst.mpr ⟨fits_i64 h1, ⟨rfl, ⟨rfl, ⟨rfl, ⟨⟨rfl, ⟨rfl, rfl⟩⟩, ⟨(by omega), ⟨(fitOpt_refl _ _ _ _), trivial⟩⟩⟩⟩⟩⟩⟩
theorem or_done (n : Nat) (ls nx : List (List Int)) (k i : Nat)  :
    Tst.path (vall Tryz.prog ordCs (List.drop 3 (fl BOr oC)) (SOi n ls k nx i)) [] (toSt Tryz.prog 46 .normal [(64, 64, none)] (SOd n nx k)) := by
  have eTst : (Tst.path (vall Tryz.prog ordCs (List.drop 3 (fl BOr oC)) (SOi n ls k nx i)) [] (toSt Tryz.prog 46 .normal [(64, 64, none)] (SOd n nx k))) = ((((↑n : Int)) = ((↑n : Int))) ∧ ((((0 : Nat)) = ((0 : Nat))) ∧ ((List.length nx) = (List.length nx)) ∧ (capOf (List.length nx)) = (capOf (List.length nx))) ∧ (((↑k : Int)) = ((↑k : Int))) ∧ ((fitOpt Tryz.prog none (optOwn (nat_lit 24) tLL nx) (nat_lit 24) tLL nx)) ∧ True) := by kernel_rfl
  exact eTst.mpr ⟨rfl, ⟨⟨rfl, ⟨rfl, rfl⟩⟩, ⟨rfl, ⟨(fitOpt_refl _ _ _ _), trivial⟩⟩⟩⟩
theorem or_next (n : Nat) (ls : List (List Int)) (k : Nat) (h1 : -9223372036854775808 ≤ (↑k : Int) + (1 : Int) ∧ (↑k : Int) + (1 : Int) ≤ 9223372036854775807) :
    Tst.path (vall Tryz.prog ordCs (List.drop 3 (fl BOr oB)) (SOr n ls k)) [] (toSt Tryz.prog 46 .normal [] (SOr n ls (k + 1))) := by
  have eTst : (Tst.path (vall Tryz.prog ordCs (List.drop 3 (fl BOr oB)) (SOr n ls k)) [] (toSt Tryz.prog 46 .normal [] (SOr n ls (k + 1)))) = (((fits IntKind.i64 ((↑k : Int) + (1 : Int))) = true) ∧ (((↑n : Int)) = ((↑n : Int))) ∧ ((ls) = (ls)) ∧ (((↑k : Int) + (1 : Int)) = ((↑(k + (1 : Nat)) : Int))) ∧ True) := by kernel_rfl
  exact eTst.mpr ⟨fits_i64 h1, ⟨rfl, ⟨rfl, ⟨(by omega), trivial⟩⟩⟩⟩
theorem or_ret (n : Nat) (ls : List (List Int)) (k : Nat)  :
    Tst.path (vall Tryz.prog ordCs (List.drop 4 (fl BOr [])) (SOr n ls k)) [] (toRet Tryz.prog Tryz.f47 false (llO ls)) := by
  have eTst : (Tst.path (vall Tryz.prog ordCs (List.drop 4 (fl BOr [])) (SOr n ls k)) [] (toRet Tryz.prog Tryz.f47 false (llO ls))) = ((ls) = (ls)) := by kernel_rfl
  exact eTst.mpr rfl
theorem moreTo_len (l : List Int) : ∀ k, (moreTo l k).length ≤ k
  | 0 => by simp [moreTo]
  | k + 1 => by
    have := moreTo_len l k
    rw [moreTo_next]
    split <;> simp <;> omega
theorem nextTo_len (n : Nat) (ls : List (List Int)) : ∀ i, i ≤ ls.length → (nextTo n ls i).length ≤ i * n
  | 0, _ => by simp [nextTo]
  | i + 1, h => by
    have h1 := nextTo_len n ls i (by omega)
    have h2 := moreTo_len ls[i] n
    rw [nextTo_next n ls i ls[i] (List.getElem?_eq_getElem h), List.length_append, Nat.add_mul, Nat.one_mul]
    omega
theorem level_len (n : Nat) : ∀ k, (level n k).length ≤ n ^ k
  | 0 => by simp [level]
  | k + 1 => by
    have h1 := nextTo_len n (level n k) (level n k).length (Nat.le_refl _)
    have h2 := Nat.mul_le_mul_right n (level_len n k)
    show (nextTo n (level n k) (level n k).length).length ≤ _
    rw [Nat.pow_succ]; omega
theorem level_mem (n : Nat) : ∀ k, ∀ l ∈ level n k, l.length = k
  | 0, l, h => by
    have h : l ∈ [[]] := h
    rw [List.mem_singleton.1 h]; rfl
  | k + 1, l, h => by
    have h : l ∈ nextTo n (level n k) (level n k).length := h
    unfold nextTo at h
    obtain ⟨p, hp, h⟩ := List.mem_flatMap.1 h
    have hp := level_mem n k p (List.mem_of_mem_take hp)
    unfold moreTo at h
    obtain ⟨x, _, h⟩ := List.mem_flatMap.1 h
    split at h
    · cases h
    · rw [List.mem_singleton.1 h]; simp [hp]
theorem ord_ok : CallOk Tryz.prog (gS ordCs) := one_ok cIn_ok
theorem fit_or0 (n : Nat) : fit Tryz.prog [] 46 ((SOs n).T.set 3 (some (llO [[]]))) ((SOs n).H.drop 64) (SOr n [[]] 0) := by
  have e : fit Tryz.prog [] 46 ((SOs n).T.set 3 (some (llO [[]]))) ((SOs n).H.drop 64) (SOr n [[]] 0) = (((n : Int) = (n : Int)) ∧ (([[]] : List (List Int)) = [[]]) ∧ ((0 : Int) = ((0 : Nat) : Int)) ∧ True) := by kernel_rfl
  exact e.mpr ⟨rfl, rfl, rfl, trivial⟩
theorem fit_orN (n : Nat) (nx : List (List Int)) (k : Nat) : fit Tryz.prog [] 46 ((SOd n nx k).T.set 3 (some (llO nx))) ((SOd n nx k).H.drop 64) (SOr n nx k) := by
  have e : fit Tryz.prog [] 46 ((SOd n nx k).T.set 3 (some (llO nx))) ((SOd n nx k).H.drop 64) (SOr n nx k) = (((n : Int) = (n : Int)) ∧ (nx = nx) ∧ ((k : Int) = (k : Int)) ∧ True) := by kernel_rfl
  exact e.mpr ⟨rfl, rfl, rfl, trivial⟩
theorem oJ_end : List.drop 2 (fl BOr oJ) = [] := by kernel_rfl
theorem oB_ne : List.drop 3 (fl BOr oB) ≠ [] := fun h => by
  have : (List.drop 3 (fl BOr oB)).isEmpty = false := by kernel_rfl
  rw [h] at this; cases this
theorem o0_ne : List.drop 3 (fl BOr []) ≠ [] := fun h => by
  have : (List.drop 3 (fl BOr [])).isEmpty = false := by kernel_rfl
  rw [h] at this; cases this
theorem getL {ls : List (List Int)} {i : Nat} (h : i < ls.length) : ls[i]? = some (ls.getD i []) := by simp [List.getD_eq_getElem?_getD, h]
theorem len_sn {α : Type} (l : List α) (x : α) : l.length + 1 = (l ++ [x]).length := by simp
theorem blk_is (l : List Int) : blkIs 3 (Ty.int IntKind.i64) (some (ABlk.own 3 (Ty.int IntKind.i64) (blkXs (Ty.int IntKind.i64) none ++ l))) l.length Cap.full = true := by
  show (Nat.beq 3 3 && (decide (Ty.int IntKind.i64 = Ty.int IntKind.i64) && (Nat.beq l.length l.length && true))) = true
  rw [Nat.beq_refl, Nat.beq_refl, decide_eq_true rfl]; rfl
theorem orders_holds (n : Nat) (hn : n ≤ 5) : Holds Tryz.prog false 47 [iv n] (llO (level n n)) := by
  have hS := ord_ok
  have hpow : ∀ k, k ≤ n → n ^ k ≤ 3125 := fun k hk => Nat.le_trans (Nat.pow_le_pow_left hn k) (Nat.pow_le_pow_right (by omega) (show k ≤ 5 by omega))
  refine holds_fl (c := BOr) Tryz.func47 rfl rfl fun w F => ?_
  refine GoalL.to known mixed hS 3 _ (or_start n) (by kernel_rfl) ?_
  refine GoalL.freezeSlice o0_ne (i := 64) (s := 3) (n' := 1) (t := .list false (.int .i64)) (xs := [[]]) (cap := .known 1) (cs := [.raw (.slice none 0 0)]) (e := 24) (by kernel_rfl) (by kernel_rfl) (by kernel_rfl) (by kernel_rfl) ?_
  refine GoalL.refit o0_ne (s := SOr n [[]] 0) (fit_or0 n) ?_
  refine GoalL.loop (ι := { k : Nat // k ≤ n }) (id := 0) (b := cat BOr oB) (rest := List.drop 4 (fl BOr [])) (by kernel_rfl) (fun k => SOr n (level n k.1) k.1) (fun k => n - k.1) ⟨0, Nat.zero_le _⟩ (fun _ => rfl) ?_
  rintro ⟨k, hk⟩
  by_cases hlt : k < n
  · refine GoalL.st (s := SOr n (level n k) k) known mixed hS 2 _ (or_go n _ k (by omega)) (by kernel_rfl) ?_
    refine goalL_blk (id := 1) (c := cat BOr oC) (rest := List.drop 3 (fl BOr oB)) (by kernel_rfl) ?_
    have hll := Nat.le_trans (level_len n k) (hpow k hk)
    refine GoalL.st (s := SOr n (level n k) k) known mixed hS 2 _ (or_in n (level n k) k rfl rfl) (by kernel_rfl) ?_
    refine GoalL.loop (ι := { i : Nat // i ≤ (level n k).length }) (id := 2) (b := cat BOr oI) (rest := List.drop 3 (fl BOr oC)) (by kernel_rfl) (fun i => SOi n (level n k) k (nextTo n (level n k) i.1) i.1) (fun i => (level n k).length - i.1) ⟨0, Nat.zero_le _⟩ (fun _ => rfl) ?_
    rintro ⟨i, hi⟩
    have hnl := nextTo_len n (level n k) i hi
    have hnm : i * n ≤ 3125 * 5 := Nat.mul_le_mul (by omega) hn
    by_cases hli : i < (level n k).length
    · have hmem := level_mem n k _ (List.getElem_mem hli)
      have hgl : ((level n k).getD i []).length = k := by rw [List.getD_eq_getElem?_getD, List.getElem?_eq_getElem hli]; exact hmem
      refine GoalL.st (s := SOi n (level n k) k (nextTo n (level n k) i) i) known mixed hS 2 _ (or_igo n _ _ k i (by omega)) (by kernel_rfl) ?_
      refine goalL_blk (id := 3) (c := cat BOr oJ) (rest := List.drop 3 (fl BOr oI)) (by kernel_rfl) ?_
      refine GoalL.st (s := SOi n (level n k) k (nextTo n (level n k) i) i) known mixed hS 1 _ (or_x0 n _ _ k i) (by kernel_rfl) ?_
      have e0 : nextTo n (level n k) i = nextTo n (level n k) i ++ moreTo ((level n k).getD i []) 0 := by simp [moreTo]
      rw [e0]
      refine GoalL.loop (ι := { x : Nat // x ≤ n }) (id := 4) (b := cat BOr oX) (rest := List.drop 2 (fl BOr oJ)) (by kernel_rfl) (fun x => SOx n (level n k) k (nextTo n (level n k) i ++ moreTo ((level n k).getD i []) x.1) i x.1) (fun x => n - x.1) ⟨0, Nat.zero_le _⟩ (fun _ => rfl) ?_
      rintro ⟨x, hx⟩
      have hml := moreTo_len ((level n k).getD i []) x
      have hal : (nextTo n (level n k) i ++ moreTo ((level n k).getD i []) x).length ≤ 20000 := by rw [List.length_append]; omega
      have hmn := moreTo_next ((level n k).getD i []) x
      by_cases hlx : x < n
      · by_cases hin : (x : Int) ∈ (level n k).getD i []
        · rw [if_pos hin, List.append_nil] at hmn
          refine GoalL.all (s := SOx n (level n k) k (nextTo n (level n k) i ++ moreTo ((level n k).getD i []) x) i x) known mixed hS _ (or_xhit n _ _ k i x (by omega) hli (by omega) hin (by omega)) (by kernel_rfl) ?_
          exact ⟨⟨x + 1, by omega⟩, by simp; omega, by rw [hmn], by rw [hmn]⟩
        · rw [if_neg hin] at hmn
          by_cases hk0 : k = 0
          · have hnil : (level n k).getD i [] = [] := List.eq_nil_of_length_eq_zero (by omega)
            refine GoalL.all (s := SOx n (level n k) k (nextTo n (level n k) i ++ moreTo ((level n k).getD i []) x) i x) known mixed hS _ (or_xadd0 n _ _ k i x (by omega) hli (by omega) hin (by omega) (by omega) rfl (by omega) (by omega) (len_sn _ _) (by simp [capOf]) rfl) (by kernel_rfl) ?_
            rw [hnil, List.nil_append] at hmn
            exact ⟨⟨x + 1, by omega⟩, by simp; omega, by rw [hnil, hmn, List.append_assoc], by rw [hnil, hmn, List.append_assoc]⟩
          · refine GoalL.all (s := SOx n (level n k) k (nextTo n (level n k) i ++ moreTo ((level n k).getD i []) x) i x) known mixed hS _ (or_xadd n _ _ k i x (by omega) hli (by omega) hin (by cases hh : Nat.beq ((level n k).getD i []).length 0 with | true => exact absurd (Nat.eq_of_beq_eq_true hh) (by omega) | false => rfl) (by omega) (blk_is _) (by omega) (by show _ = ((level n k).getD i [] ++ [(x : Int)]).length; simp) (by omega) (by omega) (len_sn _ _) (by simp [capOf]) rfl) (by kernel_rfl) ?_
            exact ⟨⟨x + 1, by omega⟩, by simp; omega, by rw [hmn, List.append_assoc], by rw [hmn, List.append_assoc]⟩
      · refine GoalL.all (s := SOx n (level n k) k (nextTo n (level n k) i ++ moreTo ((level n k).getD i []) x) i x) known mixed hS _ (or_xstop n _ _ k i x (by omega)) (by kernel_rfl) ?_
        refine onN_exit (inB_exit ?_)
        refine goalL_nil oJ_end ?_
        obtain rfl : x = n := by omega
        refine GoalL.all (s := SOx x (level x k) k (nextTo x (level x k) i ++ moreTo ((level x k).getD i []) x) i x) known mixed hS _ (or_inext x _ _ k i _ (by omega)) (by kernel_rfl) ?_
        have en := nextTo_next x (level x k) i _ (getL hli)
        exact ⟨⟨i + 1, by omega⟩, by simp; omega, by rw [en], by rw [en]⟩
    · refine GoalL.st (s := SOi n (level n k) k (nextTo n (level n k) i) i) known mixed hS 2 _ (or_istop n _ _ k i (by omega)) (by kernel_rfl) ?_
      refine onN_exit (onN_exit (inB_exit ?_))
      obtain rfl : i = (level n k).length := by omega
      refine GoalL.all (s := SOi n (level n k) k (nextTo n (level n k) (level n k).length) (level n k).length) known mixed hS _ (or_done n _ _ k _) (by kernel_rfl) ?_
      refine GoalL.freezeSlot oB_ne (i := 64) (s := 3) (e2 := 24) (t := tLL) (xs := nextTo n (level n k) (level n k).length) (cap := capOf (nextTo n (level n k) (level n k).length).length) (by kernel_rfl) (by kernel_rfl) ?_
      refine GoalL.refit oB_ne (s := SOr n (nextTo n (level n k) (level n k).length) k) (fit_orN n _ k) ?_
      refine GoalL.all (s := SOr n (nextTo n (level n k) (level n k).length) k) known mixed hS _ (or_next n _ k (by omega)) (by kernel_rfl) ?_
      exact ⟨⟨k + 1, by omega⟩, by simp; omega, rfl, rfl⟩
  · refine GoalL.st (s := SOr n (level n k) k) known mixed hS 2 _ (or_stop n _ k (by omega)) (by kernel_rfl) ?_
    refine onN_exit (onN_exit (inB_exit ?_))
    obtain rfl : k = n := by omega
    exact GoalL.allRet (s := SOr k (level k k) k) known mixed hS _ (or_ret k _ k) fun T H h => h
noncomputable def cOrders : Ctr := { f := 47, ps := [.int .i64], rs := [.list false (.list false (.int .i64))], fresh := false, pre := fun d => decide (0 ≤ d.1) && decide (d.1 ≤ 5), fn := fun d => (level (Int.toNat d.1) (Int.toNat d.1), ()) }
theorem orders_ctr (x : Int) (h1 : 0 ≤ x) (h2 : x ≤ 5) : Holds Tryz.prog false 47 [iv x] (llO (level x.toNat x.toNat)) := by
  have := orders_holds x.toNat (by omega)
  rw [show ((x.toNat : Nat) : Int) = x by omega] at this
  exact this
theorem cOrders_ok : cOrders.Ok Tryz.prog := fun ⟨x, _⟩ h => by
  obtain ⟨h1, h2⟩ := Bool.and_eq_true_iff.1 h
  exact orders_ctr x (of_decide_eq_true h1) (of_decide_eq_true h2)
end
end Go.Proofs.YtbldpojkpmafpaaGreatDoor

/- Arguments that lie in a world, as plain data. -/
namespace Go.Proofs.YtbldpojkpmafpaaGreatDoor
open Go.RowKit Sv
def inF (w : World) : Env := ⟨fun i => if i < 64 then some (i, 0) else none, fun b => if 0 ≤ b then cellsOf? w b else none⟩
theorem inF_ok (w : World) : OkF w (inF w) := by
  refine ⟨fun i x h => ?_, fun g hg => ⟨0, if_pos hg⟩, fun b A h => ?_⟩
  · have h : (if i < 64 then some (i, 0) else none) = some x := h
    split at h
    · assumption
    · cases h
  · have h : (if 0 ≤ b then cellsOf? w b else none) = some A := h
    rw [if_pos (Nat.zero_le _)] at h
    exact cellsOf?_some.1 h
theorem row_den {w : World} {t : Ty} {xs : List t.den} {ys : List Value} {A : Option Addr} {c : Nat} (h : Row w w.heap.size A ys) (hd : Dens (inF w) (t.flat xs) ys) (hs : 1 ≤ t.size) (hc : xs.length ≤ c) : Den (inF w) (.lst false t xs) (.slice A xs.length c) := by
  have hlen := hd.length
  rw [t.flat_len] at hlen
  rcases h with h | ⟨b, off, rfl, hlt, hcs⟩
  · subst h
    have h0 : xs.length * t.size = 0 := hlen.symm
    have hx : xs = [] := List.length_eq_zero_iff.1 (by
      rcases Nat.mul_eq_zero.1 h0 with h | h
      · exact h
      · omega)
    subst hx
    exact .lstNil fun e => by cases e
  · by_cases hy : ys = []
    · subst hy
      have h0 : xs.length * t.size = 0 := hlen.symm
      have hx : xs = [] := List.length_eq_zero_iff.1 (by
        rcases Nat.mul_eq_zero.1 h0 with h | h
        · exact h
        · omega)
      subst hx
      exact .lstNil fun e => by cases e
    have hpos : 0 < ys.length := List.length_pos_iff.2 hy
    have h0 := hcs 0 hpos
    cases ho : w.heap[b]? with
    | none => simp [World.cell?, ho] at h0
    | some o =>
      cases o with
      | cells Arr e fr =>
        have hall : ∀ i (hi : i < ys.length), Arr[off + i]? = some ys[i] := fun i hi => by
          have := hcs i hi
          rw [cell_of ho] at this
          rw [this]
          simp [List.getD_eq_getElem?_getD, List.getElem?_eq_getElem hi]
        have hsz : off + ys.length ≤ Arr.size := by
          have := hall (ys.length - 1) (by omega)
          have := (Array.getElem?_eq_some_iff.1 this).1
          omega
        have hfl : (t.flat xs).length = ys.length := hd.length.symm
        have hys : (Arr.toList.drop off).take (t.flat xs).length = ys := by
          rw [hfl]
          apply List.ext_getElem?
          intro i
          rw [List.getElem?_take]
          by_cases hi : i < ys.length
          · rw [if_pos hi, List.getElem?_drop, Array.getElem?_toList, hall i hi, List.getElem?_eq_getElem hi]
          · rw [if_neg hi, List.getElem?_eq_none (by omega)]
        refine .lst (A := Arr) (b := b) (off := off) ?_ (by rw [hfl]; exact hsz) hys hd hc fun e => by cases e
        show (if 0 ≤ b then cellsOf? w b else none) = some Arr
        rw [if_pos (Nat.zero_le _)]; exact cellsOf?_some.2 ⟨e, fr, ho⟩
      | _ => simp [World.cell?, ho] at h0
theorem in_ints {w : World} {xs : List Int} {A : Option Addr} {c : Nat} (h : Row w w.heap.size A (xs.map (Value.int .i64))) (hc : xs.length ≤ c) : Den (inF w) (.lst false tInt xs) (.slice A xs.length c) :=
  row_den h (by rw [flat_ints]; exact Dens.raws _) (Nat.le_refl _) hc
theorem in_nets {w : World} : ∀ {l : List NetAt}, (∀ n ∈ l, Row w w.heap.size n.loc (n.cols.map (Value.int .i64))) → (∀ n ∈ l, n.cols.length ≤ n.cap) → Dens (inF w) (Ty.flat tNet (l.map NetAt.net)) (ncells l)
  | [], _, _ => .nil
  | n :: l, h, hc => by
    have e : Ty.flat tNet ((n :: l).map NetAt.net) = .raw (.int .i64 n.sh) :: .lst false tInt n.cols :: Ty.flat tNet (l.map NetAt.net) := rfl
    rw [e]
    exact .cons (.raw _) (.cons (in_ints (h n List.mem_cons_self) (hc n List.mem_cons_self)) (in_nets (fun m hm => h m (List.mem_cons_of_mem _ hm)) fun m hm => hc m (List.mem_cons_of_mem _ hm)))
end Go.Proofs.YtbldpojkpmafpaaGreatDoor

/- Arguments that lie in a world, as plain data; a law that holds for them. -/
namespace Go.Proofs.YtbldpojkpmafpaaGreatDoor
open Go.RowKit Sv
structure Arg.Nets (w : World) (A : Option Addr) (c : Nat) (l : List NetAt) : Prop where
  good : goodB (l.map NetAt.net) = true
  den : Den (inF w) (nv (l.map NetAt.net)) (.slice A l.length c)
structure Arg.Ints (w : World) (A : Option Addr) (c : Nat) (xs : List Int) : Prop where
  good : ∀ x ∈ xs, I64 x
  den : Den (inF w) (lv xs) (.slice A xs.length c)
structure Arg.Lay (w : World) (A B : Option Addr) (c e : Nat) (xs ys : List Int) : Prop where
  good : ∀ x ∈ xs, I64 x
  good2 : ∀ x ∈ ys, I64 x
  few : xs.length ≤ 140737488355328
  few2 : ys.length ≤ 140737488355328
  den : Den (inF w) (.agg [lv xs, lv ys]) (.agg #[.slice A xs.length c, .slice B ys.length e])
theorem Arg.nets {w : World} {A : Option Addr} {c : Nat} {l : List NetAt} (h : NetsIn w w.heap.size A l) (hcap : ∀ q ∈ l, q.cols.length ≤ q.cap) (hc : l.length ≤ c) : Arg.Nets w A c l := by
  refine ⟨goodB_iff.2 fun x hx => ?_, ?_⟩
  · obtain ⟨q, hq, rfl⟩ := List.mem_map.1 hx
    exact ⟨h.ints q hq, h.few q hq⟩
  · have := row_den (t := tNet) (xs := l.map NetAt.net) h.row (in_nets h.cols hcap) (by decide) (by rw [List.length_map]; exact hc)
    rwa [List.length_map] at this
theorem Arg.ints {w : World} {A : Option Addr} {c : Nat} {xs : List Int} (h : Row w w.heap.size A (xs.map (Value.int .i64))) (hi : ∀ x ∈ xs, I64 x) (hc : xs.length ≤ c) : Arg.Ints w A c xs := ⟨hi, in_ints h hc⟩
theorem Arg.lay {w : World} {A B : Option Addr} {c e : Nat} {xs ys : List Int} (h : Row w w.heap.size A (xs.map (Value.int .i64))) (h2 : Row w w.heap.size B (ys.map (Value.int .i64))) (hi : ∀ x ∈ xs, I64 x) (hj : ∀ x ∈ ys, I64 x) (hc : xs.length ≤ c) (he : ys.length ≤ e)
    (hl : xs.length ≤ 140737488355328) (hm : ys.length ≤ 140737488355328) : Arg.Lay w A B c e xs ys := ⟨hi, hj, hl, hm, .agg (.cons (in_ints h hc) (.cons (in_ints h2 he) .nil))⟩
theorem call_true {f : FuncId} {args : List AV} (h : Holds Tryz.prog true f args (bv true)) {w : World} {vs : List Value} (hd : Dens (inF w) args vs) : Calls Tryz.prog f vs.toArray w fun e w' => e = .returned (.bool true) ∧ Below w.heap.size w w' :=
  (h w (inF w) vs (inF_ok w) hd).mono fun e w' ⟨x, F', h1, h2, _, _, h5⟩ => by
    rw [h2.raw_eq] at h1
    exact ⟨h1, h5⟩
end Go.Proofs.YtbldpojkpmafpaaGreatDoor

/- integraphlaw07.BusCrossings: the walk. -/
namespace Go.Proofs.YtbldpojkpmafpaaGreatDoor
open Go.RowKit Sv
set_option maxRecDepth 100000
set_option linter.unusedVariables false
noncomputable section
noncomputable def cCrossR : Ctr := { f := 20, ps := [.list false tN, .pair (.list false (.int .i64)) (.list false (.int .i64))], rs := [.int .i64], fresh := true, pre := fun d => okCr d.1 d.2.1.1 d.2.1.2, fn := fun d => (crsR d.1 d.2.1.1 d.2.1.2 (usedR d.2.1.2 64) (usedR d.2.1.2 64).length, ()) }
theorem cCrossR_ok : cCrossR.Ok Tryz.prog := fun ⟨nets, ⟨order, ts⟩, _⟩ h => cr_holds nets order ts h
end
end Go.Proofs.YtbldpojkpmafpaaGreatDoor
