/- Lists of integers compared, by the library and by the reference. -/
import Derived.Test.YtbldpojkpmafpaaGreatDoorZbBusRefNets
import Derived.Test.YtbldpojkpmafpaaGreatDoorZbVOrdLaw
import Derived.Test.YtbldpojkpmafpaaGreatDoorZbVCr
import Derived.Test.YtbldpojkpmafpaaGreatDoorZbOrdLaw
import Derived.Test.YtbldpojkpmafpaaGreatDoorZbBusClique
import Derived.Lib.SlicesCompact
namespace Go.Proofs.YtbldpojkpmafpaaGreatDoor
open Go.RowKit Sv
set_option maxRecDepth 100000
set_option linter.unusedVariables false
noncomputable section
def cmpI (a b : List Int) : Int := if lexB a b = true then -1 else if lexB b a = true then 1 else 0
def BCmp : Code := (Tryz.f46.body).getD .skip
def BLess : Code := (Tryz.f50.body).getD .skip
def SCmp (a b : List Int) (i : Nat) : St := { n := 36, sl := [(0, lv a), (1, lv b), (9, lv a), (10, iv a.length), (11, iv i)], en := [], next := 64 }
def SLess (a b : List Int) (i : Nat) : St := { n := 30, sl := [(0, lv a), (1, lv b), (5, iv i)], en := [], next := 64 }
theorem cmp_start (a b : List Int)  :
    Tst.path (vrun0 Tryz.prog (ctrs []) (fl BCmp []) 2 36 [lv a, lv b]) [] (toSt Tryz.prog 36 .normal [] (SCmp a b 0)) := by
  have eTst : (Tst.path (vrun0 Tryz.prog (ctrs []) (fl BCmp []) 2 36 [lv a, lv b]) [] (toSt Tryz.prog 36 .normal [] (SCmp a b 0))) = (((a) = (a)) ∧ ((b) = (b)) ∧ ((a) = (a)) ∧ (((↑(List.length a) : Int)) = ((↑(List.length a) : Int))) ∧ (((0 : Int)) = ((↑(0 : Nat) : Int))) ∧ True) := by kernel_rfl
  exact eTst.mpr ⟨rfl, ⟨rfl, ⟨rfl, ⟨rfl, ⟨rfl, trivial⟩⟩⟩⟩⟩
theorem cmp_far (a b : List Int) (i : Nat) (h1 : (↑i : Int) < (↑(List.length a) : Int)) (h2 : i < List.length a) (h3 : (↑i : Int) ≥ (↑(List.length b) : Int)) :
    Tst.path (vall Tryz.prog (ctrs []) (fl BCmp [1,0,1,0,0]) (SCmp a b i)) [true, true] (toRet Tryz.prog Tryz.f46 true (iv 1)) := by
  have eTst : (Tst.path (vall Tryz.prog (ctrs []) (fl BCmp [1,0,1,0,0]) (SCmp a b i)) [true, true] (toRet Tryz.prog Tryz.f46 true (iv 1))) = (((decide ((↑i : Int) < (↑(List.length a) : Int))) = true) ∧ ((decide ((0 : Int) ≤ (↑i : Int))) = true) ∧ ((decide (i < List.length a)) = true) ∧ ((decide ((↑i : Int) ≥ (↑(List.length b) : Int))) = true) ∧ ((1 : Int)) = ((1 : Int))) := by kernel_rfl
  exact eTst.mpr ⟨decide_eq_true h1, ⟨decide_eq_true (by omega), ⟨decide_eq_true h2, ⟨decide_eq_true h3, rfl⟩⟩⟩⟩
theorem cmp_lt (a b : List Int) (i : Nat) (h1 : (↑i : Int) < (↑(List.length a) : Int)) (h2 : i < List.length a) (h3 : ¬(↑i : Int) ≥ (↑(List.length b) : Int)) (h4 : i < List.length b) (h5 : List.getD a i (0 : Int) = List.getD a i (0 : Int)) (h6 : List.getD b i (0 : Int) = List.getD b i (0 : Int)) (h7 : List.getD a i (0 : Int) < List.getD b i (0 : Int)) :
    Tst.path (vall Tryz.prog (ctrs []) (fl BCmp [1,0,1,0,0]) (SCmp a b i)) [true, false, false, false, true, true] (toRet Tryz.prog Tryz.f46 true (iv (-1))) := by
  have eTst : (Tst.path (vall Tryz.prog (ctrs []) (fl BCmp [1,0,1,0,0]) (SCmp a b i)) [true, false, false, false, true, true] (toRet Tryz.prog Tryz.f46 true (iv (-1)))) = (((decide ((↑i : Int) < (↑(List.length a) : Int))) = true) ∧ ((decide ((0 : Int) ≤ (↑i : Int))) = true) ∧ ((decide (i < List.length a)) = true) ∧ ((decide ((↑i : Int) ≥ (↑(List.length b) : Int))) = false) ∧ ((decide ((0 : Int) ≤ (↑i : Int))) = true) ∧ ((decide (i < List.length b)) = true) ∧ ((List.getD a i (0 : Int) != List.getD a i (0 : Int)) = false) ∧ ((List.getD b i (0 : Int) != List.getD b i (0 : Int)) = false) ∧ ((decide (List.getD a i (0 : Int) < List.getD b i (0 : Int))) = true) ∧ (((-1 : Int) != (0 : Int)) = true) ∧ ((-1 : Int)) = ((-1 : Int))) := by kernel_rfl
  exact eTst.mpr ⟨decide_eq_true h1, ⟨decide_eq_true (by omega), ⟨decide_eq_true h2, ⟨decide_eq_false h3, ⟨decide_eq_true (by omega), ⟨decide_eq_true h4, ⟨bne_eq_false_iff_eq.mpr h5, ⟨bne_eq_false_iff_eq.mpr h6, ⟨decide_eq_true h7, ⟨rfl, rfl⟩⟩⟩⟩⟩⟩⟩⟩⟩⟩
theorem cmp_gt (a b : List Int) (i : Nat) (h1 : (↑i : Int) < (↑(List.length a) : Int)) (h2 : i < List.length a) (h3 : ¬(↑i : Int) ≥ (↑(List.length b) : Int)) (h4 : i < List.length b) (h5 : List.getD a i (0 : Int) = List.getD a i (0 : Int)) (h6 : List.getD b i (0 : Int) = List.getD b i (0 : Int)) (h7 : ¬List.getD a i (0 : Int) < List.getD b i (0 : Int)) (h8 : List.getD a i (0 : Int) > List.getD b i (0 : Int)) :
    Tst.path (vall Tryz.prog (ctrs []) (fl BCmp [1,0,1,0,0]) (SCmp a b i)) [true, false, false, false, false, true, true] (toRet Tryz.prog Tryz.f46 true (iv 1)) := by
  have eTst : (Tst.path (vall Tryz.prog (ctrs []) (fl BCmp [1,0,1,0,0]) (SCmp a b i)) [true, false, false, false, false, true, true] (toRet Tryz.prog Tryz.f46 true (iv 1))) = (((decide ((↑i : Int) < (↑(List.length a) : Int))) = true) ∧ ((decide ((0 : Int) ≤ (↑i : Int))) = true) ∧ ((decide (i < List.length a)) = true) ∧ ((decide ((↑i : Int) ≥ (↑(List.length b) : Int))) = false) ∧ ((decide ((0 : Int) ≤ (↑i : Int))) = true) ∧ ((decide (i < List.length b)) = true) ∧ ((List.getD a i (0 : Int) != List.getD a i (0 : Int)) = false) ∧ ((List.getD b i (0 : Int) != List.getD b i (0 : Int)) = false) ∧ ((decide (List.getD a i (0 : Int) < List.getD b i (0 : Int))) = false) ∧ ((decide (List.getD a i (0 : Int) > List.getD b i (0 : Int))) = true) ∧ (((1 : Int) != (0 : Int)) = true) ∧ ((1 : Int)) = ((1 : Int))) := by kernel_rfl
  exact eTst.mpr ⟨decide_eq_true h1, ⟨decide_eq_true (by omega), ⟨decide_eq_true h2, ⟨decide_eq_false h3, ⟨decide_eq_true (by omega), ⟨decide_eq_true h4, ⟨bne_eq_false_iff_eq.mpr h5, ⟨bne_eq_false_iff_eq.mpr h6, ⟨decide_eq_false h7, ⟨decide_eq_true h8, ⟨rfl, rfl⟩⟩⟩⟩⟩⟩⟩⟩⟩⟩⟩
theorem cmp_go (a b : List Int) (i : Nat) (h1 : (↑i : Int) < (↑(List.length a) : Int)) (h2 : i < List.length a) (h3 : ¬(↑i : Int) ≥ (↑(List.length b) : Int)) (h4 : i < List.length b) (h5 : List.getD a i (0 : Int) = List.getD a i (0 : Int)) (h6 : List.getD b i (0 : Int) = List.getD b i (0 : Int)) (h7 : ¬List.getD a i (0 : Int) < List.getD b i (0 : Int)) (h8 : ¬List.getD a i (0 : Int) > List.getD b i (0 : Int)) (h9 : -9223372036854775808 ≤ (↑i : Int) + (1 : Int) ∧ (↑i : Int) + (1 : Int) ≤ 9223372036854775807) :
    Tst.path (vall Tryz.prog (ctrs []) (fl BCmp [1,0,1,0,0]) (SCmp a b i)) [true, false, false, false, false, false, false] (toSt Tryz.prog 36 .normal [] (SCmp a b (i + 1))) := by
  have eTst : (Tst.path (vall Tryz.prog (ctrs []) (fl BCmp [1,0,1,0,0]) (SCmp a b i)) [true, false, false, false, false, false, false] (toSt Tryz.prog 36 .normal [] (SCmp a b (i + 1)))) = (((decide ((↑i : Int) < (↑(List.length a) : Int))) = true) ∧ ((decide ((0 : Int) ≤ (↑i : Int))) = true) ∧ ((decide (i < List.length a)) = true) ∧ ((decide ((↑i : Int) ≥ (↑(List.length b) : Int))) = false) ∧ ((decide ((0 : Int) ≤ (↑i : Int))) = true) ∧ ((decide (i < List.length b)) = true) ∧ ((List.getD a i (0 : Int) != List.getD a i (0 : Int)) = false) ∧ ((List.getD b i (0 : Int) != List.getD b i (0 : Int)) = false) ∧ ((decide (List.getD a i (0 : Int) < List.getD b i (0 : Int))) = false) ∧ ((decide (List.getD a i (0 : Int) > List.getD b i (0 : Int))) = false) ∧ (((0 : Int) != (0 : Int)) = false) ∧ ((fits IntKind.i64 ((↑i : Int) + (1 : Int))) = true) ∧ ((a) = (a)) ∧ ((b) = (b)) ∧ ((a) = (a)) ∧ (((↑(List.length a) : Int)) = ((↑(List.length a) : Int))) ∧ (((↑i : Int) + (1 : Int)) = ((↑(i + (1 : Nat)) : Int))) ∧ True) := by kernel_rfl
  exact eTst.mpr ⟨decide_eq_true h1, ⟨decide_eq_true (by omega), ⟨decide_eq_true h2, ⟨decide_eq_false h3, ⟨decide_eq_true (by omega), ⟨decide_eq_true h4, ⟨bne_eq_false_iff_eq.mpr h5, ⟨bne_eq_false_iff_eq.mpr h6, ⟨decide_eq_false h7, ⟨decide_eq_false h8, ⟨rfl, ⟨fits_i64 h9, ⟨rfl, ⟨rfl, ⟨rfl, ⟨rfl, ⟨(by omega), trivial⟩⟩⟩⟩⟩⟩⟩⟩⟩⟩⟩⟩⟩⟩⟩⟩⟩
theorem cmp_end (a b : List Int) (i : Nat) (h1 : ¬(↑i : Int) < (↑(List.length a) : Int)) :
    Tst.path (vall Tryz.prog (ctrs []) (fl BCmp [1,0,1,0,0]) (SCmp a b i)) [false] (toSt Tryz.prog 36 (.exit 0) [] (SCmp a b i)) := by
  have eTst : (Tst.path (vall Tryz.prog (ctrs []) (fl BCmp [1,0,1,0,0]) (SCmp a b i)) [false] (toSt Tryz.prog 36 (.exit 0) [] (SCmp a b i))) = (((decide ((↑i : Int) < (↑(List.length a) : Int))) = false) ∧ ((a) = (a)) ∧ ((b) = (b)) ∧ ((a) = (a)) ∧ (((↑(List.length a) : Int)) = ((↑(List.length a) : Int))) ∧ (((↑i : Int)) = ((↑i : Int))) ∧ True) := by kernel_rfl
  exact eTst.mpr ⟨decide_eq_false h1, ⟨rfl, ⟨rfl, ⟨rfl, ⟨rfl, ⟨rfl, trivial⟩⟩⟩⟩⟩⟩
theorem cmp_short (a b : List Int) (i : Nat) (h1 : (↑(List.length a) : Int) < (↑(List.length b) : Int)) :
    Tst.path (vall Tryz.prog (ctrs []) (List.drop 3 (fl BCmp [])) (SCmp a b i)) [true] (toRet Tryz.prog Tryz.f46 true (iv (-1))) := by
  have eTst : (Tst.path (vall Tryz.prog (ctrs []) (List.drop 3 (fl BCmp [])) (SCmp a b i)) [true] (toRet Tryz.prog Tryz.f46 true (iv (-1)))) = (((decide ((↑(List.length a) : Int) < (↑(List.length b) : Int))) = true) ∧ ((-1 : Int)) = ((-1 : Int))) := by kernel_rfl
  exact eTst.mpr ⟨decide_eq_true h1, rfl⟩
theorem cmp_same (a b : List Int) (i : Nat) (h1 : ¬(↑(List.length a) : Int) < (↑(List.length b) : Int)) :
    Tst.path (vall Tryz.prog (ctrs []) (List.drop 3 (fl BCmp [])) (SCmp a b i)) [false] (toRet Tryz.prog Tryz.f46 true (iv 0)) := by
  have eTst : (Tst.path (vall Tryz.prog (ctrs []) (List.drop 3 (fl BCmp [])) (SCmp a b i)) [false] (toRet Tryz.prog Tryz.f46 true (iv 0))) = (((decide ((↑(List.length a) : Int) < (↑(List.length b) : Int))) = false) ∧ ((0 : Int)) = ((0 : Int))) := by kernel_rfl
  exact eTst.mpr ⟨decide_eq_false h1, rfl⟩
theorem less_start (a b : List Int)  :
    Tst.path (vrun0 Tryz.prog (ctrs []) (fl BLess []) 2 30 [lv a, lv b]) [] (toSt Tryz.prog 30 .normal [] (SLess a b 0)) := by
  have eTst : (Tst.path (vrun0 Tryz.prog (ctrs []) (fl BLess []) 2 30 [lv a, lv b]) [] (toSt Tryz.prog 30 .normal [] (SLess a b 0))) = (((a) = (a)) ∧ ((b) = (b)) ∧ (((0 : Int)) = ((↑(0 : Nat) : Int))) ∧ True) := by kernel_rfl
  exact eTst.mpr ⟨rfl, ⟨rfl, ⟨rfl, trivial⟩⟩⟩
theorem less_ne (a b : List Int) (i : Nat) (h1 : (↑i : Int) < (↑(List.length a) : Int)) (h2 : i < List.length a) (h3 : i < List.length b) (h4 : ¬List.getD a i (0 : Int) = List.getD b i (0 : Int)) (h5 : (decide (List.getD a i (0 : Int) < List.getD b i (0 : Int))) = (decide (List.getD a i (0 : Int) < List.getD b i (0 : Int)))) :
    Tst.path (vall Tryz.prog (ctrs []) (fl BLess [1,0,1,0,0]) (SLess a b i)) [true, true] (toRet Tryz.prog Tryz.f50 true (bv (decide (a.getD i 0 < b.getD i 0)))) := by
  have eTst : (Tst.path (vall Tryz.prog (ctrs []) (fl BLess [1,0,1,0,0]) (SLess a b i)) [true, true] (toRet Tryz.prog Tryz.f50 true (bv (decide (a.getD i 0 < b.getD i 0))))) = (((decide ((↑i : Int) < (↑(List.length a) : Int))) = true) ∧ ((decide ((0 : Int) ≤ (↑i : Int))) = true) ∧ ((decide (i < List.length a)) = true) ∧ ((AV.same (AV.raw (Value.int IntKind.i64 (List.getD a i (0 : Int)))) (AV.raw (Value.int IntKind.i64 (List.getD a i (0 : Int))))) = true) ∧ ((decide ((0 : Int) ≤ (↑i : Int))) = true) ∧ ((decide (i < List.length b)) = true) ∧ ((AV.same (AV.raw (Value.int IntKind.i64 (List.getD b i (0 : Int)))) (AV.raw (Value.int IntKind.i64 (List.getD b i (0 : Int))))) = true) ∧ ((List.getD a i (0 : Int) != List.getD b i (0 : Int)) = true) ∧ ((decide ((0 : Int) ≤ (↑i : Int))) = true) ∧ ((decide (i < List.length a)) = true) ∧ ((AV.same (AV.raw (Value.int IntKind.i64 (List.getD a i (0 : Int)))) (AV.raw (Value.int IntKind.i64 (List.getD a i (0 : Int))))) = true) ∧ ((decide ((0 : Int) ≤ (↑i : Int))) = true) ∧ ((decide (i < List.length b)) = true) ∧ ((AV.same (AV.raw (Value.int IntKind.i64 (List.getD b i (0 : Int)))) (AV.raw (Value.int IntKind.i64 (List.getD b i (0 : Int))))) = true) ∧ (decide (List.getD a i (0 : Int) < List.getD b i (0 : Int))) = (decide (List.getD a i (0 : Int) < List.getD b i (0 : Int)))) := by kernel_rfl
  exact eTst.mpr ⟨decide_eq_true h1, ⟨decide_eq_true (by omega), ⟨decide_eq_true h2, ⟨same_refl (by kernel_rfl), ⟨decide_eq_true (by omega), ⟨decide_eq_true h3, ⟨same_refl (by kernel_rfl), ⟨bne_iff_ne.mpr h4, ⟨decide_eq_true (by omega), ⟨decide_eq_true h2, ⟨same_refl (by kernel_rfl), ⟨decide_eq_true (by omega), ⟨decide_eq_true h3, ⟨same_refl (by kernel_rfl), h5⟩⟩⟩⟩⟩⟩⟩⟩⟩⟩⟩⟩⟩⟩
theorem less_go (a b : List Int) (i : Nat) (h1 : (↑i : Int) < (↑(List.length a) : Int)) (h2 : i < List.length a) (h3 : i < List.length b) (h4 : List.getD a i (0 : Int) = List.getD b i (0 : Int)) (h5 : -9223372036854775808 ≤ (↑i : Int) + (1 : Int) ∧ (↑i : Int) + (1 : Int) ≤ 9223372036854775807) :
    Tst.path (vall Tryz.prog (ctrs []) (fl BLess [1,0,1,0,0]) (SLess a b i)) [true, false] (toSt Tryz.prog 30 .normal [] (SLess a b (i + 1))) := by
  have eTst : (Tst.path (vall Tryz.prog (ctrs []) (fl BLess [1,0,1,0,0]) (SLess a b i)) [true, false] (toSt Tryz.prog 30 .normal [] (SLess a b (i + 1)))) = (((decide ((↑i : Int) < (↑(List.length a) : Int))) = true) ∧ ((decide ((0 : Int) ≤ (↑i : Int))) = true) ∧ ((decide (i < List.length a)) = true) ∧ ((AV.same (AV.raw (Value.int IntKind.i64 (List.getD a i (0 : Int)))) (AV.raw (Value.int IntKind.i64 (List.getD a i (0 : Int))))) = true) ∧ ((decide ((0 : Int) ≤ (↑i : Int))) = true) ∧ ((decide (i < List.length b)) = true) ∧ ((AV.same (AV.raw (Value.int IntKind.i64 (List.getD b i (0 : Int)))) (AV.raw (Value.int IntKind.i64 (List.getD b i (0 : Int))))) = true) ∧ ((List.getD a i (0 : Int) != List.getD b i (0 : Int)) = false) ∧ ((fits IntKind.i64 ((↑i : Int) + (1 : Int))) = true) ∧ ((a) = (a)) ∧ ((b) = (b)) ∧ (((↑i : Int) + (1 : Int)) = ((↑(i + (1 : Nat)) : Int))) ∧ True) := by kernel_rfl
  exact eTst.mpr ⟨decide_eq_true h1, ⟨decide_eq_true (by omega), ⟨decide_eq_true h2, ⟨same_refl (by kernel_rfl), ⟨decide_eq_true (by omega), ⟨decide_eq_true h3, ⟨same_refl (by kernel_rfl), ⟨bne_eq_false_iff_eq.mpr h4, ⟨fits_i64 h5, ⟨rfl, ⟨rfl, ⟨(by omega), trivial⟩⟩⟩⟩⟩⟩⟩⟩⟩⟩⟩⟩
theorem less_end (a b : List Int) (i : Nat) (h1 : ¬(↑i : Int) < (↑(List.length a) : Int)) :
    Tst.path (vall Tryz.prog (ctrs []) (fl BLess [1,0,1,0,0]) (SLess a b i)) [false] (toSt Tryz.prog 30 (.exit 0) [] (SLess a b i)) := by
  have eTst : (Tst.path (vall Tryz.prog (ctrs []) (fl BLess [1,0,1,0,0]) (SLess a b i)) [false] (toSt Tryz.prog 30 (.exit 0) [] (SLess a b i))) = (((decide ((↑i : Int) < (↑(List.length a) : Int))) = false) ∧ ((a) = (a)) ∧ ((b) = (b)) ∧ (((↑i : Int)) = ((↑i : Int))) ∧ True) := by kernel_rfl
  exact eTst.mpr ⟨decide_eq_false h1, ⟨rfl, ⟨rfl, ⟨rfl, trivial⟩⟩⟩⟩
theorem less_ret (a b : List Int) (i : Nat)  :
    Tst.path (vall Tryz.prog (ctrs []) (List.drop 3 (fl BLess [])) (SLess a b i)) [] (toRet Tryz.prog Tryz.f50 true (bv false)) := by
  have eTst : (Tst.path (vall Tryz.prog (ctrs []) (List.drop 3 (fl BLess [])) (SLess a b i)) [] (toRet Tryz.prog Tryz.f50 true (bv false))) = ((false) = false) := by kernel_rfl
  exact eTst.mpr rfl
noncomputable def cCmp : Ctr := { f := 46, ps := [.list false (.int .i64), .list false (.int .i64)], rs := [.int .i64], fresh := true, pre := fun d => decide (List.length (α := Int) d.1 ≤ 1000000), fn := fun d => (cmpI d.1 d.2.1, ()) }
noncomputable def cLess : Ctr := { f := 50, ps := [.list false (.int .i64), .list false (.int .i64)], rs := [.bool], fresh := true, pre := fun d => decide (List.length (α := Int) d.1 ≤ 1000000) && decide (List.length (α := Int) d.1 = List.length (α := Int) d.2.1), fn := fun d => ((lexB d.1 d.2.1 : Bool), ()) }
theorem drop_at {l : List Int} {i : Nat} (h : i < l.length) : l.drop i = l.getD i 0 :: l.drop (i + 1) := by
  rw [getD_lt h]; exact List.drop_eq_getElem_cons h
theorem lexB_pre : ∀ (i : Nat) (a b : List Int), a.take i = b.take i → i ≤ a.length → i ≤ b.length → lexB a b = lexB (a.drop i) (b.drop i)
  | 0, _, _, _, _, _ => rfl
  | i + 1, [], _, _, h, _ => by simp at h
  | i + 1, _ :: _, [], _, _, h => by simp at h
  | i + 1, x :: a, y :: b, e, h1, h2 => by
    rw [List.take_succ_cons, List.take_succ_cons] at e
    have e1 := (List.cons.inj e).1
    have e2 := (List.cons.inj e).2
    subst e1
    show (if x = x then lexB a b else _) = _
    rw [if_pos rfl]
    exact lexB_pre i a b e2 (by simpa using h1) (by simpa using h2)
theorem lexB_lt {x y : Int} {l m : List Int} (h : x < y) : lexB (x :: l) (y :: m) = true := by
  show (if x = y then lexB l m else decide (x < y)) = true
  rw [if_neg (by omega)]; exact decide_eq_true h
theorem lexB_gt {x y : Int} {l m : List Int} (h : y < x) : lexB (x :: l) (y :: m) = false := by
  show (if x = y then lexB l m else decide (x < y)) = false
  rw [if_neg (by omega)]; exact decide_eq_false (by omega)
theorem cmp_holds (a b : List Int) (hl : a.length ≤ 1000000) : Holds Tryz.prog true 46 [lv a, lv b] (iv (cmpI a b)) := by
  have hS := none_ok
  refine holds_fl (c := BCmp) Tryz.func46 rfl rfl fun w F => ?_
  refine GoalL.to known mixed hS 2 _ (cmp_start a b) (by kernel_rfl) ?_
  refine GoalL.loop (ι := { i : Nat // i ≤ a.length ∧ i ≤ b.length ∧ a.take i = b.take i }) (id := 0) (b := cat BCmp [1,0,1,0,0]) (rest := List.drop 3 (fl BCmp [])) (by kernel_rfl) (fun i => SCmp a b i.1) (fun i => a.length - i.1) ⟨0, Nat.zero_le _, Nat.zero_le _, rfl⟩ (fun _ => rfl) ?_
  rintro ⟨i, h1, h2, h3⟩
  have hp := lexB_pre i a b h3 h1 h2
  have hq := lexB_pre i b a h3.symm h2 h1
  by_cases hlt : i < a.length
  · by_cases hb : i < b.length
    · rw [drop_at hlt, drop_at hb] at hp hq
      rcases Int.lt_trichotomy (a.getD i 0) (b.getD i 0) with h | h | h
      · refine GoalL.allRet (s := SCmp a b i) known mixed hS _ (cmp_lt a b i (by omega) hlt (by omega) hb rfl rfl h) fun T H g => ?_
        rw [show cmpI a b = -1 by unfold cmpI; rw [hp, lexB_lt h, if_pos rfl]]
        exact g
      · refine GoalL.all (s := SCmp a b i) known mixed hS _ (cmp_go a b i (by omega) hlt (by omega) hb rfl rfl (by omega) (by omega) (by omega)) (by kernel_rfl) ?_
        exact ⟨⟨i + 1, by omega, by omega, by rw [take_next hlt, take_next hb, h3, h]⟩, by simp; omega, rfl, rfl⟩
      · refine GoalL.allRet (s := SCmp a b i) known mixed hS _ (cmp_gt a b i (by omega) hlt (by omega) hb rfl rfl (by omega) (by omega)) fun T H g => ?_
        rw [show cmpI a b = 1 by unfold cmpI; rw [hp, hq, lexB_gt h, lexB_lt h, if_neg (by decide), if_pos rfl]]
        exact g
    · refine GoalL.allRet (s := SCmp a b i) known mixed hS _ (cmp_far a b i (by omega) hlt (by omega)) fun T H g => ?_
      rw [drop_at hlt, List.drop_of_length_le (show b.length ≤ i by omega)] at hp hq
      rw [show cmpI a b = 1 by unfold cmpI; rw [hp, hq]; rfl]
      exact g
  · refine GoalL.all (s := SCmp a b i) known mixed hS _ (cmp_end a b i (by omega)) (by kernel_rfl) ?_
    refine onN_exit (inB_exit ?_)
    obtain rfl : i = a.length := by omega
    rw [List.drop_of_length_le (Nat.le_refl _)] at hp hq
    by_cases hb : a.length < b.length
    · refine GoalL.allRet (s := SCmp a b a.length) known mixed hS _ (cmp_short a b _ (by omega)) fun T H g => ?_
      rw [drop_at hb] at hp
      rw [show cmpI a b = -1 by unfold cmpI; rw [hp]; rfl]
      exact g
    · refine GoalL.allRet (s := SCmp a b a.length) known mixed hS _ (cmp_same a b _ (by omega)) fun T H g => ?_
      rw [List.drop_of_length_le (show b.length ≤ a.length by omega)] at hp hq
      rw [show cmpI a b = 0 by unfold cmpI; rw [hp, hq]; rfl]
      exact g
theorem cCmp_ok : cCmp.Ok Tryz.prog := fun ⟨a, b, _⟩ h => cmp_holds a b (of_decide_eq_true h)
theorem less_holds (a b : List Int) (hl : a.length ≤ 1000000) (he : a.length = b.length) : Holds Tryz.prog true 50 [lv a, lv b] (bv (lexB a b)) := by
  have hS := none_ok
  refine holds_fl (c := BLess) Tryz.func50 rfl rfl fun w F => ?_
  refine GoalL.to known mixed hS 2 _ (less_start a b) (by kernel_rfl) ?_
  refine GoalL.loop (ι := { i : Nat // i ≤ a.length ∧ a.take i = b.take i }) (id := 0) (b := cat BLess [1,0,1,0,0]) (rest := List.drop 3 (fl BLess [])) (by kernel_rfl) (fun i => SLess a b i.1) (fun i => a.length - i.1) ⟨0, Nat.zero_le _, rfl⟩ (fun _ => rfl) ?_
  rintro ⟨i, h1, h3⟩
  have hp := lexB_pre i a b h3 h1 (by omega)
  by_cases hlt : i < a.length
  · have hb : i < b.length := by omega
    rw [drop_at hlt, drop_at hb] at hp
    by_cases h : a.getD i 0 = b.getD i 0
    · refine GoalL.all (s := SLess a b i) known mixed hS _ (less_go a b i (by omega) hlt hb h (by omega)) (by kernel_rfl) ?_
      exact ⟨⟨i + 1, by omega, by rw [take_next hlt, take_next hb, h3, h]⟩, by simp; omega, rfl, rfl⟩
    · refine GoalL.allRet (s := SLess a b i) known mixed hS _ (less_ne a b i (by omega) hlt hb h rfl) fun T H g => ?_
      have e : lexB a b = decide (a.getD i 0 < b.getD i 0) := by
        rw [hp]
        show (if a.getD i 0 = b.getD i 0 then _ else decide (a.getD i 0 < b.getD i 0)) = _
        rw [if_neg h]
      rw [e]; exact g
  · refine GoalL.all (s := SLess a b i) known mixed hS _ (less_end a b i (by omega)) (by kernel_rfl) ?_
    refine onN_exit (inB_exit ?_)
    obtain rfl : i = a.length := by omega
    refine GoalL.allRet (s := SLess a b a.length) known mixed hS _ (less_ret a b _) fun T H g => ?_
    rw [List.drop_of_length_le (Nat.le_refl _), List.drop_of_length_le (show b.length ≤ a.length by omega)] at hp
    rw [show lexB a b = false by rw [hp]; rfl]
    exact g
theorem cLess_ok : cLess.Ok Tryz.prog := fun ⟨a, b, _⟩ h => by
  obtain ⟨h1, h2⟩ := Bool.and_eq_true_iff.1 h
  exact less_holds a b (of_decide_eq_true h1) (of_decide_eq_true h2)
end
end Go.Proofs.YtbldpojkpmafpaaGreatDoor

/- Package bus and its reference: small functions as contracts: CheckNets, Length, the place of a number in a list, lists compared. -/
namespace Go.Proofs.YtbldpojkpmafpaaGreatDoor
open Go.RowKit Sv
set_option maxRecDepth 100000
set_option linter.unusedVariables false
noncomputable section
noncomputable def cNetsB : Ctr := { f := 39, ps := [.list false (.pair (.int .i64) (.list false (.int .i64))), .int .i64], rs := [.int .i64], fresh := true, pre := fun d => goodB d.1 && decide (List.length (α := Int × List Int) d.1 ≤ 140737488355328), fn := fun d => (Bus.netsErr d.1 d.2.1, ()) }
theorem cNetsB_ok : cNetsB.Ok Tryz.prog := fun ⟨nets, n, _⟩ h => holds_raw fun w F xs hF hd => by
  obtain ⟨h1, h2⟩ := Bool.and_eq_true_iff.1 h
  have hl := of_decide_eq_true h2
  cases hd with
  | cons d1 d2 =>
    cases d2 with
    | cons d2 d3 =>
      cases d3
      obtain ⟨A, c, l, rfl, rfl, hN⟩ := den_nets hF (goodB_iff.1 h1) d1
      rw [d2.raw_eq]
      refine CheckNets_any A c w.heap.size l n w hN (Nat.le_refl _) ?_
      simpa using hl
def okLen (nets : List (Int × List Int)) (order : List Int) : Bool := goodB nets && decide (Bus.bothErr nets order.length order = 0)
noncomputable def cLengthR : Ctr := { f := 49, ps := [.list false tN, .list false (.int .i64)], rs := [.int .i64], fresh := true, pre := fun d => okLen d.1 d.2.1, fn := fun d => (sumExt (extsOf d.1 d.2.1), ()) }
theorem cLengthR_ok : cLengthR.Ok Tryz.prog := fun ⟨nets, order, _⟩ h => holds_raw fun w F xs hF hd => by
  obtain ⟨h1, h2⟩ := Bool.and_eq_true_iff.1 h
  have hE := of_decide_eq_true h2
  cases hd with
  | cons d1 d2 =>
    cases d2 with
    | cons d2 d3 =>
      cases d3
      obtain ⟨A, c, l, rfl, rfl, hN⟩ := den_nets hF (goodB_iff.1 h1) d1
      obtain ⟨A2, c2, rfl, _, hR⟩ := den_ints hF d2
      exact refLength_any A A2 c c2 w.heap.size l order order.length w hN hR (Nat.le_refl _) hE
noncomputable def cFirst : Ctr := { f := 38, ps := [.list false (.int .i64)], rs := [.int .i64], fresh := true, pre := fun d => decide (List.length (α := Int) d.1 ≤ 1000000), fn := fun d => (firstOf d.1, ()) }
theorem cFirst_ok : cFirst.Ok Tryz.prog := fun ⟨l, _⟩ h => holds_raw fun w F xs hF hd => by
  have hl := of_decide_eq_true h
  cases hd with
  | cons d1 d2 =>
    cases d2
    obtain ⟨A, c, rfl, hc, hR⟩ := den_ints hF d1
    exact (first_any A c w.heap.size l w hl hR).mono fun e w' ⟨h1, h2⟩ => ⟨h1, by subst h2; exact Below.refl _ _⟩
end
end Go.Proofs.YtbldpojkpmafpaaGreatDoor

/- Package bus, plain: columns under other numbers leave the extents and the crossings as they were. -/
namespace Go.Proofs.YtbldpojkpmafpaaGreatDoor
open Go.RowKit Sv
set_option linter.unusedVariables false
def isum : List Int → Int
  | [] => 0
  | x :: r => x + isum r
theorem isum_app : ∀ (a b : List Int), isum (a ++ b) = isum a + isum b
  | [], b => by simp [isum]
  | x :: r, b => by
    show x + isum (r ++ b) = x + isum r + isum b
    rw [isum_app r b]; omega
section
variable {nets : List (Int × List Int)} {n : Int} {order names : List Int}
theorem run_free (f : Nat → Int) (most : Int) (L : Nat) (hf : ∀ x, 0 ≤ f x ∧ f x ≤ L) : ∀ (pre : List Nat) (s0 : Int), 0 ≤ s0 → s0 + (pre.length * L : Nat) ≤ most → crossRun f most s0 pre = (s0 + isum (pre.map f), false)
  | [], s0, _, _ => by simp [crossRun, isum]
  | x :: r, s0, h0, h => by
    have h1 := hf x
    have e : ((x :: r).length * L : Nat) = r.length * L + L := by rw [List.length_cons, Nat.add_mul, Nat.one_mul]
    rw [e] at h
    unfold crossRun
    rw [if_neg (by omega), run_free f most L hf r (s0 + f x) (by omega) (by omega)]
    show (s0 + f x + isum (r.map f), false) = (s0 + (f x + isum (r.map f)), false)
    rw [Int.add_assoc]
theorem range_getD (taps : List (Nat × Int)) (h : Nat × Int → Int) : (List.range taps.length).map (fun x => h (taps.getD x (0, 0))) = taps.map h := by
  apply List.ext_getElem
  · simp
  · intro i h1 h2
    have hi : i < taps.length := by simpa using h1
    simp [List.getD_eq_getElem?_getD, hi]
def crossSum (xs : List (Int × Int)) (ts : List Int) (taps : List (Nat × Int)) : Int := isum (taps.map fun t => crossUp xs ts t.1 t.2 xs.length)
theorem cross_sum (hE : Bus.bothErr nets n order = 0) (ts : List Int) : crossOf nets order ts 1099511627776 = crossSum (extsOf nets order) ts (tapFrom (Bus.atUp order order.length) 0 (nets.map Prod.snd)) := by
  obtain ⟨e1, e2⟩ := both_iff.1 hE
  obtain ⟨n1, n97, l64, _⟩ := Bus.netsErr_zero e1
  have hT := taps_few (l := mkNets nets) (n := n) (by rw [mkNets_net]; exact e1) (Bus.atUp order order.length)
  have e : (mkNets nets).map NetAt.cols = nets.map Prod.snd := by
    have : (mkNets nets).map NetAt.cols = ((mkNets nets).map NetAt.net).map Prod.snd := by rw [List.map_map]; rfl
    rw [this, mkNets_net]
  rw [e] at hT
  have hxl := extsOf_len nets order
  unfold crossOf
  have hf : ∀ x, 0 ≤ tapF (extsOf nets order) ts (tapFrom (Bus.atUp order order.length) 0 (nets.map Prod.snd)) x ∧ tapF (extsOf nets order) ts (tapFrom (Bus.atUp order order.length) 0 (nets.map Prod.snd)) x ≤ (64 : Nat) := fun x => by
    unfold tapF
    have := crossUp_lo (extsOf nets order) ts ((tapFrom (Bus.atUp order order.length) 0 (nets.map Prod.snd)).getD x (0, 0)).1 ((tapFrom (Bus.atUp order order.length) 0 (nets.map Prod.snd)).getD x (0, 0)).2 (extsOf nets order).length
    omega
  have hb : (List.range (tapFrom (Bus.atUp order order.length) 0 (nets.map Prod.snd)).length).length * 64 ≤ 6208 * 64 := Nat.mul_le_mul_right _ (by rw [List.length_range]; exact hT)
  have hr := run_free _ 1099511627776 64 hf (List.range (tapFrom (Bus.atUp order order.length) 0 (nets.map Prod.snd)).length) 0 (Int.le_refl _) (by omega)
  have hr2 := congrArg Prod.fst hr
  refine hr2.trans ?_
  show 0 + isum _ = crossSum _ _ _
  rw [Int.zero_add]
  unfold crossSum
  rw [← range_getD]
  rfl
end
end Go.Proofs.YtbldpojkpmafpaaGreatDoor

/- Package bus and its reference, plain: the crossings, the table of the tracks, the bound. -/
namespace Go.Proofs.YtbldpojkpmafpaaGreatDoor
open Go.RowKit Sv
set_option linter.unusedVariables false
def sm (f : Nat → Int) : Nat → Int
  | 0 => 0
  | k + 1 => sm f k + f k
theorem sm_congr {f g : Nat → Int} : ∀ {n : Nat}, (∀ k, k < n → f k = g k) → sm f n = sm g n
  | 0, _ => rfl
  | n + 1, h => by rw [sm, sm, sm_congr fun k hk => h k (by omega), h n (by omega)]
theorem sm_add (f g : Nat → Int) : ∀ n, sm (fun k => f k + g k) n = sm f n + sm g n
  | 0 => rfl
  | n + 1 => by rw [sm, sm, sm, sm_add f g n]; omega
theorem sm_zero : ∀ n, sm (fun _ => 0) n = 0
  | 0 => rfl
  | n + 1 => by rw [sm, sm_zero n]; rfl
theorem sm_swap (f : Nat → Nat → Int) (m : Nat) : ∀ n, sm (fun i => sm (f i) m) n = sm (fun j => sm (fun i => f i j) n) m
  | 0 => by
    show (0 : Int) = sm (fun _ => 0) m
    rw [sm_zero]
  | n + 1 => by
    rw [sm, sm_swap f m n, ← sm_add]; rfl
theorem sm_cons (f : Nat → Int) : ∀ n, sm f (n + 1) = f 0 + sm (fun k => f (k + 1)) n
  | 0 => by simp [sm]
  | n + 1 => by rw [sm, sm_cons f n, sm]; omega
theorem sm_ite (p : Prop) [Decidable p] (f : Nat → Int) (n : Nat) : sm (fun k => if p then f k else 0) n = if p then sm f n else 0 := by
  by_cases h : p
  · simp only [if_pos h]
  · simp only [if_neg h, sm_zero]
theorem sm_bd {f : Nat → Int} {L : Int} : ∀ {n : Nat}, (∀ k, k < n → 0 ≤ f k ∧ f k ≤ L) → 0 ≤ sm f n ∧ sm f n ≤ n * L
  | 0, _ => by simp [sm]
  | n + 1, h => by
    obtain ⟨h1, h2⟩ := sm_bd (n := n) fun k hk => h k (by omega)
    obtain ⟨h3, h4⟩ := h n (by omega)
    have e : ((n + 1 : Nat) : Int) * L = n * L + L := by rw [Int.natCast_add, Int.add_mul]; simp
    rw [sm, e]; omega
theorem isum_sm (g : Int → Int) : ∀ l : List Int, isum (l.map g) = sm (fun k => g (l.getD k 0)) l.length
  | [] => rfl
  | x :: r => by
    show g x + isum (r.map g) = _
    rw [List.length_cons, sm_cons, isum_sm g r]; simp
theorem tap_sm (h : Nat × Int → Int) (F : Nat → Int) : ∀ (ls : List (List Int)) (i : Nat), isum ((tapFrom F i ls).map h) = sm (fun j => sm (fun c => h (i + j, F ((ls.getD j []).getD c 0).toNat)) (ls.getD j []).length) ls.length
  | [], i => rfl
  | c :: r, i => by
    show isum ((c.map (fun x => (i, F x.toNat)) ++ tapFrom F (i + 1) r).map h) = _
    rw [List.map_append, isum_app, List.map_map, tap_sm h F r (i + 1), List.length_cons, sm_cons]
    have e := isum_sm (h ∘ fun x => (i, F x.toNat)) c
    rw [e]
    congr 1
    refine sm_congr fun j _ => ?_
    have : i + 1 + j = i + (j + 1) := by omega
    rw [this]; simp
theorem pick_isum (f : Int → Int) (t : Int) : ∀ u : List Int, u.Nodup → isum (u.map fun x => if t = x then f x else 0) = if t ∈ u then f t else 0
  | [], _ => by simp [isum]
  | x :: r, h => by
    obtain ⟨h1, h2⟩ := List.nodup_cons.1 h
    have ih := pick_isum f t r h2
    show (if t = x then f x else 0) + isum (r.map _) = _
    rw [ih]
    by_cases e : t = x
    · subst e
      rw [if_pos rfl, if_neg h1, if_pos List.mem_cons_self]; omega
    · rw [if_neg e]
      by_cases hm : t ∈ r
      · rw [if_pos hm, if_pos (List.mem_cons_of_mem _ hm)]; omega
      · rw [if_neg hm, if_neg (by intro hh; rcases List.mem_cons.1 hh with hh | hh; exact e hh; exact hm hh)]; rfl
theorem pick_sm (f : Int → Int) (t : Int) (u : List Int) (hu : u.Nodup) (ht : t ∈ u) : sm (fun i => if t = u.getD i 0 then f (u.getD i 0) else 0) u.length = f t := by
  have := pick_isum f t u hu
  rw [if_pos ht, isum_sm] at this
  exact this

def ovR (nets : List (Int × List Int)) (order ts : List Int) (tr p : Int) (i : Nat) : Int := sm (fun k => if ts.getD k 0 = tr ∧ covR (refExt order (nets.getD k (0, [])).2) p = true then 1 else 0) i
def tapR (nets : List (Int × List Int)) (order ts : List Int) (below : Int) (j c : Nat) : Int := sm (fun c => ovR nets order ts below (Bus.pos order ((nets.getD j (0, [])).2.getD c 0)) nets.length) c
def undR (nets : List (Int × List Int)) (order ts : List Int) (below above : Int) (i : Nat) : Int := sm (fun j => if ts.getD j 0 = above then tapR nets order ts below j (nets.getD j (0, [])).2.length else 0) i
def usedR (ts : List Int) : Nat → List Int
  | 0 => []
  | t + 1 => if (t : Int) ∈ ts then usedR ts t ++ [(t : Int)] else usedR ts t
def crsRow (nets : List (Int × List Int)) (order ts u : List Int) (i k : Nat) : Int := sm (fun k => undR nets order ts (u.getD k 0) (u.getD i 0) nets.length) k
def crsR (nets : List (Int × List Int)) (order ts u : List Int) (i : Nat) : Int := sm (fun i => crsRow nets order ts u i i) i
theorem used_mem (ts : List Int) (x : Int) : ∀ t, x ∈ usedR ts t ↔ x ∈ ts ∧ 0 ≤ x ∧ x < t
  | 0 => by simp [usedR]
  | t + 1 => by
    have ih := used_mem ts x t
    unfold usedR
    split
    · rename_i h
      rw [List.mem_append, ih, List.mem_singleton]
      constructor
      · rintro (⟨a, b, c⟩ | rfl)
        · exact ⟨a, b, by omega⟩
        · exact ⟨h, by omega, by omega⟩
      · rintro ⟨a, b, c⟩
        by_cases e : x = t
        · exact .inr e
        · exact .inl ⟨a, b, by omega⟩
    · rename_i h
      rw [ih]
      constructor
      · rintro ⟨a, b, c⟩; exact ⟨a, b, by omega⟩
      · rintro ⟨a, b, c⟩
        refine ⟨a, b, ?_⟩
        by_cases e : x = t
        · subst e; exact absurd a h
        · omega
theorem used_asc (ts : List Int) : ∀ t, (usedR ts t).Pairwise (· < ·)
  | 0 => List.Pairwise.nil
  | t + 1 => by
    have ih := used_asc ts t
    unfold usedR
    split
    · rw [List.pairwise_append]
      refine ⟨ih, List.pairwise_singleton _ _, fun x hx y hy => ?_⟩
      rw [List.mem_singleton] at hy; subst hy
      exact ((used_mem ts x t).1 hx).2.2
    · exact ih
theorem used_len (ts : List Int) : ∀ t, (usedR ts t).length ≤ t
  | 0 => by simp [usedR]
  | t + 1 => by
    have ih := used_len ts t
    unfold usedR
    split
    · simp; omega
    · omega
theorem asc_nodup {u : List Int} (h : u.Pairwise (· < ·)) : u.Nodup := by
  unfold List.Nodup
  exact h.imp fun h e => by omega
theorem asc_lt {u : List Int} (h : u.Pairwise (· < ·)) {i k : Nat} (hi : i < u.length) (hk : k < u.length) : u.getD k 0 < u.getD i 0 ↔ k < i := by
  have key : ∀ {a b : Nat}, a < u.length → b < u.length → a < b → u.getD a 0 < u.getD b 0 := fun {a b} ha hb hab => by
    have := List.pairwise_iff_getElem.1 h a b ha hb hab
    simpa [List.getD_eq_getElem?_getD, ha, hb] using this
  constructor
  · intro hlt
    by_cases e : k < i
    · exact e
    · rcases Nat.lt_or_ge i k with g | g
      · have := key hi hk g; omega
      · obtain rfl : k = i := by omega
        omega
  · exact key hk hi
theorem sm_below (f : Nat → Int) (i : Nat) : ∀ m, i ≤ m → sm (fun k => if k < i then f k else 0) m = sm f i
  | 0, h => by obtain rfl : i = 0 := by omega
               rfl
  | m + 1, h => by
    rw [sm]
    by_cases e : i = m + 1
    · subst e
      rw [if_pos (by omega), sm]
      congr 1
      exact sm_congr fun k hk => by rw [if_pos (by omega)]
    · rw [sm_below f i m (by omega), if_neg (by omega)]; omega
theorem pairs_sm {u : List Int} (h : u.Pairwise (· < ·)) (g : Int → Int → Int) : sm (fun i => sm (fun k => g (u.getD k 0) (u.getD i 0)) i) u.length = sm (fun i => sm (fun k => if u.getD k 0 < u.getD i 0 then g (u.getD k 0) (u.getD i 0) else 0) u.length) u.length :=
  sm_congr fun i hi => by
    rw [← sm_below (fun k => g (u.getD k 0) (u.getD i 0)) i u.length (by omega)]
    refine sm_congr fun k hk => ?_
    have := asc_lt h hi hk
    by_cases e : k < i
    · rw [if_pos e, if_pos (this.2 e)]
    · rw [if_neg e, if_neg fun hh => e (this.1 hh)]
theorem pick_cond (a b : Prop) [Decidable a] [Decidable b] (x : Int) : (if a then (if b then x else 0) else 0) = if b then (if a then x else 0) else 0 := by
  by_cases ha : a <;> by_cases hb : b <;> simp [ha, hb]
theorem ite_swap3 (a b c : Prop) [Decidable a] [Decidable b] [Decidable c] : (if a then (if b ∧ c then (1 : Int) else 0) else 0) = if b then (if a ∧ c then 1 else 0) else 0 := by
  by_cases ha : a <;> by_cases hb : b <;> simp [ha, hb]
theorem below_pick {u ts : List Int} (hu : u.Nodup) {n : Nat} (hm : ∀ k, k < n → ts.getD k 0 ∈ u) (t : Int) (q : Nat → Bool) :
    sm (fun k => if u.getD k 0 < t then sm (fun j => if ts.getD j 0 = u.getD k 0 ∧ q j = true then 1 else 0) n else 0) u.length = sm (fun j => if ts.getD j 0 < t ∧ q j = true then 1 else 0) n := by
  have e1 : sm (fun k => if u.getD k 0 < t then sm (fun j => if ts.getD j 0 = u.getD k 0 ∧ q j = true then 1 else 0) n else 0) u.length = sm (fun k => sm (fun j => if ts.getD j 0 = u.getD k 0 then (if u.getD k 0 < t ∧ q j = true then 1 else 0) else 0) n) u.length :=
    sm_congr fun k _ => by
      rw [← sm_ite]
      refine sm_congr fun j _ => ?_
      exact ite_swap3 _ _ _
  rw [e1, sm_swap]
  refine sm_congr fun j hj => ?_
  exact pick_sm (fun x => if x < t ∧ q j = true then 1 else 0) (ts.getD j 0) u hu (hm j hj)
theorem crs_eq (nets : List (Int × List Int)) (order ts u : List Int) (hu : u.Pairwise (· < ·)) (hm : ∀ k, k < nets.length → ts.getD k 0 ∈ u) :
    crsR nets order ts u u.length = sm (fun j => sm (fun c => sm (fun k => if ts.getD k 0 < ts.getD j 0 ∧ covR (refExt order (nets.getD k (0, [])).2) (Bus.pos order ((nets.getD j (0, [])).2.getD c 0)) = true then 1 else 0) nets.length) (nets.getD j (0, [])).2.length) nets.length := by
  have h1 : crsR nets order ts u u.length = sm (fun i => sm (fun k => if u.getD k 0 < u.getD i 0 then undR nets order ts (u.getD k 0) (u.getD i 0) nets.length else 0) u.length) u.length := pairs_sm hu fun b a => undR nets order ts b a nets.length
  have h2 : ∀ i, sm (fun k => if u.getD k 0 < u.getD i 0 then undR nets order ts (u.getD k 0) (u.getD i 0) nets.length else 0) u.length =
      sm (fun j => if ts.getD j 0 = u.getD i 0 then sm (fun k => if u.getD k 0 < u.getD i 0 then tapR nets order ts (u.getD k 0) j (nets.getD j (0, [])).2.length else 0) u.length else 0) nets.length := fun i => by
    have e : ∀ k, (if u.getD k 0 < u.getD i 0 then undR nets order ts (u.getD k 0) (u.getD i 0) nets.length else 0) = sm (fun j => if ts.getD j 0 = u.getD i 0 then (if u.getD k 0 < u.getD i 0 then tapR nets order ts (u.getD k 0) j (nets.getD j (0, [])).2.length else 0) else 0) nets.length := fun k => by
      unfold undR
      rw [← sm_ite]
      exact sm_congr fun j _ => pick_cond _ _ _
    rw [sm_congr fun k _ => e k, sm_swap]
    exact sm_congr fun j _ => sm_ite _ _ _
  rw [h1, sm_congr fun i _ => h2 i, sm_swap]
  refine sm_congr fun j hj => ?_
  rw [pick_sm (fun t => sm (fun k => if u.getD k 0 < t then tapR nets order ts (u.getD k 0) j (nets.getD j (0, [])).2.length else 0) u.length) (ts.getD j 0) u (asc_nodup hu) (hm j hj)]
  have h3 : ∀ k, (if u.getD k 0 < ts.getD j 0 then tapR nets order ts (u.getD k 0) j (nets.getD j (0, [])).2.length else 0) = sm (fun c => if u.getD k 0 < ts.getD j 0 then ovR nets order ts (u.getD k 0) (Bus.pos order ((nets.getD j (0, [])).2.getD c 0)) nets.length else 0) (nets.getD j (0, [])).2.length := fun k => by
    unfold tapR
    rw [sm_ite]
  rw [sm_congr fun k _ => h3 k, sm_swap]
  exact sm_congr fun c _ => below_pick (asc_nodup hu) hm (ts.getD j 0) fun k => covR (refExt order (nets.getD k (0, [])).2) (Bus.pos order ((nets.getD j (0, [])).2.getD c 0))

theorem isum_bd {α : Type} (f : α → Int) (L : Nat) (h : ∀ x, 0 ≤ f x ∧ f x ≤ L) : ∀ l : List α, 0 ≤ isum (l.map f) ∧ isum (l.map f) ≤ (l.length * L : Nat)
  | [] => by simp [isum]
  | x :: r => by
    have h1 := isum_bd f L h r
    have h2 := h x
    have e : ((x :: r).length * L : Nat) = r.length * L + L := by rw [List.length_cons, Nat.add_mul, Nat.one_mul]
    rw [e]
    show 0 ≤ f x + isum (r.map f) ∧ f x + isum (r.map f) ≤ _
    omega
theorem cross_up_sm (xs : List (Int × Int)) (ts : List Int) (i : Nat) (p : Int) : ∀ k, crossUp xs ts i p k = sm (fun k => if ts.getD k 0 < ts.getD i 0 ∧ covB xs k p = true then 1 else 0) k
  | 0 => rfl
  | k + 1 => by
    rw [crossUp, cross_up_sm xs ts i p k, sm]
    congr 1
    by_cases b : covB xs k p = true
    · rw [b, Bool.and_true]; simp
    · have b : covB xs k p = false := by simpa using b
      rw [b, Bool.and_false]; simp
theorem cols_at (nets : List (Int × List Int)) (j : Nat) : (nets.map Prod.snd).getD j [] = (nets.getD j (0, [])).2 := by
  simp only [List.getD_eq_getElem?_getD, List.getElem?_map]
  cases nets[j]? <;> rfl
theorem cov_at {nets : List (Int × List Int)} {n : Int} {order : List Int} (hE : Bus.bothErr nets n order = 0) {k : Nat} (hk : k < nets.length) (p : Int) : covB (extsOf nets order) k p = covR (refExt order (nets.getD k (0, [])).2) p := by
  unfold covB covR
  rw [(ext_at hE k hk).1]
theorem pos_at {nets : List (Int × List Int)} {n : Int} {order : List Int} (hE : Bus.bothErr nets n order = 0) {j c : Nat} (hj : j < nets.length) (hc : c < (nets.getD j (0, [])).2.length) :
    Bus.atUp order order.length ((nets.getD j (0, [])).2.getD c 0).toNat = Bus.pos order ((nets.getD j (0, [])).2.getD c 0) := by
  obtain ⟨e1, e2⟩ := both_iff.1 hE
  obtain ⟨n1, n97, l64, hcols⟩ := Bus.netsErr_zero e1
  obtain ⟨on, ond, oin⟩ := Bus.orderErr_zero e2
  have hm : (nets.getD j (0, [])).2.getD c 0 ∈ (nets.getD j (0, [])).2 := by
    rw [getD_lt hc]; exact List.getElem_mem _
  have h0 := (hcols _ (getN_mem hj)).2 _ hm
  generalize (nets.getD j (0, [])).2.getD c 0 = x at *
  obtain ⟨X, rfl⟩ : ∃ X : Nat, x = (X : Int) := ⟨x.toNat, by omega⟩
  rw [Int.toNat_natCast]
  exact atUp_pos order ond X (has_all order.length order ond rfl (fun d hd => by have := oin d hd; omega) _ h0.1 (by omega))
theorem crs_same {nets : List (Int × List Int)} {n : Int} {order ts u : List Int} (hE : Bus.bothErr nets n order = 0) (hu : u.Pairwise (· < ·)) (hm : ∀ k, k < nets.length → ts.getD k 0 ∈ u) :
    crossOf nets order ts 1099511627776 = crsR nets order ts u u.length := by
  rw [cross_sum hE, crs_eq nets order ts u hu hm]
  unfold crossSum
  rw [tap_sm, List.length_map]
  refine sm_congr fun j hj => ?_
  rw [cols_at]
  refine sm_congr fun c hc => ?_
  rw [cross_up_sm, extsOf_len, Nat.zero_add]
  refine sm_congr fun k hk => ?_
  simp only [cov_at hE hk, pos_at hE hj hc]
end Go.Proofs.YtbldpojkpmafpaaGreatDoor
