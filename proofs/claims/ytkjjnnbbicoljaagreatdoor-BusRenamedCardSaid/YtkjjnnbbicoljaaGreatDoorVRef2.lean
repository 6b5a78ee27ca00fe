/- The law's own words of package bus: SameInts, ints, light, and what CheckNets, CheckOrder of the reference return, as contracts on plain data. -/
import Derived.Test.YtkjjnnbbicoljaaGreatDoorVRef1
import Derived.Test.YtkjjnnbbicoljaaGreatDoorBusDen
import Derived.Test.YtkjjnnbbicoljaaGreatDoorBusRefNets
namespace Go.Proofs.YtkjjnnbbicoljaaGreatDoor
open Go.RowKit Sv
set_option maxRecDepth 100000
set_option linter.unusedVariables false
noncomputable section
abbrev nv (l : List (Int × List Int)) : AV := .lst false (.pair (.int .i64) (.list false (.int .i64))) l

/-! ### SameInts -/
def BSame : Code := (Tryz.f22.body).getD .skip
def SSame (a b : List Int) (k : Nat) : St := { n := 26, sl := [(0, lv a), (1, lv b), (5, iv k)], en := [], next := 64 }
theorem same_start (a b : List Int) (h1 : (↑(List.length a) : Int) = (↑(List.length b) : Int)) :
    Tst.path (vrun0 Tryz.prog (ctrs []) (fl BSame []) 4 26 [lv a, lv b]) [false] (toSt Tryz.prog 26 .normal [] (SSame a b 0)) := by
  have eTst : (Tst.path (vrun0 Tryz.prog (ctrs []) (fl BSame []) 4 26 [lv a, lv b]) [false] (toSt Tryz.prog 26 .normal [] (SSame a b 0))) = ((((↑(List.length a) : Int) != (↑(List.length b) : Int)) = false) ∧ ((a) = (a)) ∧ ((b) = (b)) ∧ (((0 : Int)) = ((↑(0 : Nat) : Int))) ∧ True) := by kernel_rfl
  exact eTst.mpr ⟨bne_eq_false_iff_eq.mpr h1, ⟨rfl, ⟨rfl, ⟨rfl, trivial⟩⟩⟩⟩
theorem same_other (a b : List Int) (h1 : ¬(↑(List.length a) : Int) = (↑(List.length b) : Int)) :
    Tst.path (vrun0 Tryz.prog (ctrs []) (fl BSame []) 4 26 [lv a, lv b]) [true] (toRet Tryz.prog Tryz.f22 true (bv false)) := by
  have eTst : (Tst.path (vrun0 Tryz.prog (ctrs []) (fl BSame []) 4 26 [lv a, lv b]) [true] (toRet Tryz.prog Tryz.f22 true (bv false))) = ((((↑(List.length a) : Int) != (↑(List.length b) : Int)) = true) ∧ (false) = false) := by kernel_rfl
  exact eTst.mpr ⟨bne_iff_ne.mpr h1, rfl⟩
theorem same_go (a b : List Int) (k : Nat) (h1 : (↑k : Int) < (↑(List.length a) : Int)) (h2 : k < List.length a) (h3 : k < List.length b) (h4 : List.getD a k (0 : Int) = List.getD b k (0 : Int)) (h5 : -9223372036854775808 ≤ (↑k : Int) + (1 : Int) ∧ (↑k : Int) + (1 : Int) ≤ 9223372036854775807) :
    Tst.path (vall Tryz.prog (ctrs []) (fl BSame [1,1,0,1,0,0]) (SSame a b k)) [true, false] (toSt Tryz.prog 26 .normal [] (SSame a b (k + 1))) := by
  have eTst : (Tst.path (vall Tryz.prog (ctrs []) (fl BSame [1,1,0,1,0,0]) (SSame a b k)) [true, false] (toSt Tryz.prog 26 .normal [] (SSame a b (k + 1)))) = (((decide ((↑k : Int) < (↑(List.length a) : Int))) = true) ∧ ((decide ((0 : Int) ≤ (↑k : Int))) = true) ∧ ((decide (k < List.length a)) = true) ∧ ((AV.same (AV.raw (Value.int IntKind.i64 (List.getD a k (0 : Int)))) (AV.raw (Value.int IntKind.i64 (List.getD a k (0 : Int))))) = true) ∧ ((decide ((0 : Int) ≤ (↑k : Int))) = true) ∧ ((decide (k < List.length b)) = true) ∧ ((AV.same (AV.raw (Value.int IntKind.i64 (List.getD b k (0 : Int)))) (AV.raw (Value.int IntKind.i64 (List.getD b k (0 : Int))))) = true) ∧ ((List.getD a k (0 : Int) != List.getD b k (0 : Int)) = false) ∧ ((fits IntKind.i64 ((↑k : Int) + (1 : Int))) = true) ∧ ((a) = (a)) ∧ ((b) = (b)) ∧ (((↑k : Int) + (1 : Int)) = ((↑(k + (1 : Nat)) : Int))) ∧ True) := by kernel_rfl
  exact eTst.mpr ⟨decide_eq_true h1, ⟨decide_eq_true (by omega), ⟨decide_eq_true h2, ⟨same_refl (by kernel_rfl), ⟨decide_eq_true (by omega), ⟨decide_eq_true h3, ⟨same_refl (by kernel_rfl), ⟨bne_eq_false_iff_eq.mpr h4, ⟨fits_i64 h5, ⟨rfl, ⟨rfl, ⟨(by omega), trivial⟩⟩⟩⟩⟩⟩⟩⟩⟩⟩⟩⟩
theorem same_hit (a b : List Int) (k : Nat) (h1 : (↑k : Int) < (↑(List.length a) : Int)) (h2 : k < List.length a) (h3 : k < List.length b) (h4 : ¬List.getD a k (0 : Int) = List.getD b k (0 : Int)) :
    Tst.path (vall Tryz.prog (ctrs []) (fl BSame [1,1,0,1,0,0]) (SSame a b k)) [true, true] (toRet Tryz.prog Tryz.f22 true (bv false)) := by
  have eTst : (Tst.path (vall Tryz.prog (ctrs []) (fl BSame [1,1,0,1,0,0]) (SSame a b k)) [true, true] (toRet Tryz.prog Tryz.f22 true (bv false))) = (((decide ((↑k : Int) < (↑(List.length a) : Int))) = true) ∧ ((decide ((0 : Int) ≤ (↑k : Int))) = true) ∧ ((decide (k < List.length a)) = true) ∧ ((AV.same (AV.raw (Value.int IntKind.i64 (List.getD a k (0 : Int)))) (AV.raw (Value.int IntKind.i64 (List.getD a k (0 : Int))))) = true) ∧ ((decide ((0 : Int) ≤ (↑k : Int))) = true) ∧ ((decide (k < List.length b)) = true) ∧ ((AV.same (AV.raw (Value.int IntKind.i64 (List.getD b k (0 : Int)))) (AV.raw (Value.int IntKind.i64 (List.getD b k (0 : Int))))) = true) ∧ ((List.getD a k (0 : Int) != List.getD b k (0 : Int)) = true) ∧ (false) = false) := by kernel_rfl
  exact eTst.mpr ⟨decide_eq_true h1, ⟨decide_eq_true (by omega), ⟨decide_eq_true h2, ⟨same_refl (by kernel_rfl), ⟨decide_eq_true (by omega), ⟨decide_eq_true h3, ⟨same_refl (by kernel_rfl), ⟨bne_iff_ne.mpr h4, rfl⟩⟩⟩⟩⟩⟩⟩⟩
theorem same_end (a b : List Int) (k : Nat) (h1 : ¬(↑k : Int) < (↑(List.length a) : Int)) :
    Tst.path (vall Tryz.prog (ctrs []) (fl BSame [1,1,0,1,0,0]) (SSame a b k)) [false] (toSt Tryz.prog 26 (.exit 0) [] (SSame a b k)) := by
  have eTst : (Tst.path (vall Tryz.prog (ctrs []) (fl BSame [1,1,0,1,0,0]) (SSame a b k)) [false] (toSt Tryz.prog 26 (.exit 0) [] (SSame a b k))) = (((decide ((↑k : Int) < (↑(List.length a) : Int))) = false) ∧ ((a) = (a)) ∧ ((b) = (b)) ∧ (((↑k : Int)) = ((↑k : Int))) ∧ True) := by kernel_rfl
  exact eTst.mpr ⟨decide_eq_false h1, ⟨rfl, ⟨rfl, ⟨rfl, trivial⟩⟩⟩⟩
theorem same_yes (a b : List Int) (k : Nat)  :
    Tst.path (vall Tryz.prog (ctrs []) (List.drop 5 (fl BSame [])) (SSame a b k)) [] (toRet Tryz.prog Tryz.f22 true (bv true)) := by
  have eTst : (Tst.path (vall Tryz.prog (ctrs []) (List.drop 5 (fl BSame [])) (SSame a b k)) [] (toRet Tryz.prog Tryz.f22 true (bv true))) = ((true) = true) := by kernel_rfl
  exact eTst.mpr rfl
theorem take_eq_next {a b : List Int} {k : Nat} (h1 : k < a.length) (h2 : k < b.length) (h : a.take k = b.take k) (hh : a.getD k 0 = b.getD k 0) : a.take (k + 1) = b.take (k + 1) := by
  rw [take_next h1, take_next h2, h, hh]
theorem same_holds (a b : List Int) (hl : a.length ≤ 1000000) : Holds Tryz.prog true 22 [lv a, lv b] (bv (decide (a = b))) := by
  have hS := none_ok
  refine holds_fl (c := BSame) Tryz.func22 rfl rfl fun w F => ?_
  by_cases hn : a.length = b.length
  · refine GoalL.to known mixed hS 4 _ (same_start a b (by omega)) (by kernel_rfl) ?_
    refine GoalL.loop (ι := { k : Nat // k ≤ a.length ∧ a.take k = b.take k }) (id := 0) (b := cat BSame [1,1,0,1,0,0]) (rest := List.drop 5 (fl BSame [])) (by kernel_rfl) (fun k => SSame a b k.1) (fun k => a.length - k.1) ⟨0, Nat.zero_le _, by simp⟩ (fun _ => rfl) ?_
    rintro ⟨k, hk, hx⟩
    by_cases hlt : k < a.length
    · by_cases hh : a.getD k 0 = b.getD k 0
      · refine GoalL.all (s := SSame a b k) known mixed hS _ (same_go a b k (by omega) (by omega) (by omega) hh (by omega)) (by kernel_rfl) ?_
        exact ⟨⟨k + 1, hlt, take_eq_next hlt (by omega) hx hh⟩, by simp; omega, rfl, rfl⟩
      · refine GoalL.allRet (s := SSame a b k) known mixed hS _ (same_hit a b k (by omega) (by omega) (by omega) hh) fun T H h => ?_
        rw [decide_eq_false (fun e => hh (by rw [e]))]; exact h
    · refine GoalL.all (s := SSame a b k) known mixed hS _ (same_end a b k (by omega)) (by kernel_rfl) ?_
      refine onN_exit (inB_exit ?_)
      obtain rfl : k = a.length := by omega
      rw [List.take_length] at hx
      rw [hn, List.take_length] at hx
      refine GoalL.allRet (s := SSame a b a.length) known mixed hS _ (same_yes a b _) fun T H h => ?_
      rw [decide_eq_true hx]; exact h
  · refine GoalL.ret known mixed hS 4 _ (same_other a b (by omega)) fun T H h => ?_
    rw [decide_eq_false (fun e => hn (by rw [e]))]; exact h
noncomputable def cSame : Ctr := { f := 22, ps := [.list false (.int .i64), .list false (.int .i64)], rs := [.bool], fresh := true, pre := fun d => decide (List.length (α := Int) d.1 ≤ 1000000), fn := fun d => ((decide ((d.1 : List Int) = (d.2.1 : List Int)) : Bool), ()) }
theorem cSame_ok : cSame.Ok Tryz.prog := fun d h => same_holds d.1 d.2.1 (of_decide_eq_true h)

/-! ### ints -/
def BInts : Code := (Tryz.f17.body).getD .skip
def intsB (a : List Int) (e bad : Int) (b : List Int) : Bool := if bad ≠ 0 then (if a = [] then e == bad else false) else (if e = 0 then decide (a = b) else false)
theorem ints_bad1 (a : List Int) (e bad : Int) (b : List Int) (h1 : ¬bad = (0 : Int)) (h2 : (↑(List.length a) : Int) = (0 : Int)) :
    Tst.path (vrun0 Tryz.prog (ctrs [cSame]) (fl BInts []) 5 26 [lv a, iv e, iv bad, lv b]) [true, true, true, true, true] (toRet Tryz.prog Tryz.f17 true (bv (e == bad))) := by
  have eTst : (Tst.path (vrun0 Tryz.prog (ctrs [cSame]) (fl BInts []) 5 26 [lv a, iv e, iv bad, lv b]) [true, true, true, true, true] (toRet Tryz.prog Tryz.f17 true (bv (e == bad)))) = (((bad != (0 : Int)) = true) ∧ ((((↑(List.length a) : Int) == (0 : Int)) == true) = true) ∧ ((((↑(List.length a) : Int) == (0 : Int)) == true) = true) ∧ ((((↑(List.length a) : Int) == (0 : Int)) == true) = true) ∧ (((↑(List.length a) : Int) == (0 : Int)) = true) ∧ (e == bad) = (e == bad)) := by kernel_rfl
  exact eTst.mpr ⟨bne_iff_ne.mpr h1, ⟨congrArg (fun y => y == true) (show ((↑(List.length a) : Int) == (0 : Int)) = true from beq_iff_eq.mpr h2), ⟨congrArg (fun y => y == true) (show ((↑(List.length a) : Int) == (0 : Int)) = true from beq_iff_eq.mpr h2), ⟨congrArg (fun y => y == true) (show ((↑(List.length a) : Int) == (0 : Int)) = true from beq_iff_eq.mpr h2), ⟨beq_iff_eq.mpr h2, rfl⟩⟩⟩⟩⟩
theorem ints_bad2 (a : List Int) (e bad : Int) (b : List Int) (h1 : ¬bad = (0 : Int)) (h2 : ¬(↑(List.length a) : Int) = (0 : Int)) :
    Tst.path (vrun0 Tryz.prog (ctrs [cSame]) (fl BInts []) 5 26 [lv a, iv e, iv bad, lv b]) [true, false, false, false, false] (toRet Tryz.prog Tryz.f17 true (bv false)) := by
  have eTst : (Tst.path (vrun0 Tryz.prog (ctrs [cSame]) (fl BInts []) 5 26 [lv a, iv e, iv bad, lv b]) [true, false, false, false, false] (toRet Tryz.prog Tryz.f17 true (bv false))) = (((bad != (0 : Int)) = true) ∧ ((((↑(List.length a) : Int) == (0 : Int)) == true) = false) ∧ ((((↑(List.length a) : Int) == (0 : Int)) == true) = false) ∧ ((((↑(List.length a) : Int) == (0 : Int)) == true) = false) ∧ (((↑(List.length a) : Int) == (0 : Int)) = false) ∧ (false) = false) := by kernel_rfl
  exact eTst.mpr ⟨bne_iff_ne.mpr h1, ⟨congrArg (fun y => y == true) (show ((↑(List.length a) : Int) == (0 : Int)) = false from beq_eq_false_iff_ne.mpr h2), ⟨congrArg (fun y => y == true) (show ((↑(List.length a) : Int) == (0 : Int)) = false from beq_eq_false_iff_ne.mpr h2), ⟨congrArg (fun y => y == true) (show ((↑(List.length a) : Int) == (0 : Int)) = false from beq_eq_false_iff_ne.mpr h2), ⟨beq_eq_false_iff_ne.mpr h2, rfl⟩⟩⟩⟩⟩
theorem ints_good1 (a : List Int) (e bad : Int) (b : List Int) (h1 : bad = (0 : Int)) (h2 : e = (0 : Int)) (h3 : List.length a ≤ (1000000 : Nat)) :
    Tst.path (vrun0 Tryz.prog (ctrs [cSame]) (fl BInts []) 5 26 [lv a, iv e, iv bad, lv b]) [false, true, true, true, true] (toRet Tryz.prog Tryz.f17 true (bv (decide (a = b)))) := by
  have eTst : (Tst.path (vrun0 Tryz.prog (ctrs [cSame]) (fl BInts []) 5 26 [lv a, iv e, iv bad, lv b]) [false, true, true, true, true] (toRet Tryz.prog Tryz.f17 true (bv (decide (a = b))))) = (((bad != (0 : Int)) = false) ∧ (((e == (0 : Int)) == true) = true) ∧ (((e == (0 : Int)) == true) = true) ∧ (((e == (0 : Int)) == true) = true) ∧ ((decide (List.length a ≤ (1000000 : Nat))) = true) ∧ ((e == (0 : Int)) = true) ∧ (decide (a = b)) = (decide (a = b))) := by kernel_rfl
  exact eTst.mpr ⟨bne_eq_false_iff_eq.mpr h1, ⟨congrArg (fun y => y == true) (show (e == (0 : Int)) = true from beq_iff_eq.mpr h2), ⟨congrArg (fun y => y == true) (show (e == (0 : Int)) = true from beq_iff_eq.mpr h2), ⟨congrArg (fun y => y == true) (show (e == (0 : Int)) = true from beq_iff_eq.mpr h2), ⟨decide_eq_true h3, ⟨beq_iff_eq.mpr h2, rfl⟩⟩⟩⟩⟩⟩
theorem ints_good2 (a : List Int) (e bad : Int) (b : List Int) (h1 : bad = (0 : Int)) (h2 : ¬e = (0 : Int)) :
    Tst.path (vrun0 Tryz.prog (ctrs [cSame]) (fl BInts []) 5 26 [lv a, iv e, iv bad, lv b]) [false, false, false, false, false] (toRet Tryz.prog Tryz.f17 true (bv false)) := by
  have eTst : (Tst.path (vrun0 Tryz.prog (ctrs [cSame]) (fl BInts []) 5 26 [lv a, iv e, iv bad, lv b]) [false, false, false, false, false] (toRet Tryz.prog Tryz.f17 true (bv false))) = (((bad != (0 : Int)) = false) ∧ (((e == (0 : Int)) == true) = false) ∧ (((e == (0 : Int)) == true) = false) ∧ (((e == (0 : Int)) == true) = false) ∧ ((e == (0 : Int)) = false) ∧ (false) = false) := by kernel_rfl
  exact eTst.mpr ⟨bne_eq_false_iff_eq.mpr h1, ⟨congrArg (fun y => y == true) (show (e == (0 : Int)) = false from beq_eq_false_iff_ne.mpr h2), ⟨congrArg (fun y => y == true) (show (e == (0 : Int)) = false from beq_eq_false_iff_ne.mpr h2), ⟨congrArg (fun y => y == true) (show (e == (0 : Int)) = false from beq_eq_false_iff_ne.mpr h2), ⟨beq_eq_false_iff_ne.mpr h2, rfl⟩⟩⟩⟩⟩
theorem ints_holds (a : List Int) (e bad : Int) (b : List Int) (hl : a.length ≤ 1000000) : Holds Tryz.prog true 17 [lv a, iv e, iv bad, lv b] (bv (intsB a e bad b)) := by
  have hS := one_ok cSame_ok
  refine holds_fl (c := BInts) Tryz.func17 rfl rfl fun w F => ?_
  unfold intsB
  split
  · rename_i hb
    split
    · rename_i ha
      exact GoalL.ret known mixed hS 5 _ (ints_bad1 a e bad b hb (by simp [ha])) fun T H h => h
    · rename_i ha
      exact GoalL.ret known mixed hS 5 _ (ints_bad2 a e bad b hb (by have := List.length_pos_iff.2 ha; omega)) fun T H h => h
  · rename_i hb
    have hb : bad = 0 := Classical.not_not.1 hb
    split
    · rename_i he
      exact GoalL.ret known mixed hS 5 _ (ints_good1 a e bad b hb he hl) fun T H h => h
    · rename_i he
      exact GoalL.ret known mixed hS 5 _ (ints_good2 a e bad b hb he) fun T H h => h
noncomputable def cInts : Ctr := { f := 17, ps := [.list false (.int .i64), .int .i64, .int .i64, .list false (.int .i64)], rs := [.bool], fresh := true, pre := fun d => decide (List.length (α := Int) d.1 ≤ 1000000), fn := fun d => ((intsB d.1 d.2.1 d.2.2.1 d.2.2.2.1 : Bool), ()) }
theorem cInts_ok : cInts.Ok Tryz.prog := fun d h => ints_holds d.1 d.2.1 d.2.2.1 d.2.2.2.1 (of_decide_eq_true h)

/-! ### CheckNets, CheckOrder of the reference -/
instance (x : Int) : Decidable (I64 x) := by unfold I64; infer_instance
def goodB (nets : List (Int × List Int)) : Bool := nets.all fun n => decide (I64 n.1) && n.2.all (fun c => decide (I64 c)) && decide (n.2.length ≤ 140737488355328)
noncomputable def cNets : Ctr := { f := 15, ps := [.list false (.pair (.int .i64) (.list false (.int .i64))), .int .i64], rs := [.int .i64], fresh := true, pre := fun d => goodB d.1 && decide (List.length (α := Int × List Int) d.1 ≤ 140737488355328), fn := fun d => (Bus.netsErr d.1 d.2.1, ()) }
noncomputable def cOrder : Ctr := { f := 16, ps := [.int .i64, .list false (.int .i64)], rs := [.int .i64], fresh := true, pre := fun d => decide (List.length (α := Int) d.2.1 ≤ 1000000), fn := fun d => (Bus.orderErr d.2.1 d.1, ()) }
theorem goodB_iff {nets : List (Int × List Int)} : goodB nets = true ↔ GoodNets nets := by
  unfold goodB GoodNets
  simp only [List.all_eq_true, Bool.and_eq_true, decide_eq_true_eq]
theorem cNets_ok : cNets.Ok Tryz.prog := fun ⟨nets, n, _⟩ h => holds_raw fun w F xs hF hd => by
  obtain ⟨h1, h2⟩ := Bool.and_eq_true_iff.1 h
  have hl := of_decide_eq_true h2
  cases hd with
  | cons d1 d2 =>
    cases d2 with
    | cons d2 d3 =>
      cases d3
      obtain ⟨A, c, l, rfl, rfl, hN⟩ := den_nets hF (goodB_iff.1 h1) d1
      rw [d2.raw_eq]
      refine refNets_any A c w.heap.size l n w hN (Nat.le_refl _) ?_
      simpa using hl
theorem cOrder_ok : cOrder.Ok Tryz.prog := fun ⟨n, order, _⟩ h => holds_raw fun w F xs hF hd => by
  have hl := of_decide_eq_true h
  cases hd with
  | cons d1 d2 =>
    cases d2 with
    | cons d2 d3 =>
      cases d3
      obtain ⟨A, c, rfl, hc, hR⟩ := den_ints hF d2
      rw [d1.raw_eq]
      exact refOrder_any A c w.heap.size order n w hl hc hR (Nat.le_refl _)

/-! ### light -/
def BLight : Code := (Tryz.f12.body).getD .skip
def SLight (nets : List (Int × List Int)) (n : Int) (k : Nat) : St := { n := 35, sl := [(0, nv nets), (1, iv n), (5, iv k)], en := [], next := 64 }
theorem light_start (nets : List (Int × List Int)) (n : Int) (h1 : ¬(↑(List.length nets) : Int) > (70 : Int)) :
    Tst.path (vrun0 Tryz.prog (ctrs [cNets]) (fl BLight []) 4 35 [nv nets, iv n]) [false] (toSt Tryz.prog 35 .normal [] (SLight nets n 0)) := by
  have eTst : (Tst.path (vrun0 Tryz.prog (ctrs [cNets]) (fl BLight []) 4 35 [nv nets, iv n]) [false] (toSt Tryz.prog 35 .normal [] (SLight nets n 0))) = (((decide ((↑(List.length nets) : Int) > (70 : Int))) = false) ∧ ((nets) = (nets)) ∧ ((n) = (n)) ∧ (((0 : Int)) = ((↑(0 : Nat) : Int))) ∧ True) := by kernel_rfl
  exact eTst.mpr ⟨decide_eq_false h1, ⟨rfl, ⟨rfl, ⟨rfl, trivial⟩⟩⟩⟩
theorem light_many (nets : List (Int × List Int)) (n : Int) (h1 : (↑(List.length nets) : Int) > (70 : Int)) :
    Tst.path (vrun0 Tryz.prog (ctrs [cNets]) (fl BLight []) 4 35 [nv nets, iv n]) [true] (toRet Tryz.prog Tryz.f12 true (bv false)) := by
  have eTst : (Tst.path (vrun0 Tryz.prog (ctrs [cNets]) (fl BLight []) 4 35 [nv nets, iv n]) [true] (toRet Tryz.prog Tryz.f12 true (bv false))) = (((decide ((↑(List.length nets) : Int) > (70 : Int))) = true) ∧ (false) = false) := by kernel_rfl
  exact eTst.mpr ⟨decide_eq_true h1, rfl⟩
theorem light_go (nets : List (Int × List Int)) (n : Int) (k : Nat) (h1 : (↑k : Int) < (↑(List.length nets) : Int)) (h2 : k < List.length nets) (h3 : ¬(↑(List.length (Prod.snd (List.getD nets k ((0 : Int), [])))) : Int) > (12 : Int)) (h4 : -9223372036854775808 ≤ (↑k : Int) + (1 : Int) ∧ (↑k : Int) + (1 : Int) ≤ 9223372036854775807) :
    Tst.path (vall Tryz.prog (ctrs [cNets]) (fl BLight [1,1,0,1,0,0]) (SLight nets n k)) [true, false] (toSt Tryz.prog 35 .normal [] (SLight nets n (k + 1))) := by
  have eTst : (Tst.path (vall Tryz.prog (ctrs [cNets]) (fl BLight [1,1,0,1,0,0]) (SLight nets n k)) [true, false] (toSt Tryz.prog 35 .normal [] (SLight nets n (k + 1)))) = (((decide ((↑k : Int) < (↑(List.length nets) : Int))) = true) ∧ ((decide ((0 : Int) ≤ (↑k : Int))) = true) ∧ ((decide (k < List.length nets)) = true) ∧ ((decide ((↑(List.length (Prod.snd (List.getD nets k ((0 : Int), [])))) : Int) > (12 : Int))) = false) ∧ ((fits IntKind.i64 ((↑k : Int) + (1 : Int))) = true) ∧ ((nets) = (nets)) ∧ ((n) = (n)) ∧ (((↑k : Int) + (1 : Int)) = ((↑(k + (1 : Nat)) : Int))) ∧ True) := by kernel_rfl
  exact eTst.mpr ⟨decide_eq_true h1, ⟨decide_eq_true (by omega), ⟨decide_eq_true h2, ⟨decide_eq_false h3, ⟨fits_i64 h4, ⟨rfl, ⟨rfl, ⟨(by omega), trivial⟩⟩⟩⟩⟩⟩⟩⟩
theorem light_long (nets : List (Int × List Int)) (n : Int) (k : Nat) (h1 : (↑k : Int) < (↑(List.length nets) : Int)) (h2 : k < List.length nets) (h3 : (↑(List.length (Prod.snd (List.getD nets k ((0 : Int), [])))) : Int) > (12 : Int)) :
    Tst.path (vall Tryz.prog (ctrs [cNets]) (fl BLight [1,1,0,1,0,0]) (SLight nets n k)) [true, true] (toRet Tryz.prog Tryz.f12 true (bv false)) := by
  have eTst : (Tst.path (vall Tryz.prog (ctrs [cNets]) (fl BLight [1,1,0,1,0,0]) (SLight nets n k)) [true, true] (toRet Tryz.prog Tryz.f12 true (bv false))) = (((decide ((↑k : Int) < (↑(List.length nets) : Int))) = true) ∧ ((decide ((0 : Int) ≤ (↑k : Int))) = true) ∧ ((decide (k < List.length nets)) = true) ∧ ((decide ((↑(List.length (Prod.snd (List.getD nets k ((0 : Int), [])))) : Int) > (12 : Int))) = true) ∧ (false) = false) := by kernel_rfl
  exact eTst.mpr ⟨decide_eq_true h1, ⟨decide_eq_true (by omega), ⟨decide_eq_true h2, ⟨decide_eq_true h3, rfl⟩⟩⟩⟩
theorem light_end (nets : List (Int × List Int)) (n : Int) (k : Nat) (h1 : ¬(↑k : Int) < (↑(List.length nets) : Int)) :
    Tst.path (vall Tryz.prog (ctrs [cNets]) (fl BLight [1,1,0,1,0,0]) (SLight nets n k)) [false] (toSt Tryz.prog 35 (.exit 0) [] (SLight nets n k)) := by
  have eTst : (Tst.path (vall Tryz.prog (ctrs [cNets]) (fl BLight [1,1,0,1,0,0]) (SLight nets n k)) [false] (toSt Tryz.prog 35 (.exit 0) [] (SLight nets n k))) = (((decide ((↑k : Int) < (↑(List.length nets) : Int))) = false) ∧ ((nets) = (nets)) ∧ ((n) = (n)) ∧ (((↑k : Int)) = ((↑k : Int))) ∧ True) := by kernel_rfl
  exact eTst.mpr ⟨decide_eq_false h1, ⟨rfl, ⟨rfl, ⟨rfl, trivial⟩⟩⟩⟩
theorem light_bad (nets : List (Int × List Int)) (n : Int) (k : Nat) (h1 : (goodB nets && decide (List.length nets ≤ (140737488355328 : Nat))) = true) (h2 : ¬Bus.netsErr nets n = (0 : Int)) :
    Tst.path (vall Tryz.prog (ctrs [cNets]) (List.drop 5 (fl BLight [])) (SLight nets n k)) [false, false, false, false, false, true] (toRet Tryz.prog Tryz.f12 true (bv true)) := by
  have eTst : (Tst.path (vall Tryz.prog (ctrs [cNets]) (List.drop 5 (fl BLight [])) (SLight nets n k)) [false, false, false, false, false, true] (toRet Tryz.prog Tryz.f12 true (bv true))) = (((goodB nets && decide (List.length nets ≤ (140737488355328 : Nat))) = true) ∧ (((Bus.netsErr nets n != (0 : Int)) == false) = false) ∧ (((Bus.netsErr nets n != (0 : Int)) == false) = false) ∧ (((Bus.netsErr nets n != (0 : Int)) == false) = false) ∧ (((Bus.netsErr nets n != (0 : Int)) == false) = false) ∧ (((Bus.netsErr nets n != (0 : Int)) == false) = false) ∧ ((Bus.netsErr nets n != (0 : Int)) = true) ∧ (true) = true) := by kernel_rfl
  exact eTst.mpr ⟨h1, ⟨congrArg (fun y => y == false) (show (Bus.netsErr nets n != (0 : Int)) = true from bne_iff_ne.mpr h2), ⟨congrArg (fun y => y == false) (show (Bus.netsErr nets n != (0 : Int)) = true from bne_iff_ne.mpr h2), ⟨congrArg (fun y => y == false) (show (Bus.netsErr nets n != (0 : Int)) = true from bne_iff_ne.mpr h2), ⟨congrArg (fun y => y == false) (show (Bus.netsErr nets n != (0 : Int)) = true from bne_iff_ne.mpr h2), ⟨congrArg (fun y => y == false) (show (Bus.netsErr nets n != (0 : Int)) = true from bne_iff_ne.mpr h2), ⟨bne_iff_ne.mpr h2, rfl⟩⟩⟩⟩⟩⟩⟩
theorem light_small (nets : List (Int × List Int)) (n : Int) (k : Nat) (h1 : (goodB nets && decide (List.length nets ≤ (140737488355328 : Nat))) = true) (h2 : Bus.netsErr nets n = (0 : Int)) (h3 : (↑(List.length nets) : Int) ≤ (7 : Int)) :
    Tst.path (vall Tryz.prog (ctrs [cNets]) (List.drop 5 (fl BLight [])) (SLight nets n k)) [true, true, true, true, true, true, true, true, false] (toRet Tryz.prog Tryz.f12 true (bv (decide (n ≤ 7)))) := by
  have eTst : (Tst.path (vall Tryz.prog (ctrs [cNets]) (List.drop 5 (fl BLight [])) (SLight nets n k)) [true, true, true, true, true, true, true, true, false] (toRet Tryz.prog Tryz.f12 true (bv (decide (n ≤ 7))))) = (((goodB nets && decide (List.length nets ≤ (140737488355328 : Nat))) = true) ∧ (((Bus.netsErr nets n != (0 : Int)) == false) = true) ∧ (((Bus.netsErr nets n != (0 : Int)) == false) = true) ∧ (((Bus.netsErr nets n != (0 : Int)) == false) = true) ∧ (((Bus.netsErr nets n != (0 : Int)) == false) = true) ∧ ((decide ((↑(List.length nets) : Int) ≤ (7 : Int)) == true) = true) ∧ ((decide ((↑(List.length nets) : Int) ≤ (7 : Int)) == true) = true) ∧ (((Bus.netsErr nets n != (0 : Int)) == false) = true) ∧ ((decide ((↑(List.length nets) : Int) ≤ (7 : Int))) = true) ∧ ((Bus.netsErr nets n != (0 : Int)) = false) ∧ (decide (n ≤ (7 : Int))) = (decide (n ≤ (7 : Int)))) := by kernel_rfl
  exact eTst.mpr ⟨h1, ⟨congrArg (fun y => y == false) (show (Bus.netsErr nets n != (0 : Int)) = false from bne_eq_false_iff_eq.mpr h2), ⟨congrArg (fun y => y == false) (show (Bus.netsErr nets n != (0 : Int)) = false from bne_eq_false_iff_eq.mpr h2), ⟨congrArg (fun y => y == false) (show (Bus.netsErr nets n != (0 : Int)) = false from bne_eq_false_iff_eq.mpr h2), ⟨congrArg (fun y => y == false) (show (Bus.netsErr nets n != (0 : Int)) = false from bne_eq_false_iff_eq.mpr h2), ⟨congrArg (fun y => y == true) (show (decide ((↑(List.length nets) : Int) ≤ (7 : Int))) = true from decide_eq_true h3), ⟨congrArg (fun y => y == true) (show (decide ((↑(List.length nets) : Int) ≤ (7 : Int))) = true from decide_eq_true h3), ⟨congrArg (fun y => y == false) (show (Bus.netsErr nets n != (0 : Int)) = false from bne_eq_false_iff_eq.mpr h2), ⟨decide_eq_true h3, ⟨bne_eq_false_iff_eq.mpr h2, rfl⟩⟩⟩⟩⟩⟩⟩⟩⟩⟩
theorem light_large (nets : List (Int × List Int)) (n : Int) (k : Nat) (h1 : (goodB nets && decide (List.length nets ≤ (140737488355328 : Nat))) = true) (h2 : Bus.netsErr nets n = (0 : Int)) (h3 : ¬(↑(List.length nets) : Int) ≤ (7 : Int)) :
    Tst.path (vall Tryz.prog (ctrs [cNets]) (List.drop 5 (fl BLight [])) (SLight nets n k)) [true, true, true, true, false, false, true, false, false] (toRet Tryz.prog Tryz.f12 true (bv false)) := by
  have eTst : (Tst.path (vall Tryz.prog (ctrs [cNets]) (List.drop 5 (fl BLight [])) (SLight nets n k)) [true, true, true, true, false, false, true, false, false] (toRet Tryz.prog Tryz.f12 true (bv false))) = (((goodB nets && decide (List.length nets ≤ (140737488355328 : Nat))) = true) ∧ (((Bus.netsErr nets n != (0 : Int)) == false) = true) ∧ (((Bus.netsErr nets n != (0 : Int)) == false) = true) ∧ (((Bus.netsErr nets n != (0 : Int)) == false) = true) ∧ (((Bus.netsErr nets n != (0 : Int)) == false) = true) ∧ ((decide ((↑(List.length nets) : Int) ≤ (7 : Int)) == true) = false) ∧ ((decide ((↑(List.length nets) : Int) ≤ (7 : Int)) == true) = false) ∧ (((Bus.netsErr nets n != (0 : Int)) == false) = true) ∧ ((decide ((↑(List.length nets) : Int) ≤ (7 : Int))) = false) ∧ ((Bus.netsErr nets n != (0 : Int)) = false) ∧ (false) = false) := by kernel_rfl
  exact eTst.mpr ⟨h1, ⟨congrArg (fun y => y == false) (show (Bus.netsErr nets n != (0 : Int)) = false from bne_eq_false_iff_eq.mpr h2), ⟨congrArg (fun y => y == false) (show (Bus.netsErr nets n != (0 : Int)) = false from bne_eq_false_iff_eq.mpr h2), ⟨congrArg (fun y => y == false) (show (Bus.netsErr nets n != (0 : Int)) = false from bne_eq_false_iff_eq.mpr h2), ⟨congrArg (fun y => y == false) (show (Bus.netsErr nets n != (0 : Int)) = false from bne_eq_false_iff_eq.mpr h2), ⟨congrArg (fun y => y == true) (show (decide ((↑(List.length nets) : Int) ≤ (7 : Int))) = false from decide_eq_false h3), ⟨congrArg (fun y => y == true) (show (decide ((↑(List.length nets) : Int) ≤ (7 : Int))) = false from decide_eq_false h3), ⟨congrArg (fun y => y == false) (show (Bus.netsErr nets n != (0 : Int)) = false from bne_eq_false_iff_eq.mpr h2), ⟨decide_eq_false h3, ⟨bne_eq_false_iff_eq.mpr h2, rfl⟩⟩⟩⟩⟩⟩⟩⟩⟩⟩
def lightN (nets : List (Int × List Int)) (n : Int) : Bool := decide (nets.length ≤ 70) && (nets.all (fun x => decide (x.2.length ≤ 12)) && (decide (Bus.netsErr nets n ≠ 0) || (decide (nets.length ≤ 7) && decide (n ≤ 7))))
theorem getN_mem {l : List (Int × List Int)} {k : Nat} (h : k < l.length) : l.getD k (0, []) ∈ l := by
  rw [List.getD_eq_getElem?_getD, List.getElem?_eq_getElem h]; exact List.getElem_mem _
theorem takeN_next {l : List (Int × List Int)} {k : Nat} (h : k < l.length) : l.take (k + 1) = l.take k ++ [l.getD k (0, [])] := by
  rw [List.getD_eq_getElem?_getD, List.getElem?_eq_getElem h]; simp
theorem light_holds (nets : List (Int × List Int)) (n : Int) (hg : goodB nets = true) : Holds Tryz.prog true 12 [nv nets, iv n] (bv (lightN nets n)) := by
  have hS := one_ok cNets_ok
  refine holds_fl (c := BLight) Tryz.func12 rfl rfl fun w F => ?_
  by_cases hn : nets.length ≤ 70
  · refine GoalL.to known mixed hS 4 _ (light_start nets n (by omega)) (by kernel_rfl) ?_
    refine GoalL.loop (ι := { k : Nat // k ≤ nets.length ∧ ∀ x ∈ nets.take k, x.2.length ≤ 12 }) (id := 0) (b := cat BLight [1,1,0,1,0,0]) (rest := List.drop 5 (fl BLight [])) (by kernel_rfl) (fun k => SLight nets n k.1) (fun k => nets.length - k.1) ⟨0, Nat.zero_le _, by simp⟩ (fun _ => rfl) ?_
    rintro ⟨k, hk, hx⟩
    by_cases hlt : k < nets.length
    · by_cases hh : (nets.getD k (0, [])).2.length ≤ 12
      · refine GoalL.all (s := SLight nets n k) known mixed hS _ (light_go nets n k (by omega) (by omega) (by omega) (by omega)) (by kernel_rfl) ?_
        exact ⟨⟨k + 1, hlt, by rw [takeN_next hlt]; intro x hm; rcases List.mem_append.1 hm with h | h; exact hx x h; rw [List.mem_singleton.1 h]; exact hh⟩, by simp; omega, rfl, rfl⟩
      · refine GoalL.allRet (s := SLight nets n k) known mixed hS _ (light_long nets n k (by omega) (by omega) (by omega)) fun T H h => ?_
        have e : lightN nets n = false := by
          unfold lightN
          rw [show nets.all (fun x => decide (x.2.length ≤ 12)) = false from by
            rw [List.all_eq_false]; exact ⟨_, getN_mem hlt, by simpa using hh⟩]
          simp
        rw [e]; exact h
    · refine GoalL.all (s := SLight nets n k) known mixed hS _ (light_end nets n k (by omega)) (by kernel_rfl) ?_
      refine onN_exit (inB_exit ?_)
      obtain rfl : k = nets.length := by omega
      rw [List.take_length] at hx
      have h1 : (goodB nets && decide (nets.length ≤ 140737488355328)) = true := by rw [hg, decide_eq_true (by omega)]; rfl
      have e : lightN nets n = (decide (Bus.netsErr nets n ≠ 0) || (decide (nets.length ≤ 7) && decide (n ≤ 7))) := by
        unfold lightN
        rw [decide_eq_true hn, show nets.all (fun x => decide (x.2.length ≤ 12)) = true from by
            rw [List.all_eq_true]; exact fun x hm => decide_eq_true (hx x hm)]
        rfl
      rw [e]
      by_cases hb : Bus.netsErr nets n = 0
      · rw [hb]
        by_cases h7 : nets.length ≤ 7
        · refine GoalL.allRet (s := SLight nets n nets.length) known mixed hS _ (light_small nets n _ h1 hb (by omega)) fun T H h => ?_
          rw [decide_eq_true h7]; exact h
        · refine GoalL.allRet (s := SLight nets n nets.length) known mixed hS _ (light_large nets n _ h1 hb (by omega)) fun T H h => ?_
          rw [decide_eq_false h7]; exact h
      · refine GoalL.allRet (s := SLight nets n nets.length) known mixed hS _ (light_bad nets n _ h1 hb) fun T H h => ?_
        rw [decide_eq_true hb]; exact h
  · refine GoalL.ret known mixed hS 4 _ (light_many nets n (by omega)) fun T H h => ?_
    have e : lightN nets n = false := by unfold lightN; rw [decide_eq_false hn]; rfl
    rw [e]; exact h
noncomputable def cLight : Ctr := { f := 12, ps := [.list false (.pair (.int .i64) (.list false (.int .i64))), .int .i64], rs := [.bool], fresh := true, pre := fun d => goodB d.1, fn := fun d => ((lightN d.1 d.2.1 : Bool), ()) }
theorem cLight_ok : cLight.Ok Tryz.prog := fun d h => light_holds d.1 d.2.1 h
end
end Go.Proofs.YtkjjnnbbicoljaaGreatDoor
