/- The law's own words of package bus: SameInts, ints, light, and what CheckNets, CheckOrder of the reference return, as contracts on plain data. -/
import Derived.Test.YtbldpojkpmafpaaGreatDoorZdBusRefNets
namespace Go.Proofs.YtbldpojkpmafpaaGreatDoor
open Go.RowKit Sv
set_option maxRecDepth 100000
set_option linter.unusedVariables false
noncomputable section
abbrev nv (l : List (Int × List Int)) : AV := .lst false (.pair (.int .i64) (.list false (.int .i64))) l

def BSame : Code := (Tryz.f36.body).getD .skip
def SSame (a b : List Int) (k : Nat) : St := { n := 26, sl := [(0, lv a), (1, lv b), (5, iv k)], en := [], next := 64 }
theorem same_start (a b : List Int) (h1 : (↑(List.length a) : Int) = (↑(List.length b) : Int)) :
    Tst.path (vrun0 Tryz.prog (ctrs []) (fl BSame []) 4 26 [lv a, lv b]) [false] (toSt Tryz.prog 26 .normal [] (SSame a b 0)) := by
  have eTst : (Tst.path (vrun0 Tryz.prog (ctrs []) (fl BSame []) 4 26 [lv a, lv b]) [false] (toSt Tryz.prog 26 .normal [] (SSame a b 0))) = ((((↑(List.length a) : Int) != (↑(List.length b) : Int)) = false) ∧ ((a) = (a)) ∧ ((b) = (b)) ∧ (((0 : Int)) = ((↑(0 : Nat) : Int))) ∧ True) := by kernel_rfl
  exact eTst.mpr ⟨bne_eq_false_iff_eq.mpr h1, ⟨rfl, ⟨rfl, ⟨rfl, trivial⟩⟩⟩⟩
theorem same_other (a b : List Int) (h1 : ¬(↑(List.length a) : Int) = (↑(List.length b) : Int)) :
    Tst.path (vrun0 Tryz.prog (ctrs []) (fl BSame []) 4 26 [lv a, lv b]) [true] (toRet Tryz.prog Tryz.f36 true (bv false)) := by
  have eTst : (Tst.path (vrun0 Tryz.prog (ctrs []) (fl BSame []) 4 26 [lv a, lv b]) [true] (toRet Tryz.prog Tryz.f36 true (bv false))) = ((((↑(List.length a) : Int) != (↑(List.length b) : Int)) = true) ∧ (false) = false) := by kernel_rfl
  exact eTst.mpr ⟨bne_iff_ne.mpr h1, rfl⟩
theorem same_go (a b : List Int) (k : Nat) (h1 : (↑k : Int) < (↑(List.length a) : Int)) (h2 : k < List.length a) (h3 : k < List.length b) (h4 : List.getD a k (0 : Int) = List.getD b k (0 : Int)) (h5 : -9223372036854775808 ≤ (↑k : Int) + (1 : Int) ∧ (↑k : Int) + (1 : Int) ≤ 9223372036854775807) :
    Tst.path (vall Tryz.prog (ctrs []) (fl BSame [1,1,0,1,0,0]) (SSame a b k)) [true, false] (toSt Tryz.prog 26 .normal [] (SSame a b (k + 1))) := by
  have eTst : (Tst.path (vall Tryz.prog (ctrs []) (fl BSame [1,1,0,1,0,0]) (SSame a b k)) [true, false] (toSt Tryz.prog 26 .normal [] (SSame a b (k + 1)))) = (((decide ((↑k : Int) < (↑(List.length a) : Int))) = true) ∧ ((decide ((0 : Int) ≤ (↑k : Int))) = true) ∧ ((decide (k < List.length a)) = true) ∧ ((AV.same (AV.raw (Value.int IntKind.i64 (List.getD a k (0 : Int)))) (AV.raw (Value.int IntKind.i64 (List.getD a k (0 : Int))))) = true) ∧ ((decide ((0 : Int) ≤ (↑k : Int))) = true) ∧ ((decide (k < List.length b)) = true) ∧ ((AV.same (AV.raw (Value.int IntKind.i64 (List.getD b k (0 : Int)))) (AV.raw (Value.int IntKind.i64 (List.getD b k (0 : Int))))) = true) ∧ ((List.getD a k (0 : Int) != List.getD b k (0 : Int)) = false) ∧ ((fits IntKind.i64 ((↑k : Int) + (1 : Int))) = true) ∧ ((a) = (a)) ∧ ((b) = (b)) ∧ (((↑k : Int) + (1 : Int)) = ((↑(k + (1 : Nat)) : Int))) ∧ True) := by kernel_rfl
  exact eTst.mpr ⟨decide_eq_true h1, ⟨decide_eq_true (by omega), ⟨decide_eq_true h2, ⟨same_refl (by kernel_rfl), ⟨decide_eq_true (by omega), ⟨decide_eq_true h3, ⟨same_refl (by kernel_rfl), ⟨bne_eq_false_iff_eq.mpr h4, ⟨fits_i64 h5, ⟨rfl, ⟨rfl, ⟨(by omega), trivial⟩⟩⟩⟩⟩⟩⟩⟩⟩⟩⟩⟩
theorem same_hit (a b : List Int) (k : Nat) (h1 : (↑k : Int) < (↑(List.length a) : Int)) (h2 : k < List.length a) (h3 : k < List.length b) (h4 : ¬List.getD a k (0 : Int) = List.getD b k (0 : Int)) :
    Tst.path (vall Tryz.prog (ctrs []) (fl BSame [1,1,0,1,0,0]) (SSame a b k)) [true, true] (toRet Tryz.prog Tryz.f36 true (bv false)) := by
  have eTst : (Tst.path (vall Tryz.prog (ctrs []) (fl BSame [1,1,0,1,0,0]) (SSame a b k)) [true, true] (toRet Tryz.prog Tryz.f36 true (bv false))) = (((decide ((↑k : Int) < (↑(List.length a) : Int))) = true) ∧ ((decide ((0 : Int) ≤ (↑k : Int))) = true) ∧ ((decide (k < List.length a)) = true) ∧ ((AV.same (AV.raw (Value.int IntKind.i64 (List.getD a k (0 : Int)))) (AV.raw (Value.int IntKind.i64 (List.getD a k (0 : Int))))) = true) ∧ ((decide ((0 : Int) ≤ (↑k : Int))) = true) ∧ ((decide (k < List.length b)) = true) ∧ ((AV.same (AV.raw (Value.int IntKind.i64 (List.getD b k (0 : Int)))) (AV.raw (Value.int IntKind.i64 (List.getD b k (0 : Int))))) = true) ∧ ((List.getD a k (0 : Int) != List.getD b k (0 : Int)) = true) ∧ (false) = false) := by kernel_rfl
  exact eTst.mpr ⟨decide_eq_true h1, ⟨decide_eq_true (by omega), ⟨decide_eq_true h2, ⟨same_refl (by kernel_rfl), ⟨decide_eq_true (by omega), ⟨decide_eq_true h3, ⟨same_refl (by kernel_rfl), ⟨bne_iff_ne.mpr h4, rfl⟩⟩⟩⟩⟩⟩⟩⟩
theorem same_end (a b : List Int) (k : Nat) (h1 : ¬(↑k : Int) < (↑(List.length a) : Int)) :
    Tst.path (vall Tryz.prog (ctrs []) (fl BSame [1,1,0,1,0,0]) (SSame a b k)) [false] (toSt Tryz.prog 26 (.exit 0) [] (SSame a b k)) := by
  have eTst : (Tst.path (vall Tryz.prog (ctrs []) (fl BSame [1,1,0,1,0,0]) (SSame a b k)) [false] (toSt Tryz.prog 26 (.exit 0) [] (SSame a b k))) = (((decide ((↑k : Int) < (↑(List.length a) : Int))) = false) ∧ ((a) = (a)) ∧ ((b) = (b)) ∧ (((↑k : Int)) = ((↑k : Int))) ∧ True) := by kernel_rfl
  exact eTst.mpr ⟨decide_eq_false h1, ⟨rfl, ⟨rfl, ⟨rfl, trivial⟩⟩⟩⟩
theorem same_yes (a b : List Int) (k : Nat)  :
    Tst.path (vall Tryz.prog (ctrs []) (List.drop 5 (fl BSame [])) (SSame a b k)) [] (toRet Tryz.prog Tryz.f36 true (bv true)) := by
  have eTst : (Tst.path (vall Tryz.prog (ctrs []) (List.drop 5 (fl BSame [])) (SSame a b k)) [] (toRet Tryz.prog Tryz.f36 true (bv true))) = ((true) = true) := by kernel_rfl
  exact eTst.mpr rfl
theorem take_eq_next {a b : List Int} {k : Nat} (h1 : k < a.length) (h2 : k < b.length) (h : a.take k = b.take k) (hh : a.getD k 0 = b.getD k 0) : a.take (k + 1) = b.take (k + 1) := by
  rw [take_next h1, take_next h2, h, hh]
theorem same_holds (a b : List Int) (hl : a.length ≤ 1000000) : Holds Tryz.prog true 36 [lv a, lv b] (bv (decide (a = b))) := by
  have hS := none_ok
  refine holds_fl (c := BSame) Tryz.func36 rfl rfl fun w F => ?_
  by_cases hn : a.length = b.length
  · refine GoalL.to known mixed hS 4 _ (same_start a b (by omega)) (by kernel_rfl) ?_
    refine GoalL.loop (ι := { k : Nat // k ≤ a.length ∧ a.take k = b.take k }) (id := 0) (b := cat BSame [1,1,0,1,0,0]) (rest := List.drop 5 (fl BSame [])) (by kernel_rfl) (fun k => SSame a b k.1) (fun k => a.length - k.1) ⟨0, Nat.zero_le _, by simp⟩ (fun _ => rfl) ?_
    rintro ⟨k, hk, hx⟩
    by_cases hlt : k < a.length
    · by_cases hh : a.getD k 0 = b.getD k 0
      · refine GoalL.all (s := SSame a b k) known mixed hS _ (same_go a b k (by omega) (by omega) (by omega) hh (by omega)) (by kernel_rfl) ?_
        exact ⟨⟨k + 1, hlt, take_eq_next hlt (by omega) hx hh⟩, by simp; omega, rfl, rfl⟩
      · refine GoalL.allRet (s := SSame a b k) known mixed hS _ (same_hit a b k (by omega) (by omega) (by omega) hh) fun T H h => ?_
        rw [decide_eq_false (fun e => hh (by rw [e]))]; exact h
    · refine GoalL.all (s := SSame a b k) known mixed hS _ (same_end a b k (by omega)) (by kernel_rfl) ?_
      refine onN_exit (inB_exit ?_)
      obtain rfl : k = a.length := by omega
      rw [List.take_length] at hx
      rw [hn, List.take_length] at hx
      refine GoalL.allRet (s := SSame a b a.length) known mixed hS _ (same_yes a b _) fun T H h => ?_
      rw [decide_eq_true hx]; exact h
  · refine GoalL.ret known mixed hS 4 _ (same_other a b (by omega)) fun T H h => ?_
    rw [decide_eq_false (fun e => hn (by rw [e]))]; exact h
noncomputable def cSame : Ctr := { f := 36, ps := [.list false (.int .i64), .list false (.int .i64)], rs := [.bool], fresh := true, pre := fun d => decide (List.length (α := Int) d.1 ≤ 1000000), fn := fun d => ((decide ((d.1 : List Int) = (d.2.1 : List Int)) : Bool), ()) }
theorem cSame_ok : cSame.Ok Tryz.prog := fun d h => same_holds d.1 d.2.1 (of_decide_eq_true h)

instance (x : Int) : Decidable (I64 x) := by unfold I64; infer_instance
def goodB (nets : List (Int × List Int)) : Bool := nets.all fun n => decide (I64 n.1) && n.2.all (fun c => decide (I64 c)) && decide (n.2.length ≤ 140737488355328)
noncomputable def cNets : Ctr := { f := 9, ps := [.list false (.pair (.int .i64) (.list false (.int .i64))), .int .i64], rs := [.int .i64], fresh := true, pre := fun d => goodB d.1 && decide (List.length (α := Int × List Int) d.1 ≤ 140737488355328), fn := fun d => (Bus.netsErr d.1 d.2.1, ()) }
noncomputable def cOrder : Ctr := { f := 23, ps := [.int .i64, .list false (.int .i64)], rs := [.int .i64], fresh := true, pre := fun d => decide (List.length (α := Int) d.2.1 ≤ 1000000), fn := fun d => (Bus.orderErr d.2.1 d.1, ()) }
theorem goodB_iff {nets : List (Int × List Int)} : goodB nets = true ↔ GoodNets nets := by
  unfold goodB GoodNets
  simp only [List.all_eq_true, Bool.and_eq_true, decide_eq_true_eq]
theorem cNets_ok : cNets.Ok Tryz.prog := fun ⟨nets, n, _⟩ h => holds_raw fun w F xs hF hd => by
  obtain ⟨h1, h2⟩ := Bool.and_eq_true_iff.1 h
  have hl := of_decide_eq_true h2
  cases hd with
  | cons d1 d2 =>
    cases d2 with
    | cons d2 d3 =>
      cases d3
      obtain ⟨A, c, l, rfl, rfl, hN⟩ := den_nets hF (goodB_iff.1 h1) d1
      rw [d2.raw_eq]
      refine refNets_any A c w.heap.size l n w hN (Nat.le_refl _) ?_
      simpa using hl
theorem cOrder_ok : cOrder.Ok Tryz.prog := fun ⟨n, order, _⟩ h => holds_raw fun w F xs hF hd => by
  have hl := of_decide_eq_true h
  cases hd with
  | cons d1 d2 =>
    cases d2 with
    | cons d2 d3 =>
      cases d3
      obtain ⟨A, c, rfl, hc, hR⟩ := den_ints hF d2
      rw [d1.raw_eq]
      exact refOrder_any A c w.heap.size order n w hl hc hR (Nat.le_refl _)

def BLight : Code := (Tryz.f14.body).getD .skip
def SLight (nets : List (Int × List Int)) (n : Int) (k : Nat) : St := { n := 35, sl := [(0, nv nets), (1, iv n), (5, iv k)], en := [], next := 64 }
theorem light_start (nets : List (Int × List Int)) (n : Int) (h1 : ¬(↑(List.length nets) : Int) > (70 : Int)) :
    Tst.path (vrun0 Tryz.prog (ctrs [cNets]) (fl BLight []) 4 35 [nv nets, iv n]) [false] (toSt Tryz.prog 35 .normal [] (SLight nets n 0)) := by
  have eTst : (Tst.path (vrun0 Tryz.prog (ctrs [cNets]) (fl BLight []) 4 35 [nv nets, iv n]) [false] (toSt Tryz.prog 35 .normal [] (SLight nets n 0))) = (((decide ((↑(List.length nets) : Int) > (70 : Int))) = false) ∧ ((nets) = (nets)) ∧ ((n) = (n)) ∧ (((0 : Int)) = ((↑(0 : Nat) : Int))) ∧ True) := by kernel_rfl
  exact eTst.mpr ⟨decide_eq_false h1, ⟨rfl, ⟨rfl, ⟨rfl, trivial⟩⟩⟩⟩
theorem light_many (nets : List (Int × List Int)) (n : Int) (h1 : (↑(List.length nets) : Int) > (70 : Int)) :
    Tst.path (vrun0 Tryz.prog (ctrs [cNets]) (fl BLight []) 4 35 [nv nets, iv n]) [true] (toRet Tryz.prog Tryz.f14 true (bv false)) := by
  have eTst : (Tst.path (vrun0 Tryz.prog (ctrs [cNets]) (fl BLight []) 4 35 [nv nets, iv n]) [true] (toRet Tryz.prog Tryz.f14 true (bv false))) = (((decide ((↑(List.length nets) : Int) > (70 : Int))) = true) ∧ (false) = false) := by kernel_rfl
  exact eTst.mpr ⟨decide_eq_true h1, rfl⟩
theorem light_go (nets : List (Int × List Int)) (n : Int) (k : Nat) (h1 : (↑k : Int) < (↑(List.length nets) : Int)) (h2 : k < List.length nets) (h3 : ¬(↑(List.length (Prod.snd (List.getD nets k ((0 : Int), [])))) : Int) > (12 : Int)) (h4 : -9223372036854775808 ≤ (↑k : Int) + (1 : Int) ∧ (↑k : Int) + (1 : Int) ≤ 9223372036854775807) :
    Tst.path (vall Tryz.prog (ctrs [cNets]) (fl BLight [1,1,0,1,0,0]) (SLight nets n k)) [true, false] (toSt Tryz.prog 35 .normal [] (SLight nets n (k + 1))) := by
  have eTst : (Tst.path (vall Tryz.prog (ctrs [cNets]) (fl BLight [1,1,0,1,0,0]) (SLight nets n k)) [true, false] (toSt Tryz.prog 35 .normal [] (SLight nets n (k + 1)))) = (((decide ((↑k : Int) < (↑(List.length nets) : Int))) = true) ∧ ((decide ((0 : Int) ≤ (↑k : Int))) = true) ∧ ((decide (k < List.length nets)) = true) ∧ ((decide ((↑(List.length (Prod.snd (List.getD nets k ((0 : Int), [])))) : Int) > (12 : Int))) = false) ∧ ((fits IntKind.i64 ((↑k : Int) + (1 : Int))) = true) ∧ ((nets) = (nets)) ∧ ((n) = (n)) ∧ (((↑k : Int) + (1 : Int)) = ((↑(k + (1 : Nat)) : Int))) ∧ True) := by kernel_rfl
  exact eTst.mpr ⟨decide_eq_true h1, ⟨decide_eq_true (by omega), ⟨decide_eq_true h2, ⟨decide_eq_false h3, ⟨fits_i64 h4, ⟨rfl, ⟨rfl, ⟨(by omega), trivial⟩⟩⟩⟩⟩⟩⟩⟩
theorem light_long (nets : List (Int × List Int)) (n : Int) (k : Nat) (h1 : (↑k : Int) < (↑(List.length nets) : Int)) (h2 : k < List.length nets) (h3 : (↑(List.length (Prod.snd (List.getD nets k ((0 : Int), [])))) : Int) > (12 : Int)) :
    Tst.path (vall Tryz.prog (ctrs [cNets]) (fl BLight [1,1,0,1,0,0]) (SLight nets n k)) [true, true] (toRet Tryz.prog Tryz.f14 true (bv false)) := by
  have eTst : (Tst.path (vall Tryz.prog (ctrs [cNets]) (fl BLight [1,1,0,1,0,0]) (SLight nets n k)) [true, true] (toRet Tryz.prog Tryz.f14 true (bv false))) = (((decide ((↑k : Int) < (↑(List.length nets) : Int))) = true) ∧ ((decide ((0 : Int) ≤ (↑k : Int))) = true) ∧ ((decide (k < List.length nets)) = true) ∧ ((decide ((↑(List.length (Prod.snd (List.getD nets k ((0 : Int), [])))) : Int) > (12 : Int))) = true) ∧ (false) = false) := by kernel_rfl
  exact eTst.mpr ⟨decide_eq_true h1, ⟨decide_eq_true (by omega), ⟨decide_eq_true h2, ⟨decide_eq_true h3, rfl⟩⟩⟩⟩
theorem light_end (nets : List (Int × List Int)) (n : Int) (k : Nat) (h1 : ¬(↑k : Int) < (↑(List.length nets) : Int)) :
    Tst.path (vall Tryz.prog (ctrs [cNets]) (fl BLight [1,1,0,1,0,0]) (SLight nets n k)) [false] (toSt Tryz.prog 35 (.exit 0) [] (SLight nets n k)) := by
  have eTst : (Tst.path (vall Tryz.prog (ctrs [cNets]) (fl BLight [1,1,0,1,0,0]) (SLight nets n k)) [false] (toSt Tryz.prog 35 (.exit 0) [] (SLight nets n k))) = (((decide ((↑k : Int) < (↑(List.length nets) : Int))) = false) ∧ ((nets) = (nets)) ∧ ((n) = (n)) ∧ (((↑k : Int)) = ((↑k : Int))) ∧ True) := by kernel_rfl
  exact eTst.mpr ⟨decide_eq_false h1, ⟨rfl, ⟨rfl, ⟨rfl, trivial⟩⟩⟩⟩
theorem light_bad (nets : List (Int × List Int)) (n : Int) (k : Nat) (h1 : (goodB nets && decide (List.length nets ≤ (140737488355328 : Nat))) = true) (h2 : ¬Bus.netsErr nets n = (0 : Int)) :
    Tst.path (vall Tryz.prog (ctrs [cNets]) (List.drop 5 (fl BLight [])) (SLight nets n k)) [false, false, false, false, false, true] (toRet Tryz.prog Tryz.f14 true (bv true)) := by
  have eTst : (Tst.path (vall Tryz.prog (ctrs [cNets]) (List.drop 5 (fl BLight [])) (SLight nets n k)) [false, false, false, false, false, true] (toRet Tryz.prog Tryz.f14 true (bv true))) = (((goodB nets && decide (List.length nets ≤ (140737488355328 : Nat))) = true) ∧ (((Bus.netsErr nets n != (0 : Int)) == false) = false) ∧ (((Bus.netsErr nets n != (0 : Int)) == false) = false) ∧ (((Bus.netsErr nets n != (0 : Int)) == false) = false) ∧ (((Bus.netsErr nets n != (0 : Int)) == false) = false) ∧ (((Bus.netsErr nets n != (0 : Int)) == false) = false) ∧ ((Bus.netsErr nets n != (0 : Int)) = true) ∧ (true) = true) := by kernel_rfl
  exact eTst.mpr ⟨h1, ⟨congrArg (fun y => y == false) (show (Bus.netsErr nets n != (0 : Int)) = true from bne_iff_ne.mpr h2), ⟨congrArg (fun y => y == false) (show (Bus.netsErr nets n != (0 : Int)) = true from bne_iff_ne.mpr h2), ⟨congrArg (fun y => y == false) (show (Bus.netsErr nets n != (0 : Int)) = true from bne_iff_ne.mpr h2), ⟨congrArg (fun y => y == false) (show (Bus.netsErr nets n != (0 : Int)) = true from bne_iff_ne.mpr h2), ⟨congrArg (fun y => y == false) (show (Bus.netsErr nets n != (0 : Int)) = true from bne_iff_ne.mpr h2), ⟨bne_iff_ne.mpr h2, rfl⟩⟩⟩⟩⟩⟩⟩
theorem light_small (nets : List (Int × List Int)) (n : Int) (k : Nat) (h1 : (goodB nets && decide (List.length nets ≤ (140737488355328 : Nat))) = true) (h2 : Bus.netsErr nets n = (0 : Int)) (h3 : (↑(List.length nets) : Int) ≤ (7 : Int)) :
    Tst.path (vall Tryz.prog (ctrs [cNets]) (List.drop 5 (fl BLight [])) (SLight nets n k)) [true, true, true, true, true, true, true, true, false] (toRet Tryz.prog Tryz.f14 true (bv (decide (n ≤ 7)))) := by
  have eTst : (Tst.path (vall Tryz.prog (ctrs [cNets]) (List.drop 5 (fl BLight [])) (SLight nets n k)) [true, true, true, true, true, true, true, true, false] (toRet Tryz.prog Tryz.f14 true (bv (decide (n ≤ 7))))) = (((goodB nets && decide (List.length nets ≤ (140737488355328 : Nat))) = true) ∧ (((Bus.netsErr nets n != (0 : Int)) == false) = true) ∧ (((Bus.netsErr nets n != (0 : Int)) == false) = true) ∧ (((Bus.netsErr nets n != (0 : Int)) == false) = true) ∧ (((Bus.netsErr nets n != (0 : Int)) == false) = true) ∧ ((decide ((↑(List.length nets) : Int) ≤ (7 : Int)) == true) = true) ∧ ((decide ((↑(List.length nets) : Int) ≤ (7 : Int)) == true) = true) ∧ (((Bus.netsErr nets n != (0 : Int)) == false) = true) ∧ ((decide ((↑(List.length nets) : Int) ≤ (7 : Int))) = true) ∧ ((Bus.netsErr nets n != (0 : Int)) = false) ∧ (decide (n ≤ (7 : Int))) = (decide (n ≤ (7 : Int)))) := by kernel_rfl
  exact eTst.mpr ⟨h1, ⟨congrArg (fun y => y == false) (show (Bus.netsErr nets n != (0 : Int)) = false from bne_eq_false_iff_eq.mpr h2), ⟨congrArg (fun y => y == false) (show (Bus.netsErr nets n != (0 : Int)) = false from bne_eq_false_iff_eq.mpr h2), ⟨congrArg (fun y => y == false) (show (Bus.netsErr nets n != (0 : Int)) = false from bne_eq_false_iff_eq.mpr h2), ⟨congrArg (fun y => y == false) (show (Bus.netsErr nets n != (0 : Int)) = false from bne_eq_false_iff_eq.mpr h2), ⟨congrArg (fun y => y == true) (show (decide ((↑(List.length nets) : Int) ≤ (7 : Int))) = true from decide_eq_true h3), ⟨congrArg (fun y => y == true) (show (decide ((↑(List.length nets) : Int) ≤ (7 : Int))) = true from decide_eq_true h3), ⟨congrArg (fun y => y == false) (show (Bus.netsErr nets n != (0 : Int)) = false from bne_eq_false_iff_eq.mpr h2), ⟨decide_eq_true h3, ⟨bne_eq_false_iff_eq.mpr h2, rfl⟩⟩⟩⟩⟩⟩⟩⟩⟩⟩
theorem light_large (nets : List (Int × List Int)) (n : Int) (k : Nat) (h1 : (goodB nets && decide (List.length nets ≤ (140737488355328 : Nat))) = true) (h2 : Bus.netsErr nets n = (0 : Int)) (h3 : ¬(↑(List.length nets) : Int) ≤ (7 : Int)) :
    Tst.path (vall Tryz.prog (ctrs [cNets]) (List.drop 5 (fl BLight [])) (SLight nets n k)) [true, true, true, true, false, false, true, false, false] (toRet Tryz.prog Tryz.f14 true (bv false)) := by
  have eTst : (Tst.path (vall Tryz.prog (ctrs [cNets]) (List.drop 5 (fl BLight [])) (SLight nets n k)) [true, true, true, true, false, false, true, false, false] (toRet Tryz.prog Tryz.f14 true (bv false))) = (((goodB nets && decide (List.length nets ≤ (140737488355328 : Nat))) = true) ∧ (((Bus.netsErr nets n != (0 : Int)) == false) = true) ∧ (((Bus.netsErr nets n != (0 : Int)) == false) = true) ∧ (((Bus.netsErr nets n != (0 : Int)) == false) = true) ∧ (((Bus.netsErr nets n != (0 : Int)) == false) = true) ∧ ((decide ((↑(List.length nets) : Int) ≤ (7 : Int)) == true) = false) ∧ ((decide ((↑(List.length nets) : Int) ≤ (7 : Int)) == true) = false) ∧ (((Bus.netsErr nets n != (0 : Int)) == false) = true) ∧ ((decide ((↑(List.length nets) : Int) ≤ (7 : Int))) = false) ∧ ((Bus.netsErr nets n != (0 : Int)) = false) ∧ (false) = false) := by kernel_rfl
  exact eTst.mpr ⟨h1, ⟨congrArg (fun y => y == false) (show (Bus.netsErr nets n != (0 : Int)) = false from bne_eq_false_iff_eq.mpr h2), ⟨congrArg (fun y => y == false) (show (Bus.netsErr nets n != (0 : Int)) = false from bne_eq_false_iff_eq.mpr h2), ⟨congrArg (fun y => y == false) (show (Bus.netsErr nets n != (0 : Int)) = false from bne_eq_false_iff_eq.mpr h2), ⟨congrArg (fun y => y == false) (show (Bus.netsErr nets n != (0 : Int)) = false from bne_eq_false_iff_eq.mpr h2), ⟨congrArg (fun y => y == true) (show (decide ((↑(List.length nets) : Int) ≤ (7 : Int))) = false from decide_eq_false h3), ⟨congrArg (fun y => y == true) (show (decide ((↑(List.length nets) : Int) ≤ (7 : Int))) = false from decide_eq_false h3), ⟨congrArg (fun y => y == false) (show (Bus.netsErr nets n != (0 : Int)) = false from bne_eq_false_iff_eq.mpr h2), ⟨decide_eq_false h3, ⟨bne_eq_false_iff_eq.mpr h2, rfl⟩⟩⟩⟩⟩⟩⟩⟩⟩⟩
def lightN (nets : List (Int × List Int)) (n : Int) : Bool := decide (nets.length ≤ 70) && (nets.all (fun x => decide (x.2.length ≤ 12)) && (decide (Bus.netsErr nets n ≠ 0) || (decide (nets.length ≤ 7) && decide (n ≤ 7))))
theorem getN_mem {l : List (Int × List Int)} {k : Nat} (h : k < l.length) : l.getD k (0, []) ∈ l := by
  rw [List.getD_eq_getElem?_getD, List.getElem?_eq_getElem h]; exact List.getElem_mem _
theorem takeN_next {l : List (Int × List Int)} {k : Nat} (h : k < l.length) : l.take (k + 1) = l.take k ++ [l.getD k (0, [])] := by
  rw [List.getD_eq_getElem?_getD, List.getElem?_eq_getElem h]; simp
theorem light_holds (nets : List (Int × List Int)) (n : Int) (hg : goodB nets = true) : Holds Tryz.prog true 14 [nv nets, iv n] (bv (lightN nets n)) := by
  have hS := one_ok cNets_ok
  refine holds_fl (c := BLight) Tryz.func14 rfl rfl fun w F => ?_
  by_cases hn : nets.length ≤ 70
  · refine GoalL.to known mixed hS 4 _ (light_start nets n (by omega)) (by kernel_rfl) ?_
    refine GoalL.loop (ι := { k : Nat // k ≤ nets.length ∧ ∀ x ∈ nets.take k, x.2.length ≤ 12 }) (id := 0) (b := cat BLight [1,1,0,1,0,0]) (rest := List.drop 5 (fl BLight [])) (by kernel_rfl) (fun k => SLight nets n k.1) (fun k => nets.length - k.1) ⟨0, Nat.zero_le _, by simp⟩ (fun _ => rfl) ?_
    rintro ⟨k, hk, hx⟩
    by_cases hlt : k < nets.length
    · by_cases hh : (nets.getD k (0, [])).2.length ≤ 12
      · refine GoalL.all (s := SLight nets n k) known mixed hS _ (light_go nets n k (by omega) (by omega) (by omega) (by omega)) (by kernel_rfl) ?_
        exact ⟨⟨k + 1, hlt, by rw [takeN_next hlt]; intro x hm; rcases List.mem_append.1 hm with h | h; exact hx x h; rw [List.mem_singleton.1 h]; exact hh⟩, by simp; omega, rfl, rfl⟩
      · refine GoalL.allRet (s := SLight nets n k) known mixed hS _ (light_long nets n k (by omega) (by omega) (by omega)) fun T H h => ?_
        have e : lightN nets n = false := by
          unfold lightN
          rw [show nets.all (fun x => decide (x.2.length ≤ 12)) = false from by
            rw [List.all_eq_false]; exact ⟨_, getN_mem hlt, by simpa using hh⟩]
          simp
        rw [e]; exact h
    · refine GoalL.all (s := SLight nets n k) known mixed hS _ (light_end nets n k (by omega)) (by kernel_rfl) ?_
      refine onN_exit (inB_exit ?_)
      obtain rfl : k = nets.length := by omega
      rw [List.take_length] at hx
      have h1 : (goodB nets && decide (nets.length ≤ 140737488355328)) = true := by rw [hg, decide_eq_true (by omega)]; rfl
      have e : lightN nets n = (decide (Bus.netsErr nets n ≠ 0) || (decide (nets.length ≤ 7) && decide (n ≤ 7))) := by
        unfold lightN
        rw [decide_eq_true hn, show nets.all (fun x => decide (x.2.length ≤ 12)) = true from by
            rw [List.all_eq_true]; exact fun x hm => decide_eq_true (hx x hm)]
        rfl
      rw [e]
      by_cases hb : Bus.netsErr nets n = 0
      · rw [hb]
        by_cases h7 : nets.length ≤ 7
        · refine GoalL.allRet (s := SLight nets n nets.length) known mixed hS _ (light_small nets n _ h1 hb (by omega)) fun T H h => ?_
          rw [decide_eq_true h7]; exact h
        · refine GoalL.allRet (s := SLight nets n nets.length) known mixed hS _ (light_large nets n _ h1 hb (by omega)) fun T H h => ?_
          rw [decide_eq_false h7]; exact h
      · refine GoalL.allRet (s := SLight nets n nets.length) known mixed hS _ (light_bad nets n _ h1 hb) fun T H h => ?_
        rw [decide_eq_true hb]; exact h
  · refine GoalL.ret known mixed hS 4 _ (light_many nets n (by omega)) fun T H h => ?_
    have e : lightN nets n = false := by unfold lightN; rw [decide_eq_false hn]; rfl
    rw [e]; exact h
noncomputable def cLight : Ctr := { f := 14, ps := [.list false (.pair (.int .i64) (.list false (.int .i64))), .int .i64], rs := [.bool], fresh := true, pre := fun d => goodB d.1, fn := fun d => ((lightN d.1 d.2.1 : Bool), ()) }
theorem cLight_ok : cLight.Ok Tryz.prog := fun d h => light_holds d.1 d.2.1 h
end
end Go.Proofs.YtbldpojkpmafpaaGreatDoor

/- The reference of chapter 7: the extents of nets and the length of an order. -/
namespace Go.Proofs.YtbldpojkpmafpaaGreatDoor
open Go.RowKit

theorem refLow_snoc (p : Int → Int) : ∀ (cols : List Int) (low c : Int), Bus.refLow p low (cols ++ [c]) = if Bus.refLow p low cols < 0 ∨ p c < Bus.refLow p low cols then p c else Bus.refLow p low cols
  | [], _, _ => rfl
  | d :: r, low, c => by
      rw [List.cons_append, Bus.refLow, Bus.refLow]
      exact refLow_snoc p r _ c
def refHigh (p : Int → Int) (cols : List Int) : Int := cols.foldl (fun h c => max h (p c)) (-1)
theorem refHigh_snoc (p : Int → Int) (cols : List Int) (c : Int) : refHigh p (cols ++ [c]) = max (refHigh p cols) (p c) := by simp [refHigh]

theorem posFrom_append (c : Int) : ∀ (l r : List Int) (k : Int), c ∉ l → Bus.posFrom k (l ++ r) c = Bus.posFrom (k + l.length) r c
  | [], r, k, _ => by simp
  | x :: l, r, k, h => by
      have hx : x ≠ c := fun e => h (by simp [e])
      rw [List.cons_append, Bus.posFrom, if_neg hx, posFrom_append c l r (k + 1) (fun hm => h (by simp [hm]))]
      congr 1
      simp; omega
theorem atUp_pos (order : List Int) (hn : order.Nodup) (X : Nat) (hX : (X : Int) ∈ order) : Bus.atUp order order.length X = Bus.pos order X := by
  have key : ∀ k, k ≤ order.length → (X : Int) ∈ order.take k → Bus.atUp order k X = Bus.pos order X := by
    intro k
    induction k with
    | zero => intro _ h; simp at h
    | succ k ih =>
      intro hk hm
      have hlt : k < order.length := by omega
      have ht : order.take (k + 1) = order.take k ++ [order[k]] := by rw [List.take_add_one, List.getElem?_eq_getElem hlt]; rfl
      have hd : order.getD k (-1) = order[k] := by rw [List.getD_eq_getElem?_getD, List.getElem?_eq_getElem hlt]; rfl
      simp only [Bus.atUp, hd]
      by_cases he : (X : Int) = order[k]
      · rw [if_pos he]
        have hnot : (X : Int) ∉ order.take k := by
          intro h
          have h1 : (order.take (k + 1)).Nodup := hn.sublist (List.take_sublist _ _)
          rw [ht] at h1
          exact (List.nodup_append.1 h1).2.2 _ h _ (List.mem_singleton.2 rfl) he
        have hsp : order = order.take k ++ (order[k] :: order.drop (k + 1)) := by
          rw [← List.drop_eq_getElem_cons hlt, List.take_append_drop]
        unfold Bus.pos
        conv => rhs; rw [hsp]
        rw [posFrom_append _ _ _ _ hnot, Bus.posFrom, if_pos he.symm, List.length_take]
        omega
      · rw [if_neg he]
        apply ih (by omega)
        rw [ht] at hm
        rcases List.mem_append.1 hm with h | h
        · exact h
        · exact absurd (List.mem_singleton.1 h) he
  exact key order.length (Nat.le_refl _) (by rw [List.take_length]; exact hX)

set_option maxHeartbeats 2000000 in
set_option maxRecDepth 100000 in
theorem refExtent_any (x : NetAt) (A : Option Addr) (c B : Nat) (order : List Int) (w : World) (hr : Row w B x.loc (x.cols.map (Value.int .i64))) (h : Row w B A (order.map (Value.int .i64))) (hB : B ≤ w.heap.size) (hl : order.length ≤ 1000) (hf : x.cols.length ≤ 140737488355328) :
    Calls Tryz.prog 94 #[.agg #[.int .i64 x.sh, .slice x.loc x.cols.length x.cap], .slice A order.length c] w fun e w' => e = .returned (.tuple #[.int .i64 (Bus.refLow (Bus.pos order) (-1) x.cols), .int .i64 (refHigh (Bus.pos order) x.cols)]) ∧ Below w.heap.size w w' := by
  have HP := Lib.hid (fun w' (hb : Below w.heap.size w w') y => position_any A c B order y w' (by omega) (h.below hb hB))
  have HR := Lib.hid hr
  clear h hr
  generalize x.cols = cs at *
  generalize x.loc = loc at *
  generalize x.cap = cap at *
  generalize Bus.pos order = p at *
  go_enter Tryz.func94, Tryz.ntmps94
  go_wp2_with fail
  generalize hW0 : World.alloc w _ = W0
  obtain ⟨G, hG⟩ : ∃ G, w.heap.size = G := ⟨_, rfl⟩
  have d0 : Blk W0 G 26 #[.int .i64 x.sh, .slice loc cs.length cap] := by rw [← hW0, ← hG]; exact Blk.new _ _ _
  have e0 : Below w.heap.size w W0 := by rw [← hW0]; exact (Below.refl _ w).alloc (Nat.le_refl _) _
  have m0 : W0.cell? ⟨G, 1, none⟩ = some (.slice loc cs.length cap) := d0.cell 1
  try rw [hG]
  clear hW0 d0
  go_loop [6, 7, 8] (fun lo hi i => ∃ j : Nat, j ≤ cs.length ∧ i = .int .i64 j ∧ lo = .int .i64 (Bus.refLow p (-1) (cs.take j)) ∧ hi = .int .i64 (refHigh p (cs.take j))) (fun _ _ i => cs.length - (intOf i).toNat)
  case atStart => exact ⟨0, Nat.zero_le _, rfl, rfl, rfl⟩
  case round =>
    obtain ⟨j, hj, rfl, rfl, rfl⟩ := hrel
    by_cases hlj : j < cs.length
    · obtain ⟨b2, off2, y, rfl, hbB2, hy, hcy⟩ := HR.out.int j hlj
      have hcy2 := (e0.cell (p := ⟨b2, off2 + j, none⟩) (by show b2 < _; omega)).trans hcy
      have hjc : (j : Int) < (cs.length : Int) := by omega
      have HS := Lib.hid (show Bus.refLow p (-1) (cs.take (j + 1)) = (if Bus.refLow p (-1) (cs.take j) < 0 ∨ p y < Bus.refLow p (-1) (cs.take j) then p y else Bus.refLow p (-1) (cs.take j)) ∧ refHigh p (cs.take (j + 1)) = max (refHigh p (cs.take j)) (p y) by
        rw [List.take_add_one, hy]; exact ⟨refLow_snoc _ _ _ _, refHigh_snoc _ _ _⟩)
      generalize Bus.refLow p (-1) (cs.take j) = lo at *
      generalize refHigh p (cs.take j) = hi at *
      have hp := HP.out W0 e0 y
      generalize p y = py at *
      have HPY := Lib.hid hp
      clear hy hcy hp
      by_cases hlo : lo < 0
      · rw [if_pos (Or.inl hlo)] at HS
        go_wp2_with (first | (go_at_call 62; refine HPY.out.mono ?_; rintro e w1 ⟨rfl, rfl⟩))
        go_round
        case rel => exact ⟨j + 1, by omega, by go_num, by rw [HS.out.1], by rw [HS.out.2]; congr 1; split <;> omega⟩
        case measure => simp [intOf]; omega
      · by_cases hpl : py < lo
        · rw [if_pos (Or.inr hpl)] at HS
          go_wp2_with (first | (go_at_call 62; refine HPY.out.mono ?_; rintro e w1 ⟨rfl, rfl⟩))
          go_round
          case rel => exact ⟨j + 1, by omega, by go_num, by rw [HS.out.1], by rw [HS.out.2]; congr 1; split <;> omega⟩
          case measure => simp [intOf]; omega
        · rw [if_neg (by omega)] at HS
          go_wp2_with (first | (go_at_call 62; refine HPY.out.mono ?_; rintro e w1 ⟨rfl, rfl⟩))
          go_round
          case rel => exact ⟨j + 1, by omega, by go_num, by rw [HS.out.1], by rw [HS.out.2]; congr 1; split <;> omega⟩
          case measure => simp [intOf]; omega
    · obtain rfl : j = cs.length := by omega
      rw [List.take_length]
      go_wp2_with fail
      go_ret2
      exact ⟨rfl, by first | exact e0 | (rw [hG] at e0; exact e0)⟩

theorem ref_ext {order : List Int} {cols : List Int} {n : Int} (hn : order.Nodup) (hlen : (order.length : Int) = n) (hne : cols ≠ []) (hc : ∀ c ∈ cols, 0 ≤ c ∧ c < n) (hall : ∀ c, 0 ≤ c → c < n → c ∈ order) (h97 : n ≤ 97) :
    (Bus.refLow (Bus.pos order) (-1) cols, refHigh (Bus.pos order) cols) = Bus.ext (fun c => Bus.atUp order order.length c.toNat) cols := by
  have hp : ∀ c ∈ cols, Bus.pos order c = Bus.atUp order order.length c.toNat := by
    intro c hcm
    obtain ⟨h0, h1⟩ := hc c hcm
    have e : ((c.toNat : Nat) : Int) = c := by omega
    rw [atUp_pos order hn c.toNat (by rw [e]; exact hall c h0 h1), e]
  have hb : ∀ c ∈ cols, 0 ≤ Bus.pos order c ∧ Bus.pos order c < 97 := by
    intro c hcm
    obtain ⟨h0, h1⟩ := hc c hcm
    have := Bus.pos_bd (hall c h0 h1)
    omega
  rw [Bus.refLow_ext _ _ hne hb]
  have fold : ∀ (l : List Int) (a b : Int), (∀ c ∈ l, Bus.pos order c = Bus.atUp order order.length c.toNat) →
      l.foldl (fun l c => min l (Bus.pos order c)) a = l.foldl (fun l c => min l (Bus.atUp order order.length c.toNat)) a ∧ l.foldl (fun l c => max l (Bus.pos order c)) b = l.foldl (fun l c => max l (Bus.atUp order order.length c.toNat)) b := by
    intro l
    induction l with
    | nil => intro a b _; exact ⟨rfl, rfl⟩
    | cons d r ih =>
      intro a b h
      have hd := h d (by simp)
      simp only [List.foldl_cons, hd]
      exact ih _ _ (fun c hc => h c (by simp [hc]))
  obtain ⟨f1, f2⟩ := fold cols 97 (-1) hp
  unfold Bus.ext refHigh
  rw [f1, f2]
theorem filter_len (a : Int) : ∀ l : List Int, l.Nodup → l.length ≤ (l.filter (fun x => decide (x ≠ a))).length + 1
  | [], _ => by simp
  | x :: r, h => by
      obtain ⟨h1, h2⟩ := List.nodup_cons.1 h
      by_cases hx : x = a
      · subst hx
        have : r.filter (fun y => decide (y ≠ x)) = r := List.filter_eq_self.2 fun y hy => decide_eq_true fun e => h1 (e ▸ hy)
        have e : (x :: r).filter (fun y => decide (y ≠ x)) = r := by rw [List.filter_cons_of_neg (by simp), this]
        rw [e]; simp
      · have := filter_len a r h2
        simp [hx] at this ⊢
        omega
theorem nodup_len : ∀ (n : Nat) (l : List Int), l.Nodup → (∀ c ∈ l, 0 ≤ c ∧ c < (n : Int)) → l.length ≤ n
  | 0, l, _, hb => by
      cases l with
      | nil => simp
      | cons x r => have := hb x (by simp); omega
  | n + 1, l, hn, hb => by
      have h1 := filter_len (n : Int) l hn
      have h2 := nodup_len n (l.filter (fun x => decide (x ≠ (n : Int)))) (hn.sublist List.filter_sublist) (fun c hc => by
        obtain ⟨h3, h4⟩ := List.mem_filter.1 hc
        have h5 := hb c h3
        have h6 := of_decide_eq_true h4
        omega)
      omega
theorem has_all (n : Nat) (l : List Int) (hn : l.Nodup) (hl : l.length = n) (hb : ∀ c ∈ l, 0 ≤ c ∧ c < (n : Int)) (c : Int) (h0 : 0 ≤ c) (h1 : c < n) : c ∈ l := by
  by_cases hc : c ∈ l
  · exact hc
  · have := nodup_len n (c :: l) (List.nodup_cons.2 ⟨hc, hn⟩) (fun d hd => by
      rcases List.mem_cons.1 hd with rfl | hd
      · exact ⟨h0, h1⟩
      · exact hb d hd)
    simp at this
    omega

end Go.Proofs.YtbldpojkpmafpaaGreatDoor

/- The reference of package bus: whether a net covers a position, and whether two nets meet. -/
namespace Go.Proofs.YtbldpojkpmafpaaGreatDoor
open Go.RowKit

def refExt (order : List Int) (cols : List Int) : Int × Int := (Bus.refLow (Bus.pos order) (-1) cols, refHigh (Bus.pos order) cols)
def covR (a : Int × Int) (p : Int) : Bool := decide (a.1 ≤ p) && decide (p ≤ a.2)
def netV (x : NetAt) : Value := .agg #[.int .i64 x.sh, .slice x.loc x.cols.length x.cap]

set_option maxRecDepth 100000 in
theorem refCovers_any (x : NetAt) (A : Option Addr) (c B : Nat) (order : List Int) (p : Int) (w : World) (hr : Row w B x.loc (x.cols.map (Value.int .i64))) (h : Row w B A (order.map (Value.int .i64))) (hB : B ≤ w.heap.size) (hl : order.length ≤ 1000) (hf : x.cols.length ≤ 140737488355328) :
    Calls Tryz.prog 99 #[netV x, .slice A order.length c, .int .i64 p] w fun e w' => e = .returned (.bool (covR (refExt order x.cols) p)) ∧ Below w.heap.size w w' := by
  have HE := Lib.hid (fun w' (hb : Below w.heap.size w w') => refExtent_any x A c B order w' (hr.below hb hB) (h.below hb hB) (by have := hb.size; omega) hl hf)
  unfold refExt
  generalize Bus.refLow (Bus.pos order) (-1) x.cols = lo at *
  generalize refHigh (Bus.pos order) x.cols = hi at *
  unfold netV
  clear h hr
  by_cases hd : lo ≤ p
  · have h1 : decide (lo ≤ p) = true := decide_eq_true hd
    go_enter Tryz.func99, Tryz.ntmps99
    go_wp2_with fail
    have e0 := (Below.refl w.heap.size w).alloc (Nat.le_refl _) (.cells #[.int .i64 x.sh, .slice x.loc x.cols.length x.cap] 26)
    refine (HE.out _ e0).mono ?_
    rintro e w1 ⟨rfl, hb1⟩
    have e1 := below_after e0 hb1 (Nat.le_refl _)
    go_wp2_with fail
    go_ret
    exact ⟨by unfold covR; rw [h1]; rfl, e1⟩
  · have h1 : decide (lo ≤ p) = false := decide_eq_false hd
    go_enter Tryz.func99, Tryz.ntmps99
    go_wp2_with fail
    have e0 := (Below.refl w.heap.size w).alloc (Nat.le_refl _) (.cells #[.int .i64 x.sh, .slice x.loc x.cols.length x.cap] 26)
    refine (HE.out _ e0).mono ?_
    rintro e w1 ⟨rfl, hb1⟩
    have e1 := below_after e0 hb1 (Nat.le_refl _)
    go_wp2_with fail
    go_ret
    exact ⟨by unfold covR; rw [h1]; rfl, e1⟩

def meetFrom (a b : Int × Int) : Nat → Nat → Bool
  | 0, _ => false
  | m + 1, k => (covR a k && covR b k) || meetFrom a b m (k + 1)
theorem meetFrom_step (a b : Int × Int) (n k : Nat) (h : k < n) : meetFrom a b (n - k) k = ((covR a k && covR b k) || meetFrom a b (n - (k + 1)) (k + 1)) := by
  rw [show n - k = (n - (k + 1)) + 1 by omega]; rfl
theorem meetFrom_iff (a b : Int × Int) : ∀ (m k : Nat), meetFrom a b m k = true ↔ ∃ p : Nat, k ≤ p ∧ p < k + m ∧ covR a p = true ∧ covR b p = true
  | 0, k => by simp [meetFrom]; omega
  | m + 1, k => by
    rw [meetFrom, Bool.or_eq_true, Bool.and_eq_true, meetFrom_iff a b m (k + 1)]
    constructor
    · rintro (⟨h1, h2⟩ | ⟨p, h1, h2, h3⟩)
      · exact ⟨k, Nat.le_refl _, by omega, h1, h2⟩
      · exact ⟨p, by omega, by omega, h3⟩
    · rintro ⟨p, h1, h2, h3, h4⟩
      by_cases hp : p = k
      · subst hp; exact .inl ⟨h3, h4⟩
      · exact .inr ⟨p, by omega, by omega, h3, h4⟩
theorem meetFrom_eq (a b : Int × Int) (n : Nat) (ha : 0 ≤ a.1 ∧ a.1 ≤ a.2 ∧ a.2 < n) (hb : 0 ≤ b.1 ∧ b.1 ≤ b.2 ∧ b.2 < n) : meetFrom a b n 0 = (decide (a.1 ≤ b.2) && decide (b.1 ≤ a.2)) := by
  rw [Bool.eq_iff_iff, meetFrom_iff, Bool.and_eq_true, decide_eq_true_eq, decide_eq_true_eq]
  constructor
  · rintro ⟨p, _, _, h1, h2⟩
    simp only [covR, Bool.and_eq_true, decide_eq_true_eq] at h1 h2
    omega
  · rintro ⟨h1, h2⟩
    refine ⟨(max a.1 b.1).toNat, by omega, by omega, ?_, ?_⟩ <;> simp only [covR, Bool.and_eq_true, decide_eq_true_eq] <;> omega

set_option maxRecDepth 100000 in
set_option maxHeartbeats 2000000 in
theorem refMeet_any (x y : NetAt) (A : Option Addr) (c B : Nat) (order : List Int) (w : World) (hx : Row w B x.loc (x.cols.map (Value.int .i64))) (hy : Row w B y.loc (y.cols.map (Value.int .i64))) (h : Row w B A (order.map (Value.int .i64))) (hB : B ≤ w.heap.size) (hl : order.length ≤ 1000) (hfx : x.cols.length ≤ 140737488355328) (hfy : y.cols.length ≤ 140737488355328) :
    Calls Tryz.prog 55 #[netV x, netV y, .slice A order.length c] w fun e w' => e = .returned (.bool (meetFrom (refExt order x.cols) (refExt order y.cols) order.length 0)) ∧ Below w.heap.size w w' := by
  have HX := Lib.hid (fun w' (hb : Below w.heap.size w w') p => refCovers_any x A c B order p w' (hx.below hb hB) (h.below hb hB) (by have := hb.size; omega) hl hfx)
  have HY := Lib.hid (fun w' (hb : Below w.heap.size w w') p => refCovers_any y A c B order p w' (hy.below hb hB) (h.below hb hB) (by have := hb.size; omega) hl hfy)
  obtain ⟨r, hr⟩ : ∃ r, meetFrom (refExt order x.cols) (refExt order y.cols) order.length 0 = r := ⟨_, rfl⟩
  rw [hr]
  have HR := Lib.hid hr
  clear hx hy h hr
  generalize refExt order x.cols = ex at *
  generalize refExt order y.cols = ey at *
  unfold netV at *
  go_enter Tryz.func55, Tryz.ntmps55
  go_wp2_with fail
  generalize hW0 : World.alloc _ _ = W0
  have e0 : Below w.heap.size w W0 := by rw [← hW0]; exact ((Below.refl _ w).alloc (Nat.le_refl _) _).alloc (by simp) _
  have d0 : Blk W0 w.heap.size 26 #[.int .i64 x.sh, .slice x.loc x.cols.length x.cap] := by rw [← hW0]; exact (Blk.new _ _ _).alloc _
  have d1 : Blk W0 (w.heap.size + 1) 26 #[.int .i64 y.sh, .slice y.loc y.cols.length y.cap] := by rw [← hW0]; exact Blk.new' _ _ _ _ (by simp)
  clear hW0
  go_loopw [7] (fun i wr => ∃ k : Nat, k ≤ order.length ∧ i = .int .i64 k ∧ meetFrom ex ey (order.length - k) k = r ∧ Below w.heap.size w wr ∧ Blk wr w.heap.size 26 #[.int .i64 x.sh, .slice x.loc x.cols.length x.cap] ∧ Blk wr (w.heap.size + 1) 26 #[.int .i64 y.sh, .slice y.loc y.cols.length y.cap]) (fun i _ => order.length - (intOf i).toNat)
  case atStart => exact ⟨0, Nat.zero_le _, rfl, HR.out, e0, d0, d1⟩
  case round =>
    obtain ⟨k, hk, rfl, hm, eb, q0, q1⟩ := hrel
    obtain ⟨c00, c01⟩ := q0.two
    obtain ⟨c10, c11⟩ := q1.two
    by_cases hlt : k < order.length
    · rw [meetFrom_step _ _ _ _ hlt] at hm
      have hlt' : (k : Int) < (order.length : Int) := by omega
      have HcX := Lib.hid (HX.out wr eb (k : Int))
      have HcY := Lib.hid (fun w' (hb : Below w.heap.size w w') => HY.out w' hb (k : Int))
      generalize covR ex (k : Int) = bx at *
      generalize covR ey (k : Int) = by' at *
      have HM := Lib.hid hm
      clear hm
      cases bx
      · go_wp2_with fail
        refine HcX.out.mono ?_
        rintro e w1 ⟨rfl, hb1⟩
        have e1 := below_after eb hb1 (Nat.le_refl _)
        go_wp2_with fail
        go_roundw
        case rel => exact ⟨k + 1, by omega, by go_num, by simpa using HM.out, e1, keep_blk q0 hb1, keep_blk q1 hb1⟩
        case measure => simp [intOf]; omega
      · go_wp2_with fail
        refine HcX.out.mono ?_
        rintro e w1 ⟨rfl, hb1⟩
        have e1 := below_after eb hb1 (Nat.le_refl _)
        have p0 := keep_blk q0 hb1
        have p1 := keep_blk q1 hb1
        obtain ⟨f10, f11⟩ := p1.two
        cases by'
        · go_wp2_with fail
          refine (HcY.out _ e1).mono ?_
          rintro e w2 ⟨rfl, hb2⟩
          have e2 := below_after e1 hb2 (Nat.le_refl _)
          go_wp2_with fail
          go_roundw
          case rel => exact ⟨k + 1, by omega, by go_num, by simpa using HM.out, e2, keep_blk p0 hb2, keep_blk p1 hb2⟩
          case measure => simp [intOf]; omega
        · go_wp2_with fail
          refine (HcY.out _ e1).mono ?_
          rintro e w2 ⟨rfl, hb2⟩
          have e2 := below_after e1 hb2 (Nat.le_refl _)
          go_wp2_with fail
          go_ret
          exact ⟨by rw [← HM.out]; rfl, e2⟩
    · obtain rfl : k = order.length := by omega
      have HM := Lib.hid (show false = r by rw [← hm, Nat.sub_self]; rfl)
      go_wp2_with fail
      go_ret
      exact ⟨by rw [← HM.out]; rfl, eb⟩
end Go.Proofs.YtbldpojkpmafpaaGreatDoor
