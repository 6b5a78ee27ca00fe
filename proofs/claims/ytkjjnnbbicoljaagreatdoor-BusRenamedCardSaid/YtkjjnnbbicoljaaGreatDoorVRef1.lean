/- The reference of package bus and the law's own words: In, count, SameInts, ints: what they return for plain data. -/
import Derived.Test.YtkjjnnbbicoljaaGreatDoorSvUse
import Derived.Test.YtkjjnnbbicoljaaGreatDoorSvKnown
namespace Go.Proofs.YtkjjnnbbicoljaaGreatDoor
open Go.RowKit Sv
set_option maxRecDepth 100000
set_option linter.unusedVariables false
noncomputable section
abbrev iv (x : Int) : AV := .raw (.int .i64 x)
abbrev bv (x : Bool) : AV := .raw (.bool x)
abbrev nilI : List Int := []
abbrev lv (l : List Int) : AV := .lst false (.int .i64) l
theorem getD_lt {l : List Int} {k : Nat} (h : k < l.length) : l.getD k 0 = l[k] := by simp [List.getD_eq_getElem?_getD, h]
theorem take_next {l : List Int} {k : Nat} (h : k < l.length) : l.take (k + 1) = l.take k ++ [l.getD k 0] := by rw [getD_lt h]; simp
theorem bounded_of {n b : Nat} (h : n ≤ 1000000) (hb : b ≤ 1000000) : bounded n b = true := by
  unfold bounded
  have := Nat.mul_le_mul h hb
  rw [Nat.ble_eq_true_of_le (by omega), Nat.ble_eq_true_of_le (by omega)]; rfl

/-! ### In -/
def BIn : Code := (Tryz.f52.body).getD .skip
def SIn (l : List Int) (x : Int) (k : Nat) : St := { n := 18, sl := [(0, lv l), (1, iv x), (5, iv k)], en := [], next := 64 }
theorem In_start (l : List Int) (x : Int)  :
    Tst.path (vrun0 Tryz.prog (ctrs []) (fl BIn []) 2 18 [lv l, iv x]) [] (toSt Tryz.prog 18 .normal [] (SIn l x 0)) := by
  have eTst : (Tst.path (vrun0 Tryz.prog (ctrs []) (fl BIn []) 2 18 [lv l, iv x]) [] (toSt Tryz.prog 18 .normal [] (SIn l x 0))) = (((l) = (l)) ∧ ((x) = (x)) ∧ (((0 : Int)) = ((↑(0 : Nat) : Int))) ∧ True) := by kernel_rfl
  exact eTst.mpr ⟨rfl, ⟨rfl, ⟨rfl, trivial⟩⟩⟩
theorem In_go (l : List Int) (x : Int) (k : Nat) (h1 : (↑k : Int) < (↑(List.length l) : Int)) (h2 : k < List.length l) (h3 : ¬List.getD l k (0 : Int) = x) (h4 : -9223372036854775808 ≤ (↑k : Int) + (1 : Int) ∧ (↑k : Int) + (1 : Int) ≤ 9223372036854775807) :
    Tst.path (vall Tryz.prog (ctrs []) (fl BIn [1,0,1,0,0]) (SIn l x k)) [true, false] (toSt Tryz.prog 18 .normal [] (SIn l x (k + 1))) := by
  have eTst : (Tst.path (vall Tryz.prog (ctrs []) (fl BIn [1,0,1,0,0]) (SIn l x k)) [true, false] (toSt Tryz.prog 18 .normal [] (SIn l x (k + 1)))) = (((decide ((↑k : Int) < (↑(List.length l) : Int))) = true) ∧ ((decide ((0 : Int) ≤ (↑k : Int))) = true) ∧ ((decide (k < List.length l)) = true) ∧ ((List.getD l k (0 : Int) == x) = false) ∧ ((fits IntKind.i64 ((↑k : Int) + (1 : Int))) = true) ∧ ((l) = (l)) ∧ ((x) = (x)) ∧ (((↑k : Int) + (1 : Int)) = ((↑(k + (1 : Nat)) : Int))) ∧ True) := by kernel_rfl
  exact eTst.mpr ⟨decide_eq_true h1, ⟨decide_eq_true (by omega), ⟨decide_eq_true h2, ⟨beq_eq_false_iff_ne.mpr h3, ⟨fits_i64 h4, ⟨rfl, ⟨rfl, ⟨(by omega), trivial⟩⟩⟩⟩⟩⟩⟩⟩
theorem In_hit (l : List Int) (x : Int) (k : Nat) (h1 : (↑k : Int) < (↑(List.length l) : Int)) (h2 : k < List.length l) (h3 : List.getD l k (0 : Int) = x) :
    Tst.path (vall Tryz.prog (ctrs []) (fl BIn [1,0,1,0,0]) (SIn l x k)) [true, true] (toRet Tryz.prog Tryz.f52 true (bv true)) := by
  have eTst : (Tst.path (vall Tryz.prog (ctrs []) (fl BIn [1,0,1,0,0]) (SIn l x k)) [true, true] (toRet Tryz.prog Tryz.f52 true (bv true))) = (((decide ((↑k : Int) < (↑(List.length l) : Int))) = true) ∧ ((decide ((0 : Int) ≤ (↑k : Int))) = true) ∧ ((decide (k < List.length l)) = true) ∧ ((List.getD l k (0 : Int) == x) = true) ∧ (true) = true) := by kernel_rfl
  exact eTst.mpr ⟨decide_eq_true h1, ⟨decide_eq_true (by omega), ⟨decide_eq_true h2, ⟨beq_iff_eq.mpr h3, rfl⟩⟩⟩⟩
theorem In_end (l : List Int) (x : Int) (k : Nat) (h1 : ¬(↑k : Int) < (↑(List.length l) : Int)) :
    Tst.path (vall Tryz.prog (ctrs []) (fl BIn [1,0,1,0,0]) (SIn l x k)) [false] (toSt Tryz.prog 18 (.exit 0) [] (SIn l x k)) := by
  have eTst : (Tst.path (vall Tryz.prog (ctrs []) (fl BIn [1,0,1,0,0]) (SIn l x k)) [false] (toSt Tryz.prog 18 (.exit 0) [] (SIn l x k))) = (((decide ((↑k : Int) < (↑(List.length l) : Int))) = false) ∧ ((l) = (l)) ∧ ((x) = (x)) ∧ (((↑k : Int)) = ((↑k : Int))) ∧ True) := by kernel_rfl
  exact eTst.mpr ⟨decide_eq_false h1, ⟨rfl, ⟨rfl, ⟨rfl, trivial⟩⟩⟩⟩
theorem In_no (l : List Int) (x : Int) (k : Nat)  :
    Tst.path (vall Tryz.prog (ctrs []) (List.drop 3 (fl BIn [])) (SIn l x k)) [] (toRet Tryz.prog Tryz.f52 true (bv false)) := by
  have eTst : (Tst.path (vall Tryz.prog (ctrs []) (List.drop 3 (fl BIn [])) (SIn l x k)) [] (toRet Tryz.prog Tryz.f52 true (bv false))) = ((false) = false) := by kernel_rfl
  exact eTst.mpr rfl
theorem none_ok : CallOk Tryz.prog (gS (ctrs [])) := ctrs_ok (l := []) fun c h => by cases h
theorem In_holds (l : List Int) (x : Int) (hl : l.length ≤ 1000000) : Holds Tryz.prog true 52 [lv l, iv x] (bv (decide (x ∈ l))) := by
  have hS := none_ok
  refine holds_fl (c := BIn) Tryz.func52 rfl rfl fun w F => ?_
  refine GoalL.to known mixed hS 2 [] (In_start l x) (by kernel_rfl) ?_
  refine GoalL.loop (ι := { k : Nat // k ≤ l.length ∧ x ∉ l.take k }) (id := 0) (b := cat BIn [1,0,1,0,0]) (rest := List.drop 3 (fl BIn [])) (by kernel_rfl) (fun k => SIn l x k.1) (fun k => l.length - k.1) ⟨0, Nat.zero_le _, by simp⟩ (fun _ => rfl) ?_
  rintro ⟨k, hk, hx⟩
  by_cases hlt : k < l.length
  · by_cases hh : l.getD k 0 = x
    · refine GoalL.allRet (s := SIn l x k) known mixed hS _ (In_hit l x k (by omega) (by omega) hh) fun T H h => ?_
      have hm : x ∈ l := by rw [← hh, getD_lt hlt]; exact List.getElem_mem _
      rw [decide_eq_true hm]; exact h
    · refine GoalL.all (s := SIn l x k) known mixed hS _ (In_go l x k (by omega) (by omega) hh (by omega)) (by kernel_rfl) ?_
      exact ⟨⟨k + 1, hlt, by rw [take_next hlt]; simp only [List.mem_append, List.mem_singleton]; exact fun h => h.elim hx fun h => hh h.symm⟩, by simp; omega, rfl, rfl⟩
  · refine GoalL.all (s := SIn l x k) known mixed hS _ (In_end l x k (by omega)) (by kernel_rfl) ?_
    refine onN_exit (inB_exit ?_)
    obtain rfl : k = l.length := by omega
    rw [List.take_length] at hx
    refine GoalL.allRet (s := SIn l x l.length) known mixed hS _ (In_no l x _) fun T H h => ?_
    rw [decide_eq_false hx]; exact h
noncomputable def cIn : Ctr := { f := 52, ps := [.list false (.int .i64), .int .i64], rs := [.bool], fresh := true, pre := fun d => decide (List.length (α := Int) d.1 ≤ 1000000), fn := fun d => ((decide ((d.2.1 : Int) ∈ (d.1 : List Int)) : Bool), ()) }
theorem cIn_ok : cIn.Ok Tryz.prog := fun d h => In_holds d.1 d.2.1 (of_decide_eq_true h)
theorem one_ok {c : Ctr} (h : c.Ok Tryz.prog) : CallOk Tryz.prog (gS (ctrs [c])) := ctrs_ok fun c' hc => by rw [List.mem_singleton.1 hc]; exact h

/-! ### count -/
def cntUp (l : List Int) : Nat → Nat
  | 0 => 0
  | k + 1 => if l.getD k 0 ∈ l.take k then cntUp l k else cntUp l k + 1
def BCount : Code := (Tryz.f55.body).getD .skip
def SCount (l : List Int) (c k : Nat) : St := { n := 23, sl := [(0, lv l), (3, iv c), (4, iv k)], en := [], next := 64 }
theorem count_start (l : List Int)  :
    Tst.path (vrun0 Tryz.prog (ctrs [cIn]) (fl BCount []) 3 23 [lv l]) [] (toSt Tryz.prog 23 .normal [] (SCount l 0 0)) := by
  have eTst : (Tst.path (vrun0 Tryz.prog (ctrs [cIn]) (fl BCount []) 3 23 [lv l]) [] (toSt Tryz.prog 23 .normal [] (SCount l 0 0))) = (((l) = (l)) ∧ (((0 : Int)) = ((↑(0 : Nat) : Int))) ∧ (((0 : Int)) = ((↑(0 : Nat) : Int))) ∧ True) := by kernel_rfl
  exact eTst.mpr ⟨rfl, ⟨rfl, ⟨rfl, trivial⟩⟩⟩
theorem count_new (l : List Int) (c k : Nat) (h1 : (↑k : Int) < (↑(List.length l) : Int)) (h2 : k ≤ List.length l) (h3 : k < List.length l) (h4 : List.length (List.drop (0 : Nat) (List.take k l)) ≤ (1000000 : Nat)) (h5 : ¬List.getD l k (0 : Int) ∈ List.drop (0 : Nat) (List.take k l)) (h6 : -9223372036854775808 ≤ (↑c : Int) + (1 : Int) ∧ (↑c : Int) + (1 : Int) ≤ 9223372036854775807) (h7 : -9223372036854775808 ≤ (↑k : Int) + (1 : Int) ∧ (↑k : Int) + (1 : Int) ≤ 9223372036854775807) :
    Tst.path (vall Tryz.prog (ctrs [cIn]) (fl BCount [1,1,0,1,0,0]) (SCount l c k)) [true, true] (toSt Tryz.prog 23 .normal [] (SCount l (c + 1) (k + 1))) := by
  have eTst : (Tst.path (vall Tryz.prog (ctrs [cIn]) (fl BCount [1,1,0,1,0,0]) (SCount l c k)) [true, true] (toSt Tryz.prog 23 .normal [] (SCount l (c + 1) (k + 1)))) = (((decide ((↑k : Int) < (↑(List.length l) : Int))) = true) ∧ ((decide ((0 : Int) ≤ (↑k : Int))) = true) ∧ ((decide ((0 : Nat) ≤ k)) = true) ∧ ((decide (k ≤ List.length l)) = true) ∧ ((decide ((0 : Int) ≤ (↑k : Int))) = true) ∧ ((decide (k < List.length l)) = true) ∧ ((AV.same (AV.raw (Value.int IntKind.i64 (List.getD l k (0 : Int)))) (AV.raw (Value.int IntKind.i64 (List.getD l k (0 : Int))))) = true) ∧ ((decide (List.length (List.drop (0 : Nat) (List.take k l)) ≤ (1000000 : Nat))) = true) ∧ ((!decide (List.getD l k (0 : Int) ∈ List.drop (0 : Nat) (List.take k l))) = true) ∧ ((fits IntKind.i64 ((↑c : Int) + (1 : Int))) = true) ∧ ((fits IntKind.i64 ((↑k : Int) + (1 : Int))) = true) ∧ ((l) = (l)) ∧ (((↑c : Int) + (1 : Int)) = ((↑(c + (1 : Nat)) : Int))) ∧ (((↑k : Int) + (1 : Int)) = ((↑(k + (1 : Nat)) : Int))) ∧ True) := by kernel_rfl
  exact eTst.mpr ⟨decide_eq_true h1, ⟨decide_eq_true (by omega), ⟨decide_eq_true (by omega), ⟨decide_eq_true h2, ⟨decide_eq_true (by omega), ⟨decide_eq_true h3, ⟨same_refl (by kernel_rfl), ⟨decide_eq_true h4, ⟨congrArg (fun y => !y) (show (decide (List.getD l k (0 : Int) ∈ List.drop (0 : Nat) (List.take k l))) = false from decide_eq_false h5), ⟨fits_i64 h6, ⟨fits_i64 h7, ⟨rfl, ⟨(by omega), ⟨(by omega), trivial⟩⟩⟩⟩⟩⟩⟩⟩⟩⟩⟩⟩⟩⟩
theorem count_old (l : List Int) (c k : Nat) (h1 : (↑k : Int) < (↑(List.length l) : Int)) (h2 : k ≤ List.length l) (h3 : k < List.length l) (h4 : List.length (List.drop (0 : Nat) (List.take k l)) ≤ (1000000 : Nat)) (h5 : List.getD l k (0 : Int) ∈ List.drop (0 : Nat) (List.take k l)) (h6 : -9223372036854775808 ≤ (↑k : Int) + (1 : Int) ∧ (↑k : Int) + (1 : Int) ≤ 9223372036854775807) :
    Tst.path (vall Tryz.prog (ctrs [cIn]) (fl BCount [1,1,0,1,0,0]) (SCount l c k)) [true, false] (toSt Tryz.prog 23 .normal [] (SCount l c (k + 1))) := by
  have eTst : (Tst.path (vall Tryz.prog (ctrs [cIn]) (fl BCount [1,1,0,1,0,0]) (SCount l c k)) [true, false] (toSt Tryz.prog 23 .normal [] (SCount l c (k + 1)))) = (((decide ((↑k : Int) < (↑(List.length l) : Int))) = true) ∧ ((decide ((0 : Int) ≤ (↑k : Int))) = true) ∧ ((decide ((0 : Nat) ≤ k)) = true) ∧ ((decide (k ≤ List.length l)) = true) ∧ ((decide ((0 : Int) ≤ (↑k : Int))) = true) ∧ ((decide (k < List.length l)) = true) ∧ ((AV.same (AV.raw (Value.int IntKind.i64 (List.getD l k (0 : Int)))) (AV.raw (Value.int IntKind.i64 (List.getD l k (0 : Int))))) = true) ∧ ((decide (List.length (List.drop (0 : Nat) (List.take k l)) ≤ (1000000 : Nat))) = true) ∧ ((!decide (List.getD l k (0 : Int) ∈ List.drop (0 : Nat) (List.take k l))) = false) ∧ ((fits IntKind.i64 ((↑k : Int) + (1 : Int))) = true) ∧ ((l) = (l)) ∧ (((↑c : Int)) = ((↑c : Int))) ∧ (((↑k : Int) + (1 : Int)) = ((↑(k + (1 : Nat)) : Int))) ∧ True) := by kernel_rfl
  exact eTst.mpr ⟨decide_eq_true h1, ⟨decide_eq_true (by omega), ⟨decide_eq_true (by omega), ⟨decide_eq_true h2, ⟨decide_eq_true (by omega), ⟨decide_eq_true h3, ⟨same_refl (by kernel_rfl), ⟨decide_eq_true h4, ⟨congrArg (fun y => !y) (show (decide (List.getD l k (0 : Int) ∈ List.drop (0 : Nat) (List.take k l))) = true from decide_eq_true h5), ⟨fits_i64 h6, ⟨rfl, ⟨rfl, ⟨(by omega), trivial⟩⟩⟩⟩⟩⟩⟩⟩⟩⟩⟩⟩⟩
theorem count_end (l : List Int) (c k : Nat) (h1 : ¬(↑k : Int) < (↑(List.length l) : Int)) :
    Tst.path (vall Tryz.prog (ctrs [cIn]) (fl BCount [1,1,0,1,0,0]) (SCount l c k)) [false] (toSt Tryz.prog 23 (.exit 0) [] (SCount l c k)) := by
  have eTst : (Tst.path (vall Tryz.prog (ctrs [cIn]) (fl BCount [1,1,0,1,0,0]) (SCount l c k)) [false] (toSt Tryz.prog 23 (.exit 0) [] (SCount l c k))) = (((decide ((↑k : Int) < (↑(List.length l) : Int))) = false) ∧ ((l) = (l)) ∧ (((↑c : Int)) = ((↑c : Int))) ∧ (((↑k : Int)) = ((↑k : Int))) ∧ True) := by kernel_rfl
  exact eTst.mpr ⟨decide_eq_false h1, ⟨rfl, ⟨rfl, ⟨rfl, trivial⟩⟩⟩⟩
theorem count_ret (l : List Int) (c k : Nat)  :
    Tst.path (vall Tryz.prog (ctrs [cIn]) (List.drop 4 (fl BCount [])) (SCount l c k)) [] (toRet Tryz.prog Tryz.f55 true (iv c)) := by
  have eTst : (Tst.path (vall Tryz.prog (ctrs [cIn]) (List.drop 4 (fl BCount [])) (SCount l c k)) [] (toRet Tryz.prog Tryz.f55 true (iv c))) = (((↑c : Int)) = ((↑c : Int))) := by kernel_rfl
  exact eTst.mpr rfl
theorem cntUp_le (l : List Int) : ∀ k, cntUp l k ≤ k
  | 0 => Nat.le_refl _
  | k + 1 => by
    have := cntUp_le l k
    unfold cntUp
    split <;> omega
theorem count_holds (l : List Int) (hl : l.length ≤ 1000000) : Holds Tryz.prog true 55 [lv l] (iv (cntUp l l.length)) := by
  have hS := one_ok cIn_ok
  refine holds_fl (c := BCount) Tryz.func55 rfl rfl fun w F => ?_
  refine GoalL.to known mixed hS 3 [] (count_start l) (by kernel_rfl) ?_
  refine GoalL.loop (ι := { k : Nat // k ≤ l.length }) (id := 0) (b := cat BCount [1,1,0,1,0,0]) (rest := List.drop 4 (fl BCount [])) (by kernel_rfl) (fun k => SCount l (cntUp l k.1) k.1) (fun k => l.length - k.1) ⟨0, Nat.zero_le _⟩ (fun _ => rfl) ?_
  rintro ⟨k, hk⟩
  have hc := cntUp_le l k
  by_cases hlt : k < l.length
  · by_cases hh : l.getD k 0 ∈ l.take k
    · refine GoalL.all (s := SCount l (cntUp l k) k) known mixed hS _ (count_old l _ k (by omega) (by omega) (by omega) (by simp; omega) hh (by omega)) (by kernel_rfl) ?_
      exact ⟨⟨k + 1, hlt⟩, by simp; omega, by show _ = (SCount l (cntUp l (k + 1)) (k + 1)).T; rw [cntUp, if_pos hh], rfl⟩
    · refine GoalL.all (s := SCount l (cntUp l k) k) known mixed hS _ (count_new l _ k (by omega) (by omega) (by omega) (by simp; omega) hh (by omega) (by omega)) (by kernel_rfl) ?_
      exact ⟨⟨k + 1, hlt⟩, by simp; omega, by show _ = (SCount l (cntUp l (k + 1)) (k + 1)).T; rw [cntUp, if_neg hh], rfl⟩
  · refine GoalL.all (s := SCount l (cntUp l k) k) known mixed hS _ (count_end l _ k (by omega)) (by kernel_rfl) ?_
    refine onN_exit (inB_exit ?_)
    obtain rfl : k = l.length := by omega
    exact GoalL.allRet (s := SCount l (cntUp l l.length) l.length) known mixed hS _ (count_ret l _ _) fun T H h => h
noncomputable def cCount : Ctr := { f := 55, ps := [.list false (.int .i64)], rs := [.int .i64], fresh := true, pre := fun d => decide (List.length (α := Int) d.1 ≤ 1000000), fn := fun d => (((cntUp d.1 (List.length (α := Int) d.1) : Nat) : Int), ()) }
theorem cCount_ok : cCount.Ok Tryz.prog := fun d h => count_holds d.1 (of_decide_eq_true h)
end
end Go.Proofs.YtkjjnnbbicoljaaGreatDoor
