/- The reference of package bus: over, Under, used, Crossings, Bound, Mirror as contracts on plain data. -/
import Derived.Test.YtbldpojkpmafpaaGreatDoorZbVPairLaw
import Derived.Test.YtbldpojkpmafpaaGreatDoorZbVOrdLaw
import Derived.Test.YtbldpojkpmafpaaGreatDoorZbVCr
namespace Go.Proofs.YtbldpojkpmafpaaGreatDoor
open Go.RowKit Sv
set_option maxRecDepth 100000
set_option linter.unusedVariables false
noncomputable section
noncomputable def cPos : Ctr := { f := 62, ps := [.list false (.int .i64), .int .i64], rs := [.int .i64], fresh := true, pre := fun d => decide (List.length (α := Int) d.1 ≤ 1000000), fn := fun d => (Bus.pos d.1 d.2.1, ()) }
theorem cPos_ok : cPos.Ok Tryz.prog := fun ⟨l, x, _⟩ h => holds_raw fun w F xs hF hd => by
  cases hd with
  | cons d1 d2 =>
    cases d2 with
    | cons d2 d3 =>
      cases d3
      obtain ⟨A, c, rfl, _, hR⟩ := den_ints hF d1
      rw [d2.raw_eq]
      exact (position_any A c w.heap.size l x w (of_decide_eq_true h) hR).mono fun e w' ⟨g1, g2⟩ => by subst g2; exact ⟨g1, Below.refl _ _⟩
def okCr (nets : List (Int × List Int)) (order ts : List Int) : Bool := decide (nets.length ≤ 64) && (decide (order.length ≤ 1000) && (decide (nets.length ≤ ts.length) && (decide (ts.length ≤ 1000) && nets.all fun x => decide (x.2.length ≤ 1000))))
def BOv : Code := (Tryz.f100.body).getD .skip
def SOv (nets : List (Int × List Int)) (order ts : List Int) (tr p c : Int) (i : Nat) : St := { n := 37, sl := [(0, nv nets), (1, lv order), (2, lv ts), (3, iv tr), (4, iv p), (11, iv c), (12, iv i)], en := [], next := 64 }
theorem ov_start (nets : List (Int × List Int)) (order ts : List Int) (tr p : Int)  :
    Tst.path (vrun0 Tryz.prog (ctrs [cCovers]) (fl BOv []) 3 37 [nv nets, lv order, lv ts, iv tr, iv p]) [] (toSt Tryz.prog 37 .normal [] (SOv nets order ts tr p 0 0)) := by
  have eTst : (Tst.path (vrun0 Tryz.prog (ctrs [cCovers]) (fl BOv []) 3 37 [nv nets, lv order, lv ts, iv tr, iv p]) [] (toSt Tryz.prog 37 .normal [] (SOv nets order ts tr p 0 0))) = (((nets) = (nets)) ∧ ((order) = (order)) ∧ ((ts) = (ts)) ∧ ((tr) = (tr)) ∧ ((p) = (p)) ∧ (((0 : Int)) = ((0 : Int))) ∧ (((0 : Int)) = ((↑(0 : Nat) : Int))) ∧ True) := by kernel_rfl
  exact eTst.mpr ⟨rfl, ⟨rfl, ⟨rfl, ⟨rfl, ⟨rfl, ⟨rfl, ⟨rfl, trivial⟩⟩⟩⟩⟩⟩⟩
theorem ov_add (nets : List (Int × List Int)) (order ts : List Int) (tr p c : Int) (i : Nat) (h1 : (↑i : Int) < (↑(List.length nets) : Int)) (h2 : i < List.length ts) (h3 : List.getD ts i (0 : Int) = tr) (h4 : i < List.length nets) (h5 : (decide (List.length order ≤ (1000 : Nat)) && decide (List.length (Prod.snd (List.getD nets i ((0 : Int), []))) ≤ (140737488355328 : Nat))) = true) (h6 : (covR (refExt order (Prod.snd (List.getD nets i ((0 : Int), [])))) p) = true) (h7 : -9223372036854775808 ≤ c + (1 : Int) ∧ c + (1 : Int) ≤ 9223372036854775807) (h8 : -9223372036854775808 ≤ (↑i : Int) + (1 : Int) ∧ (↑i : Int) + (1 : Int) ≤ 9223372036854775807) :
    Tst.path (vall Tryz.prog (ctrs [cCovers]) (fl BOv [1,1,0,1,0,0]) (SOv nets order ts tr p c i)) [true, true, true, true, true, true, true, true, true, true] (toSt Tryz.prog 37 .normal [] (SOv nets order ts tr p (c + 1) (i + 1))) := by
  have eTst : (Tst.path (vall Tryz.prog (ctrs [cCovers]) (fl BOv [1,1,0,1,0,0]) (SOv nets order ts tr p c i)) [true, true, true, true, true, true, true, true, true, true] (toSt Tryz.prog 37 .normal [] (SOv nets order ts tr p (c + 1) (i + 1)))) = (((decide ((↑i : Int) < (↑(List.length nets) : Int))) = true) ∧ ((decide ((0 : Int) ≤ (↑i : Int))) = true) ∧ ((decide (i < List.length ts)) = true) ∧ (((List.getD ts i (0 : Int) == tr) == true) = true) ∧ (((List.getD ts i (0 : Int) == tr) == true) = true) ∧ (((List.getD ts i (0 : Int) == tr) == true) = true) ∧ ((decide ((0 : Int) ≤ (↑i : Int))) = true) ∧ ((decide (i < List.length nets)) = true) ∧ (((List.getD ts i (0 : Int) == tr) == true) = true) ∧ (((List.getD ts i (0 : Int) == tr) == true) = true) ∧ (((List.getD ts i (0 : Int) == tr) == true) = true) ∧ (((List.getD ts i (0 : Int) == tr) == true) = true) ∧ ((decide (List.length order ≤ (1000 : Nat)) && decide (List.length (Prod.snd (List.getD nets i ((0 : Int), []))) ≤ (140737488355328 : Nat))) = true) ∧ ((List.getD ts i (0 : Int) == tr) = true) ∧ ((covR (refExt order (Prod.snd (List.getD nets i ((0 : Int), [])))) p) = true) ∧ ((fits IntKind.i64 (c + (1 : Int))) = true) ∧ ((fits IntKind.i64 ((↑i : Int) + (1 : Int))) = true) ∧ ((nets) = (nets)) ∧ ((order) = (order)) ∧ ((ts) = (ts)) ∧ ((tr) = (tr)) ∧ ((p) = (p)) ∧ ((c + (1 : Int)) = (c + (1 : Int))) ∧ (((↑i : Int) + (1 : Int)) = ((↑(i + (1 : Nat)) : Int))) ∧ True) := by kernel_rfl
  exact eTst.mpr ⟨decide_eq_true h1, ⟨decide_eq_true (by omega), ⟨decide_eq_true h2, ⟨congrArg (fun y => y == true) (show (List.getD ts i (0 : Int) == tr) = true from beq_iff_eq.mpr h3), ⟨congrArg (fun y => y == true) (show (List.getD ts i (0 : Int) == tr) = true from beq_iff_eq.mpr h3), ⟨congrArg (fun y => y == true) (show (List.getD ts i (0 : Int) == tr) = true from beq_iff_eq.mpr h3), ⟨decide_eq_true (by omega), ⟨decide_eq_true h4, ⟨congrArg (fun y => y == true) (show (List.getD ts i (0 : Int) == tr) = true from beq_iff_eq.mpr h3), ⟨congrArg (fun y => y == true) (show (List.getD ts i (0 : Int) == tr) = true from beq_iff_eq.mpr h3), ⟨congrArg (fun y => y == true) (show (List.getD ts i (0 : Int) == tr) = true from beq_iff_eq.mpr h3), ⟨congrArg (fun y => y == true) (show (List.getD ts i (0 : Int) == tr) = true from beq_iff_eq.mpr h3), ⟨h5, ⟨beq_iff_eq.mpr h3, ⟨h6, ⟨fits_i64 h7, ⟨fits_i64 h8, ⟨rfl, ⟨rfl, ⟨rfl, ⟨rfl, ⟨rfl, ⟨rfl, ⟨(by omega), trivial⟩⟩⟩⟩⟩⟩⟩⟩⟩⟩⟩⟩⟩⟩⟩⟩⟩⟩⟩⟩⟩⟩⟩⟩
theorem ov_nc (nets : List (Int × List Int)) (order ts : List Int) (tr p c : Int) (i : Nat) (h1 : (↑i : Int) < (↑(List.length nets) : Int)) (h2 : i < List.length ts) (h3 : List.getD ts i (0 : Int) = tr) (h4 : i < List.length nets) (h5 : (decide (List.length order ≤ (1000 : Nat)) && decide (List.length (Prod.snd (List.getD nets i ((0 : Int), []))) ≤ (140737488355328 : Nat))) = true) (h6 : (covR (refExt order (Prod.snd (List.getD nets i ((0 : Int), [])))) p) = false) (h7 : -9223372036854775808 ≤ (↑i : Int) + (1 : Int) ∧ (↑i : Int) + (1 : Int) ≤ 9223372036854775807) :
    Tst.path (vall Tryz.prog (ctrs [cCovers]) (fl BOv [1,1,0,1,0,0]) (SOv nets order ts tr p c i)) [true, true, true, true, true, true, true, true, true, false] (toSt Tryz.prog 37 .normal [] (SOv nets order ts tr p c (i + 1))) := by
  have eTst : (Tst.path (vall Tryz.prog (ctrs [cCovers]) (fl BOv [1,1,0,1,0,0]) (SOv nets order ts tr p c i)) [true, true, true, true, true, true, true, true, true, false] (toSt Tryz.prog 37 .normal [] (SOv nets order ts tr p c (i + 1)))) = (((decide ((↑i : Int) < (↑(List.length nets) : Int))) = true) ∧ ((decide ((0 : Int) ≤ (↑i : Int))) = true) ∧ ((decide (i < List.length ts)) = true) ∧ (((List.getD ts i (0 : Int) == tr) == true) = true) ∧ (((List.getD ts i (0 : Int) == tr) == true) = true) ∧ (((List.getD ts i (0 : Int) == tr) == true) = true) ∧ ((decide ((0 : Int) ≤ (↑i : Int))) = true) ∧ ((decide (i < List.length nets)) = true) ∧ (((List.getD ts i (0 : Int) == tr) == true) = true) ∧ (((List.getD ts i (0 : Int) == tr) == true) = true) ∧ (((List.getD ts i (0 : Int) == tr) == true) = true) ∧ (((List.getD ts i (0 : Int) == tr) == true) = true) ∧ ((decide (List.length order ≤ (1000 : Nat)) && decide (List.length (Prod.snd (List.getD nets i ((0 : Int), []))) ≤ (140737488355328 : Nat))) = true) ∧ ((List.getD ts i (0 : Int) == tr) = true) ∧ ((covR (refExt order (Prod.snd (List.getD nets i ((0 : Int), [])))) p) = false) ∧ ((fits IntKind.i64 ((↑i : Int) + (1 : Int))) = true) ∧ ((nets) = (nets)) ∧ ((order) = (order)) ∧ ((ts) = (ts)) ∧ ((tr) = (tr)) ∧ ((p) = (p)) ∧ ((c) = (c)) ∧ (((↑i : Int) + (1 : Int)) = ((↑(i + (1 : Nat)) : Int))) ∧ True) := by kernel_rfl
  exact eTst.mpr ⟨decide_eq_true h1, ⟨decide_eq_true (by omega), ⟨decide_eq_true h2, ⟨congrArg (fun y => y == true) (show (List.getD ts i (0 : Int) == tr) = true from beq_iff_eq.mpr h3), ⟨congrArg (fun y => y == true) (show (List.getD ts i (0 : Int) == tr) = true from beq_iff_eq.mpr h3), ⟨congrArg (fun y => y == true) (show (List.getD ts i (0 : Int) == tr) = true from beq_iff_eq.mpr h3), ⟨decide_eq_true (by omega), ⟨decide_eq_true h4, ⟨congrArg (fun y => y == true) (show (List.getD ts i (0 : Int) == tr) = true from beq_iff_eq.mpr h3), ⟨congrArg (fun y => y == true) (show (List.getD ts i (0 : Int) == tr) = true from beq_iff_eq.mpr h3), ⟨congrArg (fun y => y == true) (show (List.getD ts i (0 : Int) == tr) = true from beq_iff_eq.mpr h3), ⟨congrArg (fun y => y == true) (show (List.getD ts i (0 : Int) == tr) = true from beq_iff_eq.mpr h3), ⟨h5, ⟨beq_iff_eq.mpr h3, ⟨h6, ⟨fits_i64 h7, ⟨rfl, ⟨rfl, ⟨rfl, ⟨rfl, ⟨rfl, ⟨rfl, ⟨(by omega), trivial⟩⟩⟩⟩⟩⟩⟩⟩⟩⟩⟩⟩⟩⟩⟩⟩⟩⟩⟩⟩⟩⟩⟩
theorem ov_ne (nets : List (Int × List Int)) (order ts : List Int) (tr p c : Int) (i : Nat) (h1 : (↑i : Int) < (↑(List.length nets) : Int)) (h2 : i < List.length ts) (h3 : ¬List.getD ts i (0 : Int) = tr) (h4 : -9223372036854775808 ≤ (↑i : Int) + (1 : Int) ∧ (↑i : Int) + (1 : Int) ≤ 9223372036854775807) :
    Tst.path (vall Tryz.prog (ctrs [cCovers]) (fl BOv [1,1,0,1,0,0]) (SOv nets order ts tr p c i)) [true, false, false, false, false, false, false, false, false, false] (toSt Tryz.prog 37 .normal [] (SOv nets order ts tr p c (i + 1))) := by
  have eTst : (Tst.path (vall Tryz.prog (ctrs [cCovers]) (fl BOv [1,1,0,1,0,0]) (SOv nets order ts tr p c i)) [true, false, false, false, false, false, false, false, false, false] (toSt Tryz.prog 37 .normal [] (SOv nets order ts tr p c (i + 1)))) = (((decide ((↑i : Int) < (↑(List.length nets) : Int))) = true) ∧ ((decide ((0 : Int) ≤ (↑i : Int))) = true) ∧ ((decide (i < List.length ts)) = true) ∧ (((List.getD ts i (0 : Int) == tr) == true) = false) ∧ (((List.getD ts i (0 : Int) == tr) == true) = false) ∧ (((List.getD ts i (0 : Int) == tr) == true) = false) ∧ (((List.getD ts i (0 : Int) == tr) == true) = false) ∧ (((List.getD ts i (0 : Int) == tr) == true) = false) ∧ (((List.getD ts i (0 : Int) == tr) == true) = false) ∧ (((List.getD ts i (0 : Int) == tr) == true) = false) ∧ ((List.getD ts i (0 : Int) == tr) = false) ∧ ((false) = false) ∧ ((fits IntKind.i64 ((↑i : Int) + (1 : Int))) = true) ∧ ((nets) = (nets)) ∧ ((order) = (order)) ∧ ((ts) = (ts)) ∧ ((tr) = (tr)) ∧ ((p) = (p)) ∧ ((c) = (c)) ∧ (((↑i : Int) + (1 : Int)) = ((↑(i + (1 : Nat)) : Int))) ∧ True) := by kernel_rfl
  exact eTst.mpr ⟨decide_eq_true h1, ⟨decide_eq_true (by omega), ⟨decide_eq_true h2, ⟨congrArg (fun y => y == true) (show (List.getD ts i (0 : Int) == tr) = false from beq_eq_false_iff_ne.mpr h3), ⟨congrArg (fun y => y == true) (show (List.getD ts i (0 : Int) == tr) = false from beq_eq_false_iff_ne.mpr h3), ⟨congrArg (fun y => y == true) (show (List.getD ts i (0 : Int) == tr) = false from beq_eq_false_iff_ne.mpr h3), ⟨congrArg (fun y => y == true) (show (List.getD ts i (0 : Int) == tr) = false from beq_eq_false_iff_ne.mpr h3), ⟨congrArg (fun y => y == true) (show (List.getD ts i (0 : Int) == tr) = false from beq_eq_false_iff_ne.mpr h3), ⟨congrArg (fun y => y == true) (show (List.getD ts i (0 : Int) == tr) = false from beq_eq_false_iff_ne.mpr h3), ⟨congrArg (fun y => y == true) (show (List.getD ts i (0 : Int) == tr) = false from beq_eq_false_iff_ne.mpr h3), ⟨beq_eq_false_iff_ne.mpr h3, ⟨rfl, ⟨fits_i64 h4, ⟨rfl, ⟨rfl, ⟨rfl, ⟨rfl, ⟨rfl, ⟨rfl, ⟨(by omega), trivial⟩⟩⟩⟩⟩⟩⟩⟩⟩⟩⟩⟩⟩⟩⟩⟩⟩⟩⟩⟩
theorem ov_end (nets : List (Int × List Int)) (order ts : List Int) (tr p c : Int) (i : Nat) (h1 : ¬(↑i : Int) < (↑(List.length nets) : Int)) :
    Tst.path (vall Tryz.prog (ctrs [cCovers]) (fl BOv [1,1,0,1,0,0]) (SOv nets order ts tr p c i)) [false] (toSt Tryz.prog 37 (.exit 0) [] (SOv nets order ts tr p c i)) := by
  have eTst : (Tst.path (vall Tryz.prog (ctrs [cCovers]) (fl BOv [1,1,0,1,0,0]) (SOv nets order ts tr p c i)) [false] (toSt Tryz.prog 37 (.exit 0) [] (SOv nets order ts tr p c i))) = (((decide ((↑i : Int) < (↑(List.length nets) : Int))) = false) ∧ ((nets) = (nets)) ∧ ((order) = (order)) ∧ ((ts) = (ts)) ∧ ((tr) = (tr)) ∧ ((p) = (p)) ∧ ((c) = (c)) ∧ (((↑i : Int)) = ((↑i : Int))) ∧ True) := by kernel_rfl
  exact eTst.mpr ⟨decide_eq_false h1, ⟨rfl, ⟨rfl, ⟨rfl, ⟨rfl, ⟨rfl, ⟨rfl, ⟨rfl, trivial⟩⟩⟩⟩⟩⟩⟩⟩
theorem ov_ret (nets : List (Int × List Int)) (order ts : List Int) (tr p c : Int) (i : Nat)  :
    Tst.path (vall Tryz.prog (ctrs [cCovers]) (List.drop 4 (fl BOv [])) (SOv nets order ts tr p c i)) [] (toRet Tryz.prog Tryz.f100 true (iv c)) := by
  have eTst : (Tst.path (vall Tryz.prog (ctrs [cCovers]) (List.drop 4 (fl BOv [])) (SOv nets order ts tr p c i)) [] (toRet Tryz.prog Tryz.f100 true (iv c))) = ((c) = (c)) := by kernel_rfl
  exact eTst.mpr rfl
noncomputable def cOver : Ctr := { f := 100, ps := [.list false (.pair (.int .i64) (.list false (.int .i64))), .list false (.int .i64), .list false (.int .i64), .int .i64, .int .i64], rs := [.int .i64], fresh := true, pre := fun d => okNets d.1 d.2.1 && decide (List.length (α := Int × List Int) d.1 ≤ List.length (α := Int) d.2.2.1), fn := fun d => (ovR d.1 d.2.1 d.2.2.1 d.2.2.2.1 d.2.2.2.2.1 (List.length (α := Int × List Int) d.1), ()) }
def BUn : Code := (Tryz.f57.body).getD .skip
def unCs : VCaller := ctrs [cPos, cOver]
abbrev layE (j : Nat) (order ts : List Int) : Nat × Ent := (j, .blk (.cells 29 [lv order, lv ts] true false false))
def SUn (nets : List (Int × List Int)) (order ts : List Int) (b a s : Int) (i : Nat) : St := { n := 56, sl := [(0, nv nets), (2, iv b), (3, iv a), (5, .ptr 64 0), (9, iv s), (10, iv i)], en := [layE 64 order ts], next := 65 }
def SUk (nets : List (Int × List Int)) (order ts : List Int) (b a s : Int) (i k : Nat) : St := { n := 56, sl := [(0, nv nets), (2, iv b), (3, iv a), (5, .ptr 64 0), (9, iv s), (10, iv i), (11, iv k)], en := [layE 64 order ts], next := 65 }
abbrev uO : List Nat := [1,1,0,1,0,0]
abbrev uB : List Nat := [1,1,0,1,0,0,1,0,0]
abbrev uK : List Nat := [1,1,0,1,0,0,1,0,0,1,1,0,0]
theorem un_start (nets : List (Int × List Int)) (order ts : List Int) (b a : Int)  :
    Tst.path (vrun0 Tryz.prog unCs (fl BUn []) 3 56 [nv nets, yv order ts, iv b, iv a]) [] (toSt Tryz.prog 56 .normal [(64, 64, none)] (SUn nets order ts b a 0 0)) := by
  have eTst : (Tst.path (vrun0 Tryz.prog unCs (fl BUn []) 3 56 [nv nets, yv order ts, iv b, iv a]) [] (toSt Tryz.prog 56 .normal [(64, 64, none)] (SUn nets order ts b a 0 0))) = (((nets) = (nets)) ∧ ((b) = (b)) ∧ ((a) = (a)) ∧ (((0 : Nat)) = ((0 : Nat))) ∧ (((0 : Int)) = ((0 : Int))) ∧ (((0 : Int)) = ((↑(0 : Nat) : Int))) ∧ (((order) = (order)) ∧ ((ts) = (ts)) ∧ True) ∧ True) := by kernel_rfl
  exact eTst.mpr ⟨rfl, ⟨rfl, ⟨rfl, ⟨rfl, ⟨rfl, ⟨rfl, ⟨⟨rfl, ⟨rfl, trivial⟩⟩, trivial⟩⟩⟩⟩⟩⟩⟩
theorem un_row (nets : List (Int × List Int)) (order ts : List Int) (b a s : Int) (i : Nat) (h1 : (↑i : Int) < (↑(List.length nets) : Int)) :
    Tst.path (vrun Tryz.prog unCs (fl BUn uO) 2 (SUn nets order ts b a s i)) [true] (toSt Tryz.prog 56 .normal [(64, 64, none)] (SUn nets order ts b a s i)) := by
  have eTst : (Tst.path (vrun Tryz.prog unCs (fl BUn uO) 2 (SUn nets order ts b a s i)) [true] (toSt Tryz.prog 56 .normal [(64, 64, none)] (SUn nets order ts b a s i))) = (((decide ((↑i : Int) < (↑(List.length nets) : Int))) = true) ∧ ((nets) = (nets)) ∧ ((b) = (b)) ∧ ((a) = (a)) ∧ (((0 : Nat)) = ((0 : Nat))) ∧ ((s) = (s)) ∧ (((↑i : Int)) = ((↑i : Int))) ∧ (((order) = (order)) ∧ ((ts) = (ts)) ∧ True) ∧ True) := by kernel_rfl
  exact eTst.mpr ⟨decide_eq_true h1, ⟨rfl, ⟨rfl, ⟨rfl, ⟨rfl, ⟨rfl, ⟨rfl, ⟨⟨rfl, ⟨rfl, trivial⟩⟩, trivial⟩⟩⟩⟩⟩⟩⟩⟩
theorem un_stop (nets : List (Int × List Int)) (order ts : List Int) (b a s : Int) (i : Nat) (h1 : ¬(↑i : Int) < (↑(List.length nets) : Int)) :
    Tst.path (vrun Tryz.prog unCs (fl BUn uO) 2 (SUn nets order ts b a s i)) [false] (toSt Tryz.prog 56 (.exit 0) [(64, 64, none)] (SUn nets order ts b a s i)) := by
  have eTst : (Tst.path (vrun Tryz.prog unCs (fl BUn uO) 2 (SUn nets order ts b a s i)) [false] (toSt Tryz.prog 56 (.exit 0) [(64, 64, none)] (SUn nets order ts b a s i))) = (((decide ((↑i : Int) < (↑(List.length nets) : Int))) = false) ∧ ((nets) = (nets)) ∧ ((b) = (b)) ∧ ((a) = (a)) ∧ (((0 : Nat)) = ((0 : Nat))) ∧ ((s) = (s)) ∧ (((↑i : Int)) = ((↑i : Int))) ∧ (((order) = (order)) ∧ ((ts) = (ts)) ∧ True) ∧ True) := by kernel_rfl
  exact eTst.mpr ⟨decide_eq_false h1, ⟨rfl, ⟨rfl, ⟨rfl, ⟨rfl, ⟨rfl, ⟨rfl, ⟨⟨rfl, ⟨rfl, trivial⟩⟩, trivial⟩⟩⟩⟩⟩⟩⟩⟩
theorem un_skip (nets : List (Int × List Int)) (order ts : List Int) (b a s : Int) (i : Nat) (h1 : i < List.length ts) (h2 : ¬List.getD ts i (0 : Int) = a) :
    Tst.path (vrun Tryz.prog unCs (fl BUn uB) 2 (SUn nets order ts b a s i)) [true] (toSt Tryz.prog 56 (.exit 1) [(64, 64, none)] (SUn nets order ts b a s i)) := by
  have eTst : (Tst.path (vrun Tryz.prog unCs (fl BUn uB) 2 (SUn nets order ts b a s i)) [true] (toSt Tryz.prog 56 (.exit 1) [(64, 64, none)] (SUn nets order ts b a s i))) = (((decide ((0 : Int) ≤ (↑i : Int))) = true) ∧ ((decide (i < List.length ts)) = true) ∧ ((List.getD ts i (0 : Int) != a) = true) ∧ ((nets) = (nets)) ∧ ((b) = (b)) ∧ ((a) = (a)) ∧ (((0 : Nat)) = ((0 : Nat))) ∧ ((s) = (s)) ∧ (((↑i : Int)) = ((↑i : Int))) ∧ (((order) = (order)) ∧ ((ts) = (ts)) ∧ True) ∧ True) := by kernel_rfl
  exact eTst.mpr ⟨decide_eq_true (by omega), ⟨decide_eq_true h1, ⟨bne_iff_ne.mpr h2, ⟨rfl, ⟨rfl, ⟨rfl, ⟨rfl, ⟨rfl, ⟨rfl, ⟨⟨rfl, ⟨rfl, trivial⟩⟩, trivial⟩⟩⟩⟩⟩⟩⟩⟩⟩⟩
theorem un_in (nets : List (Int × List Int)) (order ts : List Int) (b a s : Int) (i : Nat) (h1 : i < List.length ts) (h2 : List.getD ts i (0 : Int) = a) :
    Tst.path (vrun Tryz.prog unCs (fl BUn uB) 3 (SUn nets order ts b a s i)) [false] (toSt Tryz.prog 56 .normal [(64, 64, none)] (SUk nets order ts b a s i 0)) := by
  have eTst : (Tst.path (vrun Tryz.prog unCs (fl BUn uB) 3 (SUn nets order ts b a s i)) [false] (toSt Tryz.prog 56 .normal [(64, 64, none)] (SUk nets order ts b a s i 0))) = (((decide ((0 : Int) ≤ (↑i : Int))) = true) ∧ ((decide (i < List.length ts)) = true) ∧ ((List.getD ts i (0 : Int) != a) = false) ∧ ((nets) = (nets)) ∧ ((b) = (b)) ∧ ((a) = (a)) ∧ (((0 : Nat)) = ((0 : Nat))) ∧ ((s) = (s)) ∧ (((↑i : Int)) = ((↑i : Int))) ∧ (((0 : Int)) = ((↑(0 : Nat) : Int))) ∧ (((order) = (order)) ∧ ((ts) = (ts)) ∧ True) ∧ True) := by kernel_rfl
  exact eTst.mpr ⟨decide_eq_true (by omega), ⟨decide_eq_true h1, ⟨bne_eq_false_iff_eq.mpr h2, ⟨rfl, ⟨rfl, ⟨rfl, ⟨rfl, ⟨rfl, ⟨rfl, ⟨rfl, ⟨⟨rfl, ⟨rfl, trivial⟩⟩, trivial⟩⟩⟩⟩⟩⟩⟩⟩⟩⟩⟩
theorem un_add (nets : List (Int × List Int)) (order ts : List Int) (b a s : Int) (i k : Nat) (h1 : i < List.length nets) (h2 : (↑k : Int) < (↑(List.length (Prod.snd (List.getD nets i ((0 : Int), [])))) : Int)) (h3 : k < List.length (Prod.snd (List.getD nets i ((0 : Int), [])))) (h4 : List.length order ≤ (1000000 : Nat)) (h5 : (okNets nets order && decide (List.length nets ≤ List.length ts)) = true) (h6 : -9223372036854775808 ≤ s + ovR nets order ts b (Bus.pos order (List.getD (Prod.snd (List.getD nets i ((0 : Int), []))) k (0 : Int))) (List.length nets) ∧ s + ovR nets order ts b (Bus.pos order (List.getD (Prod.snd (List.getD nets i ((0 : Int), []))) k (0 : Int))) (List.length nets) ≤ 9223372036854775807) (h7 : -9223372036854775808 ≤ (↑k : Int) + (1 : Int) ∧ (↑k : Int) + (1 : Int) ≤ 9223372036854775807) :
    Tst.path (vall Tryz.prog unCs (fl BUn uK) (SUk nets order ts b a s i k)) [true] (toSt Tryz.prog 56 .normal [(64, 64, none)] (SUk nets order ts b a (s + ovR nets order ts b (Bus.pos order ((nets.getD i (0, [])).2.getD k 0)) nets.length) i (k + 1))) := by
  have eTst : (Tst.path (vall Tryz.prog unCs (fl BUn uK) (SUk nets order ts b a s i k)) [true] (toSt Tryz.prog 56 .normal [(64, 64, none)] (SUk nets order ts b a (s + ovR nets order ts b (Bus.pos order ((nets.getD i (0, [])).2.getD k 0)) nets.length) i (k + 1)))) = (((decide ((0 : Int) ≤ (↑i : Int))) = true) ∧ ((decide (i < List.length nets)) = true) ∧ ((decide ((↑k : Int) < (↑(List.length (Prod.snd (List.getD nets i ((0 : Int), [])))) : Int))) = true) ∧ ((AV.same (AV.lst false (Ty.int IntKind.i64) order) (AV.lst false (Ty.int IntKind.i64) order)) = true) ∧ ((AV.same (AV.lst false (Ty.int IntKind.i64) ts) (AV.lst false (Ty.int IntKind.i64) ts)) = true) ∧ ((AV.same (AV.lst false (Ty.int IntKind.i64) order) (AV.lst false (Ty.int IntKind.i64) order)) = true) ∧ ((decide ((0 : Int) ≤ (↑i : Int))) = true) ∧ ((decide (i < List.length nets)) = true) ∧ ((AV.same (AV.lst false (Ty.int IntKind.i64) (Prod.snd (List.getD nets i ((0 : Int), [])))) (AV.lst false (Ty.int IntKind.i64) (Prod.snd (List.getD nets i ((0 : Int), []))))) = true) ∧ ((decide ((0 : Int) ≤ (↑k : Int))) = true) ∧ ((decide (k < List.length (Prod.snd (List.getD nets i ((0 : Int), []))))) = true) ∧ ((AV.same (AV.raw (Value.int IntKind.i64 (List.getD (Prod.snd (List.getD nets i ((0 : Int), []))) k (0 : Int)))) (AV.raw (Value.int IntKind.i64 (List.getD (Prod.snd (List.getD nets i ((0 : Int), []))) k (0 : Int))))) = true) ∧ ((decide (List.length order ≤ (1000000 : Nat))) = true) ∧ ((AV.same (AV.lst false (Ty.int IntKind.i64) (Prod.snd (List.getD nets i ((0 : Int), [])))) (AV.lst false (Ty.int IntKind.i64) (Prod.snd (List.getD nets i ((0 : Int), []))))) = true) ∧ ((AV.same (AV.lst false (Ty.int IntKind.i64) ts) (AV.lst false (Ty.int IntKind.i64) ts)) = true) ∧ ((AV.same (AV.lst false (Ty.int IntKind.i64) order) (AV.lst false (Ty.int IntKind.i64) order)) = true) ∧ ((okNets nets order && decide (List.length nets ≤ List.length ts)) = true) ∧ ((AV.same (AV.lst false (Ty.int IntKind.i64) (Prod.snd (List.getD nets i ((0 : Int), [])))) (AV.lst false (Ty.int IntKind.i64) (Prod.snd (List.getD nets i ((0 : Int), []))))) = true) ∧ ((fits IntKind.i64 (s + ovR nets order ts b (Bus.pos order (List.getD (Prod.snd (List.getD nets i ((0 : Int), []))) k (0 : Int))) (List.length nets))) = true) ∧ ((fits IntKind.i64 ((↑k : Int) + (1 : Int))) = true) ∧ ((nets) = (nets)) ∧ ((b) = (b)) ∧ ((a) = (a)) ∧ (((0 : Nat)) = ((0 : Nat))) ∧ ((s + ovR nets order ts b (Bus.pos order (List.getD (Prod.snd (List.getD nets i ((0 : Int), []))) k (0 : Int))) (List.length nets)) = (s + ovR nets order ts b (Bus.pos order (List.getD (Prod.snd (List.getD nets i ((0 : Int), []))) k (0 : Int))) (List.length nets))) ∧ (((↑i : Int)) = ((↑i : Int))) ∧ (((↑k : Int) + (1 : Int)) = ((↑(k + (1 : Nat)) : Int))) ∧ (((order) = (order)) ∧ ((ts) = (ts)) ∧ True) ∧ True) := by kernel_rfl
  exact eTst.mpr ⟨decide_eq_true (by omega), ⟨decide_eq_true h1, ⟨decide_eq_true h2, ⟨same_refl (by kernel_rfl), ⟨same_refl (by kernel_rfl), ⟨same_refl (by kernel_rfl), ⟨decide_eq_true (by omega), ⟨decide_eq_true h1, ⟨same_refl (by kernel_rfl), ⟨decide_eq_true (by omega), ⟨decide_eq_true h3, ⟨same_refl (by kernel_rfl), ⟨decide_eq_true h4, ⟨same_refl (by kernel_rfl), ⟨same_refl (by kernel_rfl), ⟨same_refl (by kernel_rfl), ⟨h5, ⟨same_refl (by kernel_rfl), ⟨fits_i64 h6, ⟨fits_i64 h7, ⟨rfl, ⟨rfl, ⟨rfl, ⟨rfl, ⟨rfl, ⟨rfl, ⟨(by omega), ⟨⟨rfl, ⟨rfl, trivial⟩⟩, trivial⟩⟩⟩⟩⟩⟩⟩⟩⟩⟩⟩⟩⟩⟩⟩⟩⟩⟩⟩⟩⟩⟩⟩⟩⟩⟩⟩⟩
theorem un_end (nets : List (Int × List Int)) (order ts : List Int) (b a s : Int) (i k : Nat) (h1 : i < List.length nets) (h2 : ¬(↑k : Int) < (↑(List.length (Prod.snd (List.getD nets i ((0 : Int), [])))) : Int)) :
    Tst.path (vall Tryz.prog unCs (fl BUn uK) (SUk nets order ts b a s i k)) [false] (toSt Tryz.prog 56 (.exit 2) [(64, 64, none)] (SUn nets order ts b a s i)) := by
  have eTst : (Tst.path (vall Tryz.prog unCs (fl BUn uK) (SUk nets order ts b a s i k)) [false] (toSt Tryz.prog 56 (.exit 2) [(64, 64, none)] (SUn nets order ts b a s i))) = (((decide ((0 : Int) ≤ (↑i : Int))) = true) ∧ ((decide (i < List.length nets)) = true) ∧ ((decide ((↑k : Int) < (↑(List.length (Prod.snd (List.getD nets i ((0 : Int), [])))) : Int))) = false) ∧ ((nets) = (nets)) ∧ ((b) = (b)) ∧ ((a) = (a)) ∧ (((0 : Nat)) = ((0 : Nat))) ∧ ((s) = (s)) ∧ (((↑i : Int)) = ((↑i : Int))) ∧ (((order) = (order)) ∧ ((ts) = (ts)) ∧ True) ∧ True) := by kernel_rfl
  exact eTst.mpr ⟨decide_eq_true (by omega), ⟨decide_eq_true h1, ⟨decide_eq_false h2, ⟨rfl, ⟨rfl, ⟨rfl, ⟨rfl, ⟨rfl, ⟨rfl, ⟨⟨rfl, ⟨rfl, trivial⟩⟩, trivial⟩⟩⟩⟩⟩⟩⟩⟩⟩⟩
theorem un_next (nets : List (Int × List Int)) (order ts : List Int) (b a s : Int) (i : Nat) (h1 : -9223372036854775808 ≤ (↑i : Int) + (1 : Int) ∧ (↑i : Int) + (1 : Int) ≤ 9223372036854775807) :
    Tst.path (vall Tryz.prog unCs (List.drop 3 (fl BUn uO)) (SUn nets order ts b a s i)) [] (toSt Tryz.prog 56 .normal [(64, 64, none)] (SUn nets order ts b a s (i + 1))) := by
  have eTst : (Tst.path (vall Tryz.prog unCs (List.drop 3 (fl BUn uO)) (SUn nets order ts b a s i)) [] (toSt Tryz.prog 56 .normal [(64, 64, none)] (SUn nets order ts b a s (i + 1)))) = (((fits IntKind.i64 ((↑i : Int) + (1 : Int))) = true) ∧ ((nets) = (nets)) ∧ ((b) = (b)) ∧ ((a) = (a)) ∧ (((0 : Nat)) = ((0 : Nat))) ∧ ((s) = (s)) ∧ (((↑i : Int) + (1 : Int)) = ((↑(i + (1 : Nat)) : Int))) ∧ (((order) = (order)) ∧ ((ts) = (ts)) ∧ True) ∧ True) := by kernel_rfl
  exact eTst.mpr ⟨fits_i64 h1, ⟨rfl, ⟨rfl, ⟨rfl, ⟨rfl, ⟨rfl, ⟨(by omega), ⟨⟨rfl, ⟨rfl, trivial⟩⟩, trivial⟩⟩⟩⟩⟩⟩⟩⟩
theorem un_ret (nets : List (Int × List Int)) (order ts : List Int) (b a s : Int) (i : Nat)  :
    Tst.path (vall Tryz.prog unCs (List.drop 4 (fl BUn [])) (SUn nets order ts b a s i)) [] (toRet Tryz.prog Tryz.f57 true (iv s)) := by
  have eTst : (Tst.path (vall Tryz.prog unCs (List.drop 4 (fl BUn [])) (SUn nets order ts b a s i)) [] (toRet Tryz.prog Tryz.f57 true (iv s))) = ((s) = (s)) := by kernel_rfl
  exact eTst.mpr rfl
def BUs : Code := (Tryz.f56.body).getD .skip
def SUs (order ts out : List Int) (t : Nat) : St := { n := 18, sl := [(1, .ptr 64 0), (3, ob 65 out), (4, iv t)], en := [layE 64 order ts, (65, oe out)], next := 66 }
theorem us_start (order ts : List Int)  :
    Tst.path (vrun0 Tryz.prog (ctrs [cIn]) (fl BUs []) 3 18 [yv order ts]) [] (toSt Tryz.prog 18 .normal [(64, 64, none)] (SUs order ts nilI 0)) := by
  have eTst : (Tst.path (vrun0 Tryz.prog (ctrs [cIn]) (fl BUs []) 3 18 [yv order ts]) [] (toSt Tryz.prog 18 .normal [(64, 64, none)] (SUs order ts nilI 0))) = ((((0 : Nat)) = ((0 : Nat))) ∧ ((List.length nilI) = ((0 : Nat))) ∧ (((0 : Int)) = ((↑(0 : Nat) : Int))) ∧ (((order) = (order)) ∧ ((ts) = (ts)) ∧ True) ∧ ((nilI) = ([])) ∧ True) := by kernel_rfl
  exact eTst.mpr ⟨rfl, ⟨rfl, ⟨rfl, ⟨⟨rfl, ⟨rfl, trivial⟩⟩, ⟨rfl, trivial⟩⟩⟩⟩⟩
theorem us_add (order ts out : List Int) (t : Nat) (h1 : (↑t : Int) < (64 : Int)) (h2 : List.length ts ≤ (1000000 : Nat)) (h3 : (↑t : Int) ∈ ts) (h4 : List.length out + (1 : Nat) ≤ 1000000) (h5 : -9223372036854775808 ≤ (↑t : Int) + (1 : Int) ∧ (↑t : Int) + (1 : Int) ≤ 9223372036854775807) (h6 : (List.length out + (1 : Nat)) = (List.length (out ++ [(↑t : Int)]))) (h7 : (Cap.full) = (capOf (List.length (out ++ [(↑t : Int)])))) :
    Tst.path (vall Tryz.prog (ctrs [cIn]) (fl BUs [1,1,0,1,0,0]) (SUs order ts out t)) [true, true, false] (toSt Tryz.prog 18 .normal [(64, 64, none), (65, 67, none)] (SUs order ts (out ++ [(t : Int)]) (t + 1))) := by
  have eTst : (Tst.path (vall Tryz.prog (ctrs [cIn]) (fl BUs [1,1,0,1,0,0]) (SUs order ts out t)) [true, true, false] (toSt Tryz.prog 18 .normal [(64, 64, none), (65, 67, none)] (SUs order ts (out ++ [(t : Int)]) (t + 1)))) = (((decide ((↑t : Int) < (64 : Int))) = true) ∧ ((decide (List.length ts ≤ (1000000 : Nat))) = true) ∧ ((decide ((↑t : Int) ∈ ts)) = true) ∧ ((Nat.beq (0 : Nat) (0 : Nat)) = true) ∧ ((Nat.beq (1 : Nat) (0 : Nat)) = false) ∧ ((blkIs (3 : TypeId) (Ty.int IntKind.i64) (optOwn (nat_lit 3) (Ty.int IntKind.i64) out) (List.length out) (capOf (List.length out))) = true) ∧ ((bounded (List.length out + (1 : Nat)) (8 : Nat)) = true) ∧ ((fits IntKind.i64 ((↑t : Int) + (1 : Int))) = true) ∧ (((0 : Nat)) = ((0 : Nat))) ∧ ((((0 : Nat)) = ((0 : Nat))) ∧ ((List.length out + (1 : Nat)) = (List.length (out ++ [(↑t : Int)]))) ∧ (Cap.full) = (capOf (List.length (out ++ [(↑t : Int)])))) ∧ (((↑t : Int) + (1 : Int)) = ((↑(t + (1 : Nat)) : Int))) ∧ (((order) = (order)) ∧ ((ts) = (ts)) ∧ True) ∧ ((blkXs (Ty.int IntKind.i64) (optOwn (nat_lit 3) (Ty.int IntKind.i64) out) ++ [(↑t : Int)]) = (out ++ [(↑t : Int)])) ∧ True) := by kernel_rfl
  exact eTst.mpr ⟨decide_eq_true h1, ⟨decide_eq_true h2, ⟨decide_eq_true h3, ⟨rfl, ⟨rfl, ⟨(blkIs_optOwn _ _ _), ⟨bounded_of h4 (by omega), ⟨fits_i64 h5, ⟨rfl, ⟨⟨rfl, ⟨h6, h7⟩⟩, ⟨(by omega), ⟨⟨rfl, ⟨rfl, trivial⟩⟩, ⟨(by simp only [blkXs_optOwn] <;> rfl), trivial⟩⟩⟩⟩⟩⟩⟩⟩⟩⟩⟩⟩⟩
theorem us_no (order ts out : List Int) (t : Nat) (h1 : (↑t : Int) < (64 : Int)) (h2 : List.length ts ≤ (1000000 : Nat)) (h3 : ¬(↑t : Int) ∈ ts) (h4 : -9223372036854775808 ≤ (↑t : Int) + (1 : Int) ∧ (↑t : Int) + (1 : Int) ≤ 9223372036854775807) :
    Tst.path (vall Tryz.prog (ctrs [cIn]) (fl BUs [1,1,0,1,0,0]) (SUs order ts out t)) [true, false] (toSt Tryz.prog 18 .normal [(64, 64, none), (65, 65, none)] (SUs order ts out (t + 1))) := by
  have eTst : (Tst.path (vall Tryz.prog (ctrs [cIn]) (fl BUs [1,1,0,1,0,0]) (SUs order ts out t)) [true, false] (toSt Tryz.prog 18 .normal [(64, 64, none), (65, 65, none)] (SUs order ts out (t + 1)))) = (((decide ((↑t : Int) < (64 : Int))) = true) ∧ ((decide (List.length ts ≤ (1000000 : Nat))) = true) ∧ ((decide ((↑t : Int) ∈ ts)) = false) ∧ ((fits IntKind.i64 ((↑t : Int) + (1 : Int))) = true) ∧ (((0 : Nat)) = ((0 : Nat))) ∧ ((((0 : Nat)) = ((0 : Nat))) ∧ ((List.length out) = (List.length out)) ∧ (capOf (List.length out)) = (capOf (List.length out))) ∧ (((↑t : Int) + (1 : Int)) = ((↑(t + (1 : Nat)) : Int))) ∧ (((order) = (order)) ∧ ((ts) = (ts)) ∧ True) ∧ ((fitOpt Tryz.prog none (optOwn (nat_lit 3) (Ty.int IntKind.i64) out) (nat_lit 3) (Ty.int IntKind.i64) out)) ∧ True) := by kernel_rfl
  exact eTst.mpr ⟨decide_eq_true h1, ⟨decide_eq_true h2, ⟨decide_eq_false h3, ⟨fits_i64 h4, ⟨rfl, ⟨⟨rfl, ⟨rfl, rfl⟩⟩, ⟨(by omega), ⟨⟨rfl, ⟨rfl, trivial⟩⟩, ⟨(fitOpt_refl _ _ _ _), trivial⟩⟩⟩⟩⟩⟩⟩⟩⟩
theorem us_end (order ts out : List Int) (t : Nat) (h1 : ¬(↑t : Int) < (64 : Int)) :
    Tst.path (vall Tryz.prog (ctrs [cIn]) (fl BUs [1,1,0,1,0,0]) (SUs order ts out t)) [false] (toSt Tryz.prog 18 (.exit 0) [(64, 64, none), (65, 65, none)] (SUs order ts out t)) := by
  have eTst : (Tst.path (vall Tryz.prog (ctrs [cIn]) (fl BUs [1,1,0,1,0,0]) (SUs order ts out t)) [false] (toSt Tryz.prog 18 (.exit 0) [(64, 64, none), (65, 65, none)] (SUs order ts out t))) = (((decide ((↑t : Int) < (64 : Int))) = false) ∧ (((0 : Nat)) = ((0 : Nat))) ∧ ((((0 : Nat)) = ((0 : Nat))) ∧ ((List.length out) = (List.length out)) ∧ (capOf (List.length out)) = (capOf (List.length out))) ∧ (((↑t : Int)) = ((↑t : Int))) ∧ (((order) = (order)) ∧ ((ts) = (ts)) ∧ True) ∧ ((fitOpt Tryz.prog none (optOwn (nat_lit 3) (Ty.int IntKind.i64) out) (nat_lit 3) (Ty.int IntKind.i64) out)) ∧ True) := by kernel_rfl
  exact eTst.mpr ⟨decide_eq_false h1, ⟨rfl, ⟨⟨rfl, ⟨rfl, rfl⟩⟩, ⟨rfl, ⟨⟨rfl, ⟨rfl, trivial⟩⟩, ⟨(fitOpt_refl _ _ _ _), trivial⟩⟩⟩⟩⟩⟩
theorem us_ret (order ts out : List Int) (t : Nat) (h1 : (out) = (List.take (List.length out) (List.drop (0 : Nat) out))) (h2 : List.length out = (0 : Nat) ∨ ownHas (3 : TypeId) (Ty.int IntKind.i64) (optOwn (nat_lit 3) (Ty.int IntKind.i64) out) ((0 : Nat) + List.length out - (1 : Nat)) = true) (h3 : false = true → List.length out ≠ (0 : Nat)) :
    Tst.path (vall Tryz.prog (ctrs [cIn]) (List.drop 4 (fl BUs [])) (SUs order ts out t)) [] (toRet Tryz.prog Tryz.f56 true (lv out)) := by
  have eTst : (Tst.path (vall Tryz.prog (ctrs [cIn]) (List.drop 4 (fl BUs [])) (SUs order ts out t)) [] (toRet Tryz.prog Tryz.f56 true (lv out))) = (((List.length out) = (List.length out)) ∧ ((out) = (List.take (List.length out) (List.drop (0 : Nat) (blkXs (Ty.int IntKind.i64) (optOwn (nat_lit 3) (Ty.int IntKind.i64) out))))) ∧ ((List.length out = (0 : Nat) ∨ ownHas (3 : TypeId) (Ty.int IntKind.i64) (optOwn (nat_lit 3) (Ty.int IntKind.i64) out) ((0 : Nat) + List.length out - (1 : Nat)) = true)) ∧ (false = true → List.length out ≠ (0 : Nat))) := by kernel_rfl
  exact eTst.mpr ⟨rfl, ⟨(by simp only [blkXs_optOwn] <;> exact h1), ⟨h2, h3⟩⟩⟩
noncomputable def cUnder : Ctr := { f := 57, ps := [.list false (.pair (.int .i64) (.list false (.int .i64))), .pair (.list false (.int .i64)) (.list false (.int .i64)), .int .i64, .int .i64], rs := [.int .i64], fresh := true, pre := fun d => okCr d.1 d.2.1.1 d.2.1.2, fn := fun d => (undR d.1 d.2.1.1 d.2.1.2 d.2.2.1 d.2.2.2.1 (List.length (α := Int × List Int) d.1), ()) }
noncomputable def cUsed : Ctr := { f := 56, ps := [.pair (.list false (.int .i64)) (.list false (.int .i64))], rs := [.list false (.int .i64)], fresh := true, pre := fun d => decide (List.length (α := Int) d.1.2 ≤ 1000000), fn := fun d => (usedR d.1.2 64, ()) }
def crCs : VCaller := ctrs [cUsed, cUnder]
abbrev cO : List Nat := [1,1,1,0,1,0,0]
abbrev cB : List Nat := [1,1,1,0,1,0,0,1,0,0]
abbrev cK : List Nat := [1,1,1,0,1,0,0,1,0,0,1,0,0]
def BCr : Code := (Tryz.f20.body).getD .skip
def Scr (nets : List (Int × List Int)) (order ts u : List Int) (s : Int) (i : Nat) : St := { n := 36, sl := [(0, nv nets), (3, .ptr 64 0), (5, iv s), (6, lv u), (7, iv i)], en := [layE 64 order ts], next := 65 }
def Scrk (nets : List (Int × List Int)) (order ts u : List Int) (s : Int) (i k : Nat) : St := { n := 36, sl := [(0, nv nets), (3, .ptr 64 0), (5, iv s), (6, lv u), (7, iv i), (8, iv k)], en := [layE 64 order ts], next := 65 }
theorem cr_start (nets : List (Int × List Int)) (order ts : List Int) (h1 : List.length ts ≤ (1000000 : Nat)) :
    Tst.path (vrun0 Tryz.prog crCs (fl BCr []) 4 36 [nv nets, yv order ts]) [] (toSt Tryz.prog 36 .normal [(64, 64, none)] (Scr nets order ts (usedR ts 64) 0 0)) := by
  have eTst : (Tst.path (vrun0 Tryz.prog crCs (fl BCr []) 4 36 [nv nets, yv order ts]) [] (toSt Tryz.prog 36 .normal [(64, 64, none)] (Scr nets order ts (usedR ts 64) 0 0))) = (((decide (List.length ts ≤ (1000000 : Nat))) = true) ∧ ((nets) = (nets)) ∧ (((0 : Nat)) = ((0 : Nat))) ∧ (((0 : Int)) = ((0 : Int))) ∧ ((usedR ts (64 : Nat)) = (usedR ts (64 : Nat))) ∧ (((0 : Int)) = ((↑(0 : Nat) : Int))) ∧ (((order) = (order)) ∧ ((ts) = (ts)) ∧ True) ∧ True) := by kernel_rfl
  exact eTst.mpr ⟨decide_eq_true h1, ⟨rfl, ⟨rfl, ⟨rfl, ⟨rfl, ⟨rfl, ⟨⟨rfl, ⟨rfl, trivial⟩⟩, trivial⟩⟩⟩⟩⟩⟩⟩
theorem cr_row (nets : List (Int × List Int)) (order ts u : List Int) (s : Int) (i : Nat) (h1 : (↑i : Int) < (↑(List.length u) : Int)) :
    Tst.path (vrun Tryz.prog crCs (fl BCr cO) 2 (Scr nets order ts u s i)) [true] (toSt Tryz.prog 36 .normal [(64, 64, none)] (Scr nets order ts u s i)) := by
  have eTst : (Tst.path (vrun Tryz.prog crCs (fl BCr cO) 2 (Scr nets order ts u s i)) [true] (toSt Tryz.prog 36 .normal [(64, 64, none)] (Scr nets order ts u s i))) = (((decide ((↑i : Int) < (↑(List.length u) : Int))) = true) ∧ ((nets) = (nets)) ∧ (((0 : Nat)) = ((0 : Nat))) ∧ ((s) = (s)) ∧ ((u) = (u)) ∧ (((↑i : Int)) = ((↑i : Int))) ∧ (((order) = (order)) ∧ ((ts) = (ts)) ∧ True) ∧ True) := by kernel_rfl
  exact eTst.mpr ⟨decide_eq_true h1, ⟨rfl, ⟨rfl, ⟨rfl, ⟨rfl, ⟨rfl, ⟨⟨rfl, ⟨rfl, trivial⟩⟩, trivial⟩⟩⟩⟩⟩⟩⟩
theorem cr_stop (nets : List (Int × List Int)) (order ts u : List Int) (s : Int) (i : Nat) (h1 : ¬(↑i : Int) < (↑(List.length u) : Int)) :
    Tst.path (vrun Tryz.prog crCs (fl BCr cO) 2 (Scr nets order ts u s i)) [false] (toSt Tryz.prog 36 (.exit 0) [(64, 64, none)] (Scr nets order ts u s i)) := by
  have eTst : (Tst.path (vrun Tryz.prog crCs (fl BCr cO) 2 (Scr nets order ts u s i)) [false] (toSt Tryz.prog 36 (.exit 0) [(64, 64, none)] (Scr nets order ts u s i))) = (((decide ((↑i : Int) < (↑(List.length u) : Int))) = false) ∧ ((nets) = (nets)) ∧ (((0 : Nat)) = ((0 : Nat))) ∧ ((s) = (s)) ∧ ((u) = (u)) ∧ (((↑i : Int)) = ((↑i : Int))) ∧ (((order) = (order)) ∧ ((ts) = (ts)) ∧ True) ∧ True) := by kernel_rfl
  exact eTst.mpr ⟨decide_eq_false h1, ⟨rfl, ⟨rfl, ⟨rfl, ⟨rfl, ⟨rfl, ⟨⟨rfl, ⟨rfl, trivial⟩⟩, trivial⟩⟩⟩⟩⟩⟩⟩
theorem cr_in (nets : List (Int × List Int)) (order ts u : List Int) (s : Int) (i : Nat)  :
    Tst.path (vrun Tryz.prog crCs (fl BCr cB) 1 (Scr nets order ts u s i)) [] (toSt Tryz.prog 36 .normal [(64, 64, none)] (Scrk nets order ts u s i 0)) := by
  have eTst : (Tst.path (vrun Tryz.prog crCs (fl BCr cB) 1 (Scr nets order ts u s i)) [] (toSt Tryz.prog 36 .normal [(64, 64, none)] (Scrk nets order ts u s i 0))) = (((nets) = (nets)) ∧ (((0 : Nat)) = ((0 : Nat))) ∧ ((s) = (s)) ∧ ((u) = (u)) ∧ (((↑i : Int)) = ((↑i : Int))) ∧ (((0 : Int)) = ((↑(0 : Nat) : Int))) ∧ (((order) = (order)) ∧ ((ts) = (ts)) ∧ True) ∧ True) := by kernel_rfl
  exact eTst.mpr ⟨rfl, ⟨rfl, ⟨rfl, ⟨rfl, ⟨rfl, ⟨rfl, ⟨⟨rfl, ⟨rfl, trivial⟩⟩, trivial⟩⟩⟩⟩⟩⟩⟩
theorem cr_add (nets : List (Int × List Int)) (order ts u : List Int) (s : Int) (i k : Nat) (h1 : (↑k : Int) < (↑i : Int)) (h2 : k < List.length u) (h3 : i < List.length u) (h4 : (okCr nets order ts) = true) (h5 : -9223372036854775808 ≤ s + undR nets order ts (List.getD u k (0 : Int)) (List.getD u i (0 : Int)) (List.length nets) ∧ s + undR nets order ts (List.getD u k (0 : Int)) (List.getD u i (0 : Int)) (List.length nets) ≤ 9223372036854775807) (h6 : -9223372036854775808 ≤ (↑k : Int) + (1 : Int) ∧ (↑k : Int) + (1 : Int) ≤ 9223372036854775807) :
    Tst.path (vall Tryz.prog crCs (fl BCr cK) (Scrk nets order ts u s i k)) [true] (toSt Tryz.prog 36 .normal [(64, 64, none)] (Scrk nets order ts u (s + undR nets order ts (u.getD k 0) (u.getD i 0) nets.length) i (k + 1))) := by
  have eTst : (Tst.path (vall Tryz.prog crCs (fl BCr cK) (Scrk nets order ts u s i k)) [true] (toSt Tryz.prog 36 .normal [(64, 64, none)] (Scrk nets order ts u (s + undR nets order ts (u.getD k 0) (u.getD i 0) nets.length) i (k + 1)))) = (((decide ((↑k : Int) < (↑i : Int))) = true) ∧ ((AV.same (AV.agg (List.take (2 : Nat) (List.drop (0 : Nat) [AV.lst false (Ty.int IntKind.i64) order, AV.lst false (Ty.int IntKind.i64) ts]))) (AV.agg (List.take (2 : Nat) (List.drop (0 : Nat) [AV.lst false (Ty.int IntKind.i64) order, AV.lst false (Ty.int IntKind.i64) ts])))) = true) ∧ ((decide ((0 : Int) ≤ (↑k : Int))) = true) ∧ ((decide (k < List.length u)) = true) ∧ ((AV.same (AV.raw (Value.int IntKind.i64 (List.getD u k (0 : Int)))) (AV.raw (Value.int IntKind.i64 (List.getD u k (0 : Int))))) = true) ∧ ((decide ((0 : Int) ≤ (↑i : Int))) = true) ∧ ((decide (i < List.length u)) = true) ∧ ((AV.same (AV.raw (Value.int IntKind.i64 (List.getD u i (0 : Int)))) (AV.raw (Value.int IntKind.i64 (List.getD u i (0 : Int))))) = true) ∧ ((okCr nets order ts) = true) ∧ ((fits IntKind.i64 (s + undR nets order ts (List.getD u k (0 : Int)) (List.getD u i (0 : Int)) (List.length nets))) = true) ∧ ((fits IntKind.i64 ((↑k : Int) + (1 : Int))) = true) ∧ ((nets) = (nets)) ∧ (((0 : Nat)) = ((0 : Nat))) ∧ ((s + undR nets order ts (List.getD u k (0 : Int)) (List.getD u i (0 : Int)) (List.length nets)) = (s + undR nets order ts (List.getD u k (0 : Int)) (List.getD u i (0 : Int)) (List.length nets))) ∧ ((u) = (u)) ∧ (((↑i : Int)) = ((↑i : Int))) ∧ (((↑k : Int) + (1 : Int)) = ((↑(k + (1 : Nat)) : Int))) ∧ (((order) = (order)) ∧ ((ts) = (ts)) ∧ True) ∧ True) := by kernel_rfl
  exact eTst.mpr ⟨decide_eq_true h1, ⟨same_refl (by kernel_rfl), ⟨decide_eq_true (by omega), ⟨decide_eq_true h2, ⟨same_refl (by kernel_rfl), ⟨decide_eq_true (by omega), ⟨decide_eq_true h3, ⟨same_refl (by kernel_rfl), ⟨h4, ⟨fits_i64 h5, ⟨fits_i64 h6, ⟨rfl, ⟨rfl, ⟨rfl, ⟨rfl, ⟨rfl, ⟨(by omega), ⟨⟨rfl, ⟨rfl, trivial⟩⟩, trivial⟩⟩⟩⟩⟩⟩⟩⟩⟩⟩⟩⟩⟩⟩⟩⟩⟩⟩
theorem cr_end (nets : List (Int × List Int)) (order ts u : List Int) (s : Int) (i k : Nat) (h1 : ¬(↑k : Int) < (↑i : Int)) :
    Tst.path (vall Tryz.prog crCs (fl BCr cK) (Scrk nets order ts u s i k)) [false] (toSt Tryz.prog 36 (.exit 2) [(64, 64, none)] (Scr nets order ts u s i)) := by
  have eTst : (Tst.path (vall Tryz.prog crCs (fl BCr cK) (Scrk nets order ts u s i k)) [false] (toSt Tryz.prog 36 (.exit 2) [(64, 64, none)] (Scr nets order ts u s i))) = (((decide ((↑k : Int) < (↑i : Int))) = false) ∧ ((nets) = (nets)) ∧ (((0 : Nat)) = ((0 : Nat))) ∧ ((s) = (s)) ∧ ((u) = (u)) ∧ (((↑i : Int)) = ((↑i : Int))) ∧ (((order) = (order)) ∧ ((ts) = (ts)) ∧ True) ∧ True) := by kernel_rfl
  exact eTst.mpr ⟨decide_eq_false h1, ⟨rfl, ⟨rfl, ⟨rfl, ⟨rfl, ⟨rfl, ⟨⟨rfl, ⟨rfl, trivial⟩⟩, trivial⟩⟩⟩⟩⟩⟩⟩
theorem cr_next (nets : List (Int × List Int)) (order ts u : List Int) (s : Int) (i : Nat) (h1 : -9223372036854775808 ≤ (↑i : Int) + (1 : Int) ∧ (↑i : Int) + (1 : Int) ≤ 9223372036854775807) :
    Tst.path (vall Tryz.prog crCs (List.drop 3 (fl BCr cO)) (Scr nets order ts u s i)) [] (toSt Tryz.prog 36 .normal [(64, 64, none)] (Scr nets order ts u s (i + 1))) := by
  have eTst : (Tst.path (vall Tryz.prog crCs (List.drop 3 (fl BCr cO)) (Scr nets order ts u s i)) [] (toSt Tryz.prog 36 .normal [(64, 64, none)] (Scr nets order ts u s (i + 1)))) = (((fits IntKind.i64 ((↑i : Int) + (1 : Int))) = true) ∧ ((nets) = (nets)) ∧ (((0 : Nat)) = ((0 : Nat))) ∧ ((s) = (s)) ∧ ((u) = (u)) ∧ (((↑i : Int) + (1 : Int)) = ((↑(i + (1 : Nat)) : Int))) ∧ (((order) = (order)) ∧ ((ts) = (ts)) ∧ True) ∧ True) := by kernel_rfl
  exact eTst.mpr ⟨fits_i64 h1, ⟨rfl, ⟨rfl, ⟨rfl, ⟨rfl, ⟨(by omega), ⟨⟨rfl, ⟨rfl, trivial⟩⟩, trivial⟩⟩⟩⟩⟩⟩⟩
theorem cr_ret (nets : List (Int × List Int)) (order ts u : List Int) (s : Int) (i : Nat)  :
    Tst.path (vall Tryz.prog crCs (List.drop 5 (fl BCr [])) (Scr nets order ts u s i)) [] (toRet Tryz.prog Tryz.f20 true (iv s)) := by
  have eTst : (Tst.path (vall Tryz.prog crCs (List.drop 5 (fl BCr [])) (Scr nets order ts u s i)) [] (toRet Tryz.prog Tryz.f20 true (iv s))) = ((s) = (s)) := by kernel_rfl
  exact eTst.mpr rfl
abbrev nilLay (j : Nat) : Nat × Ent := (j, .blk (.cells 29 [.raw (.slice none 0 0), .raw (.slice none 0 0)] true false false))
end
end Go.Proofs.YtbldpojkpmafpaaGreatDoor

/- The best order of the columns, in plain Lean. -/
namespace Go.Proofs.YtbldpojkpmafpaaGreatDoor
open Go.RowKit Sv
set_option linter.unusedVariables false
section
variable {nets : List (Int × List Int)} {n : Int} {o : List Int}
theorem isum_nn (f : Nat → Int) (hf : ∀ x, 0 ≤ f x) : ∀ l : List Nat, 0 ≤ isum (l.map f)
  | [] => Int.le_refl _
  | x :: r => by
    have h1 := hf x
    have h2 := isum_nn f hf r
    show 0 ≤ f x + isum (r.map f)
    omega
theorem run_cmp (f : Nat → Int) (hf : ∀ x, 0 ≤ f x) (most : Int) : ∀ (l : List Nat) (s0 : Int), s0 ≤ most →
    (s0 + isum (l.map f) ≤ most ∧ crossRun f most s0 l = (s0 + isum (l.map f), false)) ∨ (most < s0 + isum (l.map f) ∧ most < (crossRun f most s0 l).1)
  | [], s0, h => .inl ⟨by simp [isum]; exact h, by simp [crossRun, isum]⟩
  | x :: r, s0, h => by
    have hx := hf x
    have hr := isum_nn f hf r
    have e : s0 + isum ((x :: r).map f) = (s0 + f x) + isum (r.map f) := by show s0 + (f x + isum (r.map f)) = _; omega
    rw [e]
    unfold crossRun
    by_cases hm : most < s0 + f x
    · rw [if_pos hm]
      exact .inr ⟨by omega, hm⟩
    · rw [if_neg hm]
      exact run_cmp f hf most r (s0 + f x) (by omega)
theorem tap_congr (F F' : Nat → Int) (h : ∀ k, k < 97 → F k = F' k) : ∀ (ls : List (List Int)) (i : Nat), (∀ c ∈ ls, ∀ x ∈ c, 0 ≤ x ∧ x < 97) → tapFrom F i ls = tapFrom F' i ls
  | [], _, _ => rfl
  | c :: r, i, hc => by
    unfold tapFrom
    rw [tap_congr F F' h r (i + 1) fun d hd => hc d (List.mem_cons_of_mem _ hd)]
    congr 1
    refine List.map_congr_left fun x hx => ?_
    have := hc c List.mem_cons_self x hx
    rw [h x.toNat (by omega)]
abbrev manyI : Int := 1099511627776
abbrev trkO (nets : List (Int × List Int)) (o : List Int) : List Int := toI (tracksOf (extsOf nets o)).2
abbrev numO (nets : List (Int × List Int)) (o : List Int) : Int := (((tracksOf (extsOf nets o)).1.length : Nat) : Int)
abbrev crsO (nets : List (Int × List Int)) (o : List Int) : Int := crossOf nets o (trkO nets o) manyI
def valOf (nets : List (Int × List Int)) (o : List Int) : List Int := [crsO nets o, numO nets o, sumExt (extsOf nets o)]
theorem nets97 (hE : Bus.bothErr nets n o = 0) : ∀ x ∈ nets, ∀ c ∈ x.2, 0 ≤ c ∧ c < 97 := fun x hx c hc => by
  obtain ⟨n1, n97, l64, hcols⟩ := Bus.netsErr_zero (both_iff.1 hE).1
  have := (hcols x hx).2 c hc
  omega
theorem row_taps (hE : Bus.bothErr nets n o = 0) : tapFrom (getI 97 (rowD nets o).2.1) 0 ((rowD nets o).1.map Prod.snd) = tapFrom (Bus.atUp o o.length) 0 (nets.map Prod.snd) := by
  refine tap_congr _ _ (fun k hk => ?_) _ _ fun c hc => ?_
  · show getI 97 (mkI (Bus.atUp o o.length) 97 0) k = _
    rw [getI_mkI _ _ _ _ hk, Nat.zero_add]
  · obtain ⟨x, hx, rfl⟩ := List.mem_map.1 hc
    exact nets97 hE x hx
theorem crossD_of (hE : Bus.bothErr nets n o = 0) (ts : List Int) (most : Int) : crossD (rowD nets o) ts most = crossOf nets o ts most := by
  unfold crossD crossOf
  rw [row_taps hE]
  rfl
theorem tapF_bd (hE : Bus.bothErr nets n o = 0) (ts : List Int) (taps : List (Nat × Int)) (x : Nat) : 0 ≤ tapF (extsOf nets o) ts taps x ∧ tapF (extsOf nets o) ts taps x ≤ (64 : Nat) := by
  obtain ⟨n1, n97, l64, hcols⟩ := Bus.netsErr_zero (both_iff.1 hE).1
  unfold tapF
  have := crossUp_lo (extsOf nets o) ts (taps.getD x (0, 0)).1 (taps.getD x (0, 0)).2 (extsOf nets o).length
  have := extsOf_len nets o
  omega
theorem cross_full (hE : Bus.bothErr nets n o = 0) (ts : List Int) : crossOf nets o ts manyI = 0 + isum ((List.range (tapFrom (Bus.atUp o o.length) 0 (nets.map Prod.snd)).length).map (tapF (extsOf nets o) ts (tapFrom (Bus.atUp o o.length) 0 (nets.map Prod.snd)))) := by
  rw [show manyI = 1099511627776 from rfl, cross_sum hE, Int.zero_add]
  unfold crossSum
  rw [← range_getD]
  rfl
theorem cross_bd (hE : Bus.bothErr nets n o = 0) (ts : List Int) : 0 ≤ crossOf nets o ts manyI ∧ crossOf nets o ts manyI ≤ 397312 := by
  have hf := tapF_bd hE ts (tapFrom (Bus.atUp o o.length) 0 (nets.map Prod.snd))
  have h := isum_bd _ 64 hf (List.range (tapFrom (Bus.atUp o o.length) 0 (nets.map Prod.snd)).length)
  have hT := taps_few (l := mkNets nets) (n := n) (by rw [mkNets_net]; exact (both_iff.1 hE).1) (Bus.atUp o o.length)
  have e : (mkNets nets).map NetAt.cols = nets.map Prod.snd := by
    have : (mkNets nets).map NetAt.cols = ((mkNets nets).map NetAt.net).map Prod.snd := by rw [List.map_map]; rfl
    rw [this, mkNets_net]
  rw [e] at hT
  rw [cross_full hE, Int.zero_add]
  have hb : (List.range (tapFrom (Bus.atUp o o.length) 0 (nets.map Prod.snd)).length).length * 64 ≤ 6208 * 64 := Nat.mul_le_mul_right _ (by rw [List.length_range]; exact hT)
  omega
theorem own_lt (hE : Bus.bothErr nets n o = 0) {r0 : Int} (h0 : 0 ≤ r0) (ts : List Int) (N L : Int) (rest : List Int) :
    lexB [crossOf nets o ts r0, N, L] (r0 :: rest) = lexB [crossOf nets o ts manyI, N, L] (r0 :: rest) ∧ (lexB [crossOf nets o ts manyI, N, L] (r0 :: rest) = true → crossOf nets o ts r0 = crossOf nets o ts manyI) := by
  have hf := tapF_bd hE ts (tapFrom (Bus.atUp o o.length) 0 (nets.map Prod.snd))
  have h := run_cmp _ (fun x => (hf x).1) r0 (List.range (tapFrom (Bus.atUp o o.length) 0 (nets.map Prod.snd)).length) 0 h0
  rw [← cross_full hE] at h
  rcases h with ⟨_, h2⟩ | ⟨h1, h2⟩
  · have e : crossOf nets o ts r0 = crossOf nets o ts manyI := by
      have h3 := congrArg Prod.fst h2
      exact h3
    rw [e]
    exact ⟨rfl, fun _ => rfl⟩
  · have h2 : r0 < crossOf nets o ts r0 := h2
    simp only [lexB]
    rw [if_neg (by omega), if_neg (by omega), decide_eq_false (by omega), decide_eq_false (by omega)]
    exact ⟨rfl, fun h => by cases h⟩
def rk0 (nets : List (Int × List Int)) : Option (List Int) → Int
  | none => manyI
  | some b => crsO nets b
def rk1 (nets : List (Int × List Int)) : Option (List Int) → Int
  | none => manyI
  | some b => numO nets b
def rk2 (nets : List (Int × List Int)) : Option (List Int) → Int
  | none => manyI
  | some b => sumExt (extsOf nets b)
def bOrd : Option (List Int) → List Int
  | none => []
  | some b => b
def bTrk (nets : List (Int × List Int)) : Option (List Int) → List Int
  | none => []
  | some b => trkO nets b
theorem rk0_nn {st : Option (List Int)} (hst : ∀ b, st = some b → Bus.bothErr nets n b = 0) : 0 ≤ rk0 nets st ∧ rk0 nets st ≤ manyI := by
  cases st with
  | none => exact ⟨show (0 : Int) ≤ manyI by decide, Int.le_refl _⟩
  | some b =>
    have h := cross_bd (hst b rfl) (trkO nets b)
    show 0 ≤ crsO nets b ∧ crsO nets b ≤ manyI
    have h2 : crsO nets b = crossOf nets b (trkO nets b) manyI := rfl
    rw [h2]
    constructor
    · exact h.1
    · exact Int.le_trans h.2 (by decide)
theorem best_take (hE : Bus.bothErr nets n o = 0) {st : Option (List Int)} (hst : ∀ b, st = some b → Bus.bothErr nets n b = 0)
    (h : lexB [crossD (rowD nets o) (trkO nets o) (rk0 nets st), numO nets o, sumExt (extsOf nets o)] [rk0 nets st, rk1 nets st, rk2 nets st] = true) :
    bestStep (valOf nets) lexB st o = some o ∧ crossD (rowD nets o) (trkO nets o) (rk0 nets st) = crsO nets o := by
  rw [crossD_of hE] at h ⊢
  obtain ⟨h1, h2⟩ := own_lt hE (rk0_nn hst).1 (trkO nets o) (numO nets o) (sumExt (extsOf nets o)) [rk1 nets st, rk2 nets st]
  rw [h1] at h
  refine ⟨?_, h2 h⟩
  cases st with
  | none => rfl
  | some b =>
    show (if lexB (valOf nets o) (valOf nets b) = true then some o else some b) = some o
    rw [if_pos (show lexB (valOf nets o) (valOf nets b) = true from h)]
theorem best_keep (hE : Bus.bothErr nets n o = 0) {st : Option (List Int)} (hst : ∀ b, st = some b → Bus.bothErr nets n b = 0)
    (h : lexB [crossD (rowD nets o) (trkO nets o) (rk0 nets st), numO nets o, sumExt (extsOf nets o)] [rk0 nets st, rk1 nets st, rk2 nets st] = false) :
    bestStep (valOf nets) lexB st o = st := by
  rw [crossD_of hE] at h
  obtain ⟨h1, h2⟩ := own_lt hE (rk0_nn hst).1 (trkO nets o) (numO nets o) (sumExt (extsOf nets o)) [rk1 nets st, rk2 nets st]
  rw [h1] at h
  cases st with
  | none =>
    have hb := cross_bd hE (trkO nets o)
    have h : lexB [crossOf nets o (trkO nets o) manyI, numO nets o, sumExt (extsOf nets o)] [manyI, manyI, manyI] = false := h
    simp only [lexB] at h
    rw [if_neg (by intro e; rw [e] at hb; exact absurd hb.2 (by decide))] at h
    have h := of_decide_eq_false h
    have h3 : (397312 : Int) < manyI := by decide
    omega
  | some b =>
    show (if lexB (valOf nets o) (valOf nets b) = true then some o else some b) = some b
    rw [if_neg (by rw [show lexB (valOf nets o) (valOf nets b) = false from h]; simp)]
theorem bestOf_congr {α κ : Type} {key key' : α → κ} {lt : κ → κ → Bool} : ∀ {l : List α}, (∀ x ∈ l, key x = key' x) → bestOf key lt l = bestOf key' lt l := by
  intro l
  refine snoc_ind (motive := fun l => (∀ x ∈ l, key x = key' x) → bestOf key lt l = bestOf key' lt l) (fun _ => rfl) (fun l x ih h => ?_) l
  have ih := ih fun y hy => h y (List.mem_append_left _ hy)
  rw [bestOf_snoc, bestOf_snoc, ih]
  have hx := h x (by simp)
  rcases bestOf_mem key' lt l with ⟨_, e⟩ | ⟨b, e, hb⟩
  · rw [e]; rfl
  · rw [e]
    show (if lt (key x) (key b) = true then some x else some b) = if lt (key' x) (key' b) = true then some x else some b
    rw [hx, h b (List.mem_append_left _ hb)]
theorem ord_err {m : Nat} {p : List Int} (h : IsOrd m p) : Bus.orderErr p m = 0 := by
  unfold Bus.orderErr
  rw [if_neg (by rw [h.len]; exact fun h => h rfl)]
  exact orderFrom_ok _ _ _ (fun c hc => ⟨(h.bd c hc).1, (h.bd c hc).2, by simp⟩) h.nd
theorem ord_both {m : Nat} {p : List Int} (hN : Bus.netsErr nets m = 0) (h : IsOrd m p) : Bus.bothErr nets m p = 0 := both_iff.2 ⟨hN, ord_err h⟩
theorem ext_ne (m : Nat) : ext m m [] ≠ [] := fun h => by
  have : ((List.range m).map fun (k : Nat) => (k : Int)) ∈ ext m m [] := (ord_mem m _).2 ⟨by simp, fun x hx => by
    obtain ⟨k, hk, rfl⟩ := List.mem_map.1 hx
    have := List.mem_range.1 hk
    omega, nodup_map_cast m⟩
  rw [h] at this
  cases this
def bestO (nets : List (Int × List Int)) (m : Nat) : Option (List Int) := bestOf (valOf nets) lexB (ext m m [])
theorem best_some (m : Nat) : ∃ b, bestO nets m = some b ∧ IsOrd m b := by
  rcases bestOf_mem (valOf nets) lexB (ext m m []) with ⟨h, _⟩ | ⟨b, h1, h2⟩
  · exact absurd h (ext_ne m)
  · exact ⟨b, h1, (ord_mem m b).1 h2⟩
def crsRO (nets : List (Int × List Int)) (o : List Int) : Int := crsR nets o (rI nets o o.length 0).1 (usedR (rI nets o o.length 0).1 64) (usedR (rI nets o o.length 0).1 64).length
def numRO (nets : List (Int × List Int)) (o : List Int) : Int := ((cntUp (rI nets o o.length 0).1 nets.length : Nat) : Int)
theorem ref_val (hE : Bus.bothErr nets n o = 0) : (rI nets o o.length 0).1 = trkO nets o ∧ crsRO nets o = crsO nets o ∧ numRO nets o = numO nets o := by
  obtain ⟨t1, t2⟩ := tracks_fact hE
  obtain ⟨f1, f2, f3, f4, f5⟩ := low_conf hE
  have hlay := low_lay hE
  obtain ⟨l1, l2, _⟩ := lay_zero hE hlay
  refine ⟨t1, ?_, ?_⟩
  · unfold crsRO
    rw [t1]
    exact (crs_same hE (used_asc _ 64) fun k hk => by
      have hk2 : k < (toI (tracksOf (extsOf nets o)).2).length := by omega
      have hm : (toI (tracksOf (extsOf nets o)).2).getD k 0 ∈ toI (tracksOf (extsOf nets o)).2 := by rw [getD_lt hk2]; exact List.getElem_mem _
      have := l2 _ hm
      exact (used_mem _ _ 64).2 ⟨hm, this.1, by omega⟩).symm
  · unfold numRO numO
    rw [t2]
end
end Go.Proofs.YtbldpojkpmafpaaGreatDoor
