/- The reference of package bus: over, Under, used, Crossings, Bound, Mirror as contracts on plain data. -/
import Derived.Test.YtbldpojkpmafpaaGreatDoorZaBusPairs
import Derived.Test.YtbldpojkpmafpaaGreatDoorZaVRng
import Derived.Test.YtbldpojkpmafpaaGreatDoorZaVRenLaw
namespace Go.Proofs.YtbldpojkpmafpaaGreatDoor
open Go.RowKit Sv
set_option maxRecDepth 100000
set_option linter.unusedVariables false
noncomputable section
noncomputable def cPos : Ctr := { f := 62, ps := [.list false (.int .i64), .int .i64], rs := [.int .i64], fresh := true, pre := fun d => decide (List.length (α := Int) d.1 ≤ 1000000), fn := fun d => (Bus.pos d.1 d.2.1, ()) }
theorem cPos_ok : cPos.Ok Tryz.prog := fun ⟨l, x, _⟩ h => holds_raw fun w F xs hF hd => by
  cases hd with
  | cons d1 d2 =>
    cases d2 with
    | cons d2 d3 =>
      cases d3
      obtain ⟨A, c, rfl, _, hR⟩ := den_ints hF d1
      rw [d2.raw_eq]
      exact (position_any A c w.heap.size l x w (of_decide_eq_true h) hR).mono fun e w' ⟨g1, g2⟩ => by subst g2; exact ⟨g1, Below.refl _ _⟩
def okCr (nets : List (Int × List Int)) (order ts : List Int) : Bool := decide (nets.length ≤ 64) && (decide (order.length ≤ 1000) && (decide (nets.length ≤ ts.length) && (decide (ts.length ≤ 1000) && nets.all fun x => decide (x.2.length ≤ 1000))))
def BOv : Code := (Tryz.f100.body).getD .skip
def SOv (nets : List (Int × List Int)) (order ts : List Int) (tr p c : Int) (i : Nat) : St := { n := 37, sl := [(0, nv nets), (1, lv order), (2, lv ts), (3, iv tr), (4, iv p), (11, iv c), (12, iv i)], en := [], next := 64 }
theorem ov_start (nets : List (Int × List Int)) (order ts : List Int) (tr p : Int)  :
    Tst.path (vrun0 Tryz.prog (ctrs [cCovers]) (fl BOv []) 3 37 [nv nets, lv order, lv ts, iv tr, iv p]) [] (toSt Tryz.prog 37 .normal [] (SOv nets order ts tr p 0 0)) := by
  have eTst : (Tst.path (vrun0 Tryz.prog (ctrs [cCovers]) (fl BOv []) 3 37 [nv nets, lv order, lv ts, iv tr, iv p]) [] (toSt Tryz.prog 37 .normal [] (SOv nets order ts tr p 0 0))) = (((nets) = (nets)) ∧ ((order) = (order)) ∧ ((ts) = (ts)) ∧ ((tr) = (tr)) ∧ ((p) = (p)) ∧ (((0 : Int)) = ((0 : Int))) ∧ (((0 : Int)) = ((↑(0 : Nat) : Int))) ∧ True) := by kernel_rfl
  exact eTst.mpr ⟨rfl, ⟨rfl, ⟨rfl, ⟨rfl, ⟨rfl, ⟨rfl, ⟨rfl, trivial⟩⟩⟩⟩⟩⟩⟩
theorem ov_add (nets : List (Int × List Int)) (order ts : List Int) (tr p c : Int) (i : Nat) (h1 : (↑i : Int) < (↑(List.length nets) : Int)) (h2 : i < List.length ts) (h3 : List.getD ts i (0 : Int) = tr) (h4 : i < List.length nets) (h5 : (decide (List.length order ≤ (1000 : Nat)) && decide (List.length (Prod.snd (List.getD nets i ((0 : Int), []))) ≤ (140737488355328 : Nat))) = true) (h6 : (covR (refExt order (Prod.snd (List.getD nets i ((0 : Int), [])))) p) = true) (h7 : -9223372036854775808 ≤ c + (1 : Int) ∧ c + (1 : Int) ≤ 9223372036854775807) (h8 : -9223372036854775808 ≤ (↑i : Int) + (1 : Int) ∧ (↑i : Int) + (1 : Int) ≤ 9223372036854775807) :
    Tst.path (vall Tryz.prog (ctrs [cCovers]) (fl BOv [1,1,0,1,0,0]) (SOv nets order ts tr p c i)) [true, true, true, true, true, true, true, true, true, true] (toSt Tryz.prog 37 .normal [] (SOv nets order ts tr p (c + 1) (i + 1))) := by
  have eTst : (Tst.path (vall Tryz.prog (ctrs [cCovers]) (fl BOv [1,1,0,1,0,0]) (SOv nets order ts tr p c i)) [true, true, true, true, true, true, true, true, true, true] (toSt Tryz.prog 37 .normal [] (SOv nets order ts tr p (c + 1) (i + 1)))) = (((decide ((↑i : Int) < (↑(List.length nets) : Int))) = true) ∧ ((decide ((0 : Int) ≤ (↑i : Int))) = true) ∧ ((decide (i < List.length ts)) = true) ∧ (((List.getD ts i (0 : Int) == tr) == true) = true) ∧ (((List.getD ts i (0 : Int) == tr) == true) = true) ∧ (((List.getD ts i (0 : Int) == tr) == true) = true) ∧ ((decide ((0 : Int) ≤ (↑i : Int))) = true) ∧ ((decide (i < List.length nets)) = true) ∧ (((List.getD ts i (0 : Int) == tr) == true) = true) ∧ (((List.getD ts i (0 : Int) == tr) == true) = true) ∧ (((List.getD ts i (0 : Int) == tr) == true) = true) ∧ (((List.getD ts i (0 : Int) == tr) == true) = true) ∧ ((decide (List.length order ≤ (1000 : Nat)) && decide (List.length (Prod.snd (List.getD nets i ((0 : Int), []))) ≤ (140737488355328 : Nat))) = true) ∧ ((List.getD ts i (0 : Int) == tr) = true) ∧ ((covR (refExt order (Prod.snd (List.getD nets i ((0 : Int), [])))) p) = true) ∧ ((fits IntKind.i64 (c + (1 : Int))) = true) ∧ ((fits IntKind.i64 ((↑i : Int) + (1 : Int))) = true) ∧ ((nets) = (nets)) ∧ ((order) = (order)) ∧ ((ts) = (ts)) ∧ ((tr) = (tr)) ∧ ((p) = (p)) ∧ ((c + (1 : Int)) = (c + (1 : Int))) ∧ (((↑i : Int) + (1 : Int)) = ((↑(i + (1 : Nat)) : Int))) ∧ True) := by kernel_rfl
  exact eTst.mpr ⟨decide_eq_true h1, ⟨decide_eq_true (by omega), ⟨decide_eq_true h2, ⟨congrArg (fun y => y == true) (show (List.getD ts i (0 : Int) == tr) = true from beq_iff_eq.mpr h3), ⟨congrArg (fun y => y == true) (show (List.getD ts i (0 : Int) == tr) = true from beq_iff_eq.mpr h3), ⟨congrArg (fun y => y == true) (show (List.getD ts i (0 : Int) == tr) = true from beq_iff_eq.mpr h3), ⟨decide_eq_true (by omega), ⟨decide_eq_true h4, ⟨congrArg (fun y => y == true) (show (List.getD ts i (0 : Int) == tr) = true from beq_iff_eq.mpr h3), ⟨congrArg (fun y => y == true) (show (List.getD ts i (0 : Int) == tr) = true from beq_iff_eq.mpr h3), ⟨congrArg (fun y => y == true) (show (List.getD ts i (0 : Int) == tr) = true from beq_iff_eq.mpr h3), ⟨congrArg (fun y => y == true) (show (List.getD ts i (0 : Int) == tr) = true from beq_iff_eq.mpr h3), ⟨h5, ⟨beq_iff_eq.mpr h3, ⟨h6, ⟨fits_i64 h7, ⟨fits_i64 h8, ⟨rfl, ⟨rfl, ⟨rfl, ⟨rfl, ⟨rfl, ⟨rfl, ⟨(by omega), trivial⟩⟩⟩⟩⟩⟩⟩⟩⟩⟩⟩⟩⟩⟩⟩⟩⟩⟩⟩⟩⟩⟩⟩⟩
theorem ov_nc (nets : List (Int × List Int)) (order ts : List Int) (tr p c : Int) (i : Nat) (h1 : (↑i : Int) < (↑(List.length nets) : Int)) (h2 : i < List.length ts) (h3 : List.getD ts i (0 : Int) = tr) (h4 : i < List.length nets) (h5 : (decide (List.length order ≤ (1000 : Nat)) && decide (List.length (Prod.snd (List.getD nets i ((0 : Int), []))) ≤ (140737488355328 : Nat))) = true) (h6 : (covR (refExt order (Prod.snd (List.getD nets i ((0 : Int), [])))) p) = false) (h7 : -9223372036854775808 ≤ (↑i : Int) + (1 : Int) ∧ (↑i : Int) + (1 : Int) ≤ 9223372036854775807) :
    Tst.path (vall Tryz.prog (ctrs [cCovers]) (fl BOv [1,1,0,1,0,0]) (SOv nets order ts tr p c i)) [true, true, true, true, true, true, true, true, true, false] (toSt Tryz.prog 37 .normal [] (SOv nets order ts tr p c (i + 1))) := by
  have eTst : (Tst.path (vall Tryz.prog (ctrs [cCovers]) (fl BOv [1,1,0,1,0,0]) (SOv nets order ts tr p c i)) [true, true, true, true, true, true, true, true, true, false] (toSt Tryz.prog 37 .normal [] (SOv nets order ts tr p c (i + 1)))) = (((decide ((↑i : Int) < (↑(List.length nets) : Int))) = true) ∧ ((decide ((0 : Int) ≤ (↑i : Int))) = true) ∧ ((decide (i < List.length ts)) = true) ∧ (((List.getD ts i (0 : Int) == tr) == true) = true) ∧ (((List.getD ts i (0 : Int) == tr) == true) = true) ∧ (((List.getD ts i (0 : Int) == tr) == true) = true) ∧ ((decide ((0 : Int) ≤ (↑i : Int))) = true) ∧ ((decide (i < List.length nets)) = true) ∧ (((List.getD ts i (0 : Int) == tr) == true) = true) ∧ (((List.getD ts i (0 : Int) == tr) == true) = true) ∧ (((List.getD ts i (0 : Int) == tr) == true) = true) ∧ (((List.getD ts i (0 : Int) == tr) == true) = true) ∧ ((decide (List.length order ≤ (1000 : Nat)) && decide (List.length (Prod.snd (List.getD nets i ((0 : Int), []))) ≤ (140737488355328 : Nat))) = true) ∧ ((List.getD ts i (0 : Int) == tr) = true) ∧ ((covR (refExt order (Prod.snd (List.getD nets i ((0 : Int), [])))) p) = false) ∧ ((fits IntKind.i64 ((↑i : Int) + (1 : Int))) = true) ∧ ((nets) = (nets)) ∧ ((order) = (order)) ∧ ((ts) = (ts)) ∧ ((tr) = (tr)) ∧ ((p) = (p)) ∧ ((c) = (c)) ∧ (((↑i : Int) + (1 : Int)) = ((↑(i + (1 : Nat)) : Int))) ∧ True) := by kernel_rfl
  exact eTst.mpr ⟨decide_eq_true h1, ⟨decide_eq_true (by omega), ⟨decide_eq_true h2, ⟨congrArg (fun y => y == true) (show (List.getD ts i (0 : Int) == tr) = true from beq_iff_eq.mpr h3), ⟨congrArg (fun y => y == true) (show (List.getD ts i (0 : Int) == tr) = true from beq_iff_eq.mpr h3), ⟨congrArg (fun y => y == true) (show (List.getD ts i (0 : Int) == tr) = true from beq_iff_eq.mpr h3), ⟨decide_eq_true (by omega), ⟨decide_eq_true h4, ⟨congrArg (fun y => y == true) (show (List.getD ts i (0 : Int) == tr) = true from beq_iff_eq.mpr h3), ⟨congrArg (fun y => y == true) (show (List.getD ts i (0 : Int) == tr) = true from beq_iff_eq.mpr h3), ⟨congrArg (fun y => y == true) (show (List.getD ts i (0 : Int) == tr) = true from beq_iff_eq.mpr h3), ⟨congrArg (fun y => y == true) (show (List.getD ts i (0 : Int) == tr) = true from beq_iff_eq.mpr h3), ⟨h5, ⟨beq_iff_eq.mpr h3, ⟨h6, ⟨fits_i64 h7, ⟨rfl, ⟨rfl, ⟨rfl, ⟨rfl, ⟨rfl, ⟨rfl, ⟨(by omega), trivial⟩⟩⟩⟩⟩⟩⟩⟩⟩⟩⟩⟩⟩⟩⟩⟩⟩⟩⟩⟩⟩⟩⟩
theorem ov_ne (nets : List (Int × List Int)) (order ts : List Int) (tr p c : Int) (i : Nat) (h1 : (↑i : Int) < (↑(List.length nets) : Int)) (h2 : i < List.length ts) (h3 : ¬List.getD ts i (0 : Int) = tr) (h4 : -9223372036854775808 ≤ (↑i : Int) + (1 : Int) ∧ (↑i : Int) + (1 : Int) ≤ 9223372036854775807) :
    Tst.path (vall Tryz.prog (ctrs [cCovers]) (fl BOv [1,1,0,1,0,0]) (SOv nets order ts tr p c i)) [true, false, false, false, false, false, false, false, false, false] (toSt Tryz.prog 37 .normal [] (SOv nets order ts tr p c (i + 1))) := by
  have eTst : (Tst.path (vall Tryz.prog (ctrs [cCovers]) (fl BOv [1,1,0,1,0,0]) (SOv nets order ts tr p c i)) [true, false, false, false, false, false, false, false, false, false] (toSt Tryz.prog 37 .normal [] (SOv nets order ts tr p c (i + 1)))) = (((decide ((↑i : Int) < (↑(List.length nets) : Int))) = true) ∧ ((decide ((0 : Int) ≤ (↑i : Int))) = true) ∧ ((decide (i < List.length ts)) = true) ∧ (((List.getD ts i (0 : Int) == tr) == true) = false) ∧ (((List.getD ts i (0 : Int) == tr) == true) = false) ∧ (((List.getD ts i (0 : Int) == tr) == true) = false) ∧ (((List.getD ts i (0 : Int) == tr) == true) = false) ∧ (((List.getD ts i (0 : Int) == tr) == true) = false) ∧ (((List.getD ts i (0 : Int) == tr) == true) = false) ∧ (((List.getD ts i (0 : Int) == tr) == true) = false) ∧ ((List.getD ts i (0 : Int) == tr) = false) ∧ ((false) = false) ∧ ((fits IntKind.i64 ((↑i : Int) + (1 : Int))) = true) ∧ ((nets) = (nets)) ∧ ((order) = (order)) ∧ ((ts) = (ts)) ∧ ((tr) = (tr)) ∧ ((p) = (p)) ∧ ((c) = (c)) ∧ (((↑i : Int) + (1 : Int)) = ((↑(i + (1 : Nat)) : Int))) ∧ True) := by kernel_rfl
  exact eTst.mpr ⟨decide_eq_true h1, ⟨decide_eq_true (by omega), ⟨decide_eq_true h2, ⟨congrArg (fun y => y == true) (show (List.getD ts i (0 : Int) == tr) = false from beq_eq_false_iff_ne.mpr h3), ⟨congrArg (fun y => y == true) (show (List.getD ts i (0 : Int) == tr) = false from beq_eq_false_iff_ne.mpr h3), ⟨congrArg (fun y => y == true) (show (List.getD ts i (0 : Int) == tr) = false from beq_eq_false_iff_ne.mpr h3), ⟨congrArg (fun y => y == true) (show (List.getD ts i (0 : Int) == tr) = false from beq_eq_false_iff_ne.mpr h3), ⟨congrArg (fun y => y == true) (show (List.getD ts i (0 : Int) == tr) = false from beq_eq_false_iff_ne.mpr h3), ⟨congrArg (fun y => y == true) (show (List.getD ts i (0 : Int) == tr) = false from beq_eq_false_iff_ne.mpr h3), ⟨congrArg (fun y => y == true) (show (List.getD ts i (0 : Int) == tr) = false from beq_eq_false_iff_ne.mpr h3), ⟨beq_eq_false_iff_ne.mpr h3, ⟨rfl, ⟨fits_i64 h4, ⟨rfl, ⟨rfl, ⟨rfl, ⟨rfl, ⟨rfl, ⟨rfl, ⟨(by omega), trivial⟩⟩⟩⟩⟩⟩⟩⟩⟩⟩⟩⟩⟩⟩⟩⟩⟩⟩⟩⟩
theorem ov_end (nets : List (Int × List Int)) (order ts : List Int) (tr p c : Int) (i : Nat) (h1 : ¬(↑i : Int) < (↑(List.length nets) : Int)) :
    Tst.path (vall Tryz.prog (ctrs [cCovers]) (fl BOv [1,1,0,1,0,0]) (SOv nets order ts tr p c i)) [false] (toSt Tryz.prog 37 (.exit 0) [] (SOv nets order ts tr p c i)) := by
  have eTst : (Tst.path (vall Tryz.prog (ctrs [cCovers]) (fl BOv [1,1,0,1,0,0]) (SOv nets order ts tr p c i)) [false] (toSt Tryz.prog 37 (.exit 0) [] (SOv nets order ts tr p c i))) = (((decide ((↑i : Int) < (↑(List.length nets) : Int))) = false) ∧ ((nets) = (nets)) ∧ ((order) = (order)) ∧ ((ts) = (ts)) ∧ ((tr) = (tr)) ∧ ((p) = (p)) ∧ ((c) = (c)) ∧ (((↑i : Int)) = ((↑i : Int))) ∧ True) := by kernel_rfl
  exact eTst.mpr ⟨decide_eq_false h1, ⟨rfl, ⟨rfl, ⟨rfl, ⟨rfl, ⟨rfl, ⟨rfl, ⟨rfl, trivial⟩⟩⟩⟩⟩⟩⟩⟩
theorem ov_ret (nets : List (Int × List Int)) (order ts : List Int) (tr p c : Int) (i : Nat)  :
    Tst.path (vall Tryz.prog (ctrs [cCovers]) (List.drop 4 (fl BOv [])) (SOv nets order ts tr p c i)) [] (toRet Tryz.prog Tryz.f100 true (iv c)) := by
  have eTst : (Tst.path (vall Tryz.prog (ctrs [cCovers]) (List.drop 4 (fl BOv [])) (SOv nets order ts tr p c i)) [] (toRet Tryz.prog Tryz.f100 true (iv c))) = ((c) = (c)) := by kernel_rfl
  exact eTst.mpr rfl
noncomputable def cOver : Ctr := { f := 100, ps := [.list false (.pair (.int .i64) (.list false (.int .i64))), .list false (.int .i64), .list false (.int .i64), .int .i64, .int .i64], rs := [.int .i64], fresh := true, pre := fun d => okNets d.1 d.2.1 && decide (List.length (α := Int × List Int) d.1 ≤ List.length (α := Int) d.2.2.1), fn := fun d => (ovR d.1 d.2.1 d.2.2.1 d.2.2.2.1 d.2.2.2.2.1 (List.length (α := Int × List Int) d.1), ()) }
def BUn : Code := (Tryz.f57.body).getD .skip
def unCs : VCaller := ctrs [cPos, cOver]
abbrev layE (j : Nat) (order ts : List Int) : Nat × Ent := (j, .blk (.cells 29 [lv order, lv ts] true false false))
def SUn (nets : List (Int × List Int)) (order ts : List Int) (b a s : Int) (i : Nat) : St := { n := 56, sl := [(0, nv nets), (2, iv b), (3, iv a), (5, .ptr 64 0), (9, iv s), (10, iv i)], en := [layE 64 order ts], next := 65 }
def SUk (nets : List (Int × List Int)) (order ts : List Int) (b a s : Int) (i k : Nat) : St := { n := 56, sl := [(0, nv nets), (2, iv b), (3, iv a), (5, .ptr 64 0), (9, iv s), (10, iv i), (11, iv k)], en := [layE 64 order ts], next := 65 }
abbrev uO : List Nat := [1,1,0,1,0,0]
abbrev uB : List Nat := [1,1,0,1,0,0,1,0,0]
abbrev uK : List Nat := [1,1,0,1,0,0,1,0,0,1,1,0,0]
theorem un_start (nets : List (Int × List Int)) (order ts : List Int) (b a : Int)  :
    Tst.path (vrun0 Tryz.prog unCs (fl BUn []) 3 56 [nv nets, yv order ts, iv b, iv a]) [] (toSt Tryz.prog 56 .normal [(64, 64, none)] (SUn nets order ts b a 0 0)) := by
  have eTst : (Tst.path (vrun0 Tryz.prog unCs (fl BUn []) 3 56 [nv nets, yv order ts, iv b, iv a]) [] (toSt Tryz.prog 56 .normal [(64, 64, none)] (SUn nets order ts b a 0 0))) = (((nets) = (nets)) ∧ ((b) = (b)) ∧ ((a) = (a)) ∧ (((0 : Nat)) = ((0 : Nat))) ∧ (((0 : Int)) = ((0 : Int))) ∧ (((0 : Int)) = ((↑(0 : Nat) : Int))) ∧ (((order) = (order)) ∧ ((ts) = (ts)) ∧ True) ∧ True) := by kernel_rfl
  exact eTst.mpr ⟨rfl, ⟨rfl, ⟨rfl, ⟨rfl, ⟨rfl, ⟨rfl, ⟨⟨rfl, ⟨rfl, trivial⟩⟩, trivial⟩⟩⟩⟩⟩⟩⟩
theorem un_row (nets : List (Int × List Int)) (order ts : List Int) (b a s : Int) (i : Nat) (h1 : (↑i : Int) < (↑(List.length nets) : Int)) :
    Tst.path (vrun Tryz.prog unCs (fl BUn uO) 2 (SUn nets order ts b a s i)) [true] (toSt Tryz.prog 56 .normal [(64, 64, none)] (SUn nets order ts b a s i)) := by
  have eTst : (Tst.path (vrun Tryz.prog unCs (fl BUn uO) 2 (SUn nets order ts b a s i)) [true] (toSt Tryz.prog 56 .normal [(64, 64, none)] (SUn nets order ts b a s i))) = (((decide ((↑i : Int) < (↑(List.length nets) : Int))) = true) ∧ ((nets) = (nets)) ∧ ((b) = (b)) ∧ ((a) = (a)) ∧ (((0 : Nat)) = ((0 : Nat))) ∧ ((s) = (s)) ∧ (((↑i : Int)) = ((↑i : Int))) ∧ (((order) = (order)) ∧ ((ts) = (ts)) ∧ True) ∧ True) := by kernel_rfl
  exact eTst.mpr ⟨decide_eq_true h1, ⟨rfl, ⟨rfl, ⟨rfl, ⟨rfl, ⟨rfl, ⟨rfl, ⟨⟨rfl, ⟨rfl, trivial⟩⟩, trivial⟩⟩⟩⟩⟩⟩⟩⟩
theorem un_stop (nets : List (Int × List Int)) (order ts : List Int) (b a s : Int) (i : Nat) (h1 : ¬(↑i : Int) < (↑(List.length nets) : Int)) :
    Tst.path (vrun Tryz.prog unCs (fl BUn uO) 2 (SUn nets order ts b a s i)) [false] (toSt Tryz.prog 56 (.exit 0) [(64, 64, none)] (SUn nets order ts b a s i)) := by
  have eTst : (Tst.path (vrun Tryz.prog unCs (fl BUn uO) 2 (SUn nets order ts b a s i)) [false] (toSt Tryz.prog 56 (.exit 0) [(64, 64, none)] (SUn nets order ts b a s i))) = (((decide ((↑i : Int) < (↑(List.length nets) : Int))) = false) ∧ ((nets) = (nets)) ∧ ((b) = (b)) ∧ ((a) = (a)) ∧ (((0 : Nat)) = ((0 : Nat))) ∧ ((s) = (s)) ∧ (((↑i : Int)) = ((↑i : Int))) ∧ (((order) = (order)) ∧ ((ts) = (ts)) ∧ True) ∧ True) := by kernel_rfl
  exact eTst.mpr ⟨decide_eq_false h1, ⟨rfl, ⟨rfl, ⟨rfl, ⟨rfl, ⟨rfl, ⟨rfl, ⟨⟨rfl, ⟨rfl, trivial⟩⟩, trivial⟩⟩⟩⟩⟩⟩⟩⟩
theorem un_skip (nets : List (Int × List Int)) (order ts : List Int) (b a s : Int) (i : Nat) (h1 : i < List.length ts) (h2 : ¬List.getD ts i (0 : Int) = a) :
    Tst.path (vrun Tryz.prog unCs (fl BUn uB) 2 (SUn nets order ts b a s i)) [true] (toSt Tryz.prog 56 (.exit 1) [(64, 64, none)] (SUn nets order ts b a s i)) := by
  have eTst : (Tst.path (vrun Tryz.prog unCs (fl BUn uB) 2 (SUn nets order ts b a s i)) [true] (toSt Tryz.prog 56 (.exit 1) [(64, 64, none)] (SUn nets order ts b a s i))) = (((decide ((0 : Int) ≤ (↑i : Int))) = true) ∧ ((decide (i < List.length ts)) = true) ∧ ((List.getD ts i (0 : Int) != a) = true) ∧ ((nets) = (nets)) ∧ ((b) = (b)) ∧ ((a) = (a)) ∧ (((0 : Nat)) = ((0 : Nat))) ∧ ((s) = (s)) ∧ (((↑i : Int)) = ((↑i : Int))) ∧ (((order) = (order)) ∧ ((ts) = (ts)) ∧ True) ∧ True) := by kernel_rfl
  exact eTst.mpr ⟨decide_eq_true (by omega), ⟨decide_eq_true h1, ⟨bne_iff_ne.mpr h2, ⟨rfl, ⟨rfl, ⟨rfl, ⟨rfl, ⟨rfl, ⟨rfl, ⟨⟨rfl, ⟨rfl, trivial⟩⟩, trivial⟩⟩⟩⟩⟩⟩⟩⟩⟩⟩
theorem un_in (nets : List (Int × List Int)) (order ts : List Int) (b a s : Int) (i : Nat) (h1 : i < List.length ts) (h2 : List.getD ts i (0 : Int) = a) :
    Tst.path (vrun Tryz.prog unCs (fl BUn uB) 3 (SUn nets order ts b a s i)) [false] (toSt Tryz.prog 56 .normal [(64, 64, none)] (SUk nets order ts b a s i 0)) := by
  have eTst : (Tst.path (vrun Tryz.prog unCs (fl BUn uB) 3 (SUn nets order ts b a s i)) [false] (toSt Tryz.prog 56 .normal [(64, 64, none)] (SUk nets order ts b a s i 0))) = (((decide ((0 : Int) ≤ (↑i : Int))) = true) ∧ ((decide (i < List.length ts)) = true) ∧ ((List.getD ts i (0 : Int) != a) = false) ∧ ((nets) = (nets)) ∧ ((b) = (b)) ∧ ((a) = (a)) ∧ (((0 : Nat)) = ((0 : Nat))) ∧ ((s) = (s)) ∧ (((↑i : Int)) = ((↑i : Int))) ∧ (((0 : Int)) = ((↑(0 : Nat) : Int))) ∧ (((order) = (order)) ∧ ((ts) = (ts)) ∧ True) ∧ True) := by kernel_rfl
  exact eTst.mpr ⟨decide_eq_true (by omega), ⟨decide_eq_true h1, ⟨bne_eq_false_iff_eq.mpr h2, ⟨rfl, ⟨rfl, ⟨rfl, ⟨rfl, ⟨rfl, ⟨rfl, ⟨rfl, ⟨⟨rfl, ⟨rfl, trivial⟩⟩, trivial⟩⟩⟩⟩⟩⟩⟩⟩⟩⟩⟩
theorem un_add (nets : List (Int × List Int)) (order ts : List Int) (b a s : Int) (i k : Nat) (h1 : i < List.length nets) (h2 : (↑k : Int) < (↑(List.length (Prod.snd (List.getD nets i ((0 : Int), [])))) : Int)) (h3 : k < List.length (Prod.snd (List.getD nets i ((0 : Int), [])))) (h4 : List.length order ≤ (1000000 : Nat)) (h5 : (okNets nets order && decide (List.length nets ≤ List.length ts)) = true) (h6 : -9223372036854775808 ≤ s + ovR nets order ts b (Bus.pos order (List.getD (Prod.snd (List.getD nets i ((0 : Int), []))) k (0 : Int))) (List.length nets) ∧ s + ovR nets order ts b (Bus.pos order (List.getD (Prod.snd (List.getD nets i ((0 : Int), []))) k (0 : Int))) (List.length nets) ≤ 9223372036854775807) (h7 : -9223372036854775808 ≤ (↑k : Int) + (1 : Int) ∧ (↑k : Int) + (1 : Int) ≤ 9223372036854775807) :
    Tst.path (vall Tryz.prog unCs (fl BUn uK) (SUk nets order ts b a s i k)) [true] (toSt Tryz.prog 56 .normal [(64, 64, none)] (SUk nets order ts b a (s + ovR nets order ts b (Bus.pos order ((nets.getD i (0, [])).2.getD k 0)) nets.length) i (k + 1))) := by
  have eTst : (Tst.path (vall Tryz.prog unCs (fl BUn uK) (SUk nets order ts b a s i k)) [true] (toSt Tryz.prog 56 .normal [(64, 64, none)] (SUk nets order ts b a (s + ovR nets order ts b (Bus.pos order ((nets.getD i (0, [])).2.getD k 0)) nets.length) i (k + 1)))) = (((decide ((0 : Int) ≤ (↑i : Int))) = true) ∧ ((decide (i < List.length nets)) = true) ∧ ((decide ((↑k : Int) < (↑(List.length (Prod.snd (List.getD nets i ((0 : Int), [])))) : Int))) = true) ∧ ((AV.same (AV.lst false (Ty.int IntKind.i64) order) (AV.lst false (Ty.int IntKind.i64) order)) = true) ∧ ((AV.same (AV.lst false (Ty.int IntKind.i64) ts) (AV.lst false (Ty.int IntKind.i64) ts)) = true) ∧ ((AV.same (AV.lst false (Ty.int IntKind.i64) order) (AV.lst false (Ty.int IntKind.i64) order)) = true) ∧ ((decide ((0 : Int) ≤ (↑i : Int))) = true) ∧ ((decide (i < List.length nets)) = true) ∧ ((AV.same (AV.lst false (Ty.int IntKind.i64) (Prod.snd (List.getD nets i ((0 : Int), [])))) (AV.lst false (Ty.int IntKind.i64) (Prod.snd (List.getD nets i ((0 : Int), []))))) = true) ∧ ((decide ((0 : Int) ≤ (↑k : Int))) = true) ∧ ((decide (k < List.length (Prod.snd (List.getD nets i ((0 : Int), []))))) = true) ∧ ((AV.same (AV.raw (Value.int IntKind.i64 (List.getD (Prod.snd (List.getD nets i ((0 : Int), []))) k (0 : Int)))) (AV.raw (Value.int IntKind.i64 (List.getD (Prod.snd (List.getD nets i ((0 : Int), []))) k (0 : Int))))) = true) ∧ ((decide (List.length order ≤ (1000000 : Nat))) = true) ∧ ((AV.same (AV.lst false (Ty.int IntKind.i64) (Prod.snd (List.getD nets i ((0 : Int), [])))) (AV.lst false (Ty.int IntKind.i64) (Prod.snd (List.getD nets i ((0 : Int), []))))) = true) ∧ ((AV.same (AV.lst false (Ty.int IntKind.i64) ts) (AV.lst false (Ty.int IntKind.i64) ts)) = true) ∧ ((AV.same (AV.lst false (Ty.int IntKind.i64) order) (AV.lst false (Ty.int IntKind.i64) order)) = true) ∧ ((okNets nets order && decide (List.length nets ≤ List.length ts)) = true) ∧ ((AV.same (AV.lst false (Ty.int IntKind.i64) (Prod.snd (List.getD nets i ((0 : Int), [])))) (AV.lst false (Ty.int IntKind.i64) (Prod.snd (List.getD nets i ((0 : Int), []))))) = true) ∧ ((fits IntKind.i64 (s + ovR nets order ts b (Bus.pos order (List.getD (Prod.snd (List.getD nets i ((0 : Int), []))) k (0 : Int))) (List.length nets))) = true) ∧ ((fits IntKind.i64 ((↑k : Int) + (1 : Int))) = true) ∧ ((nets) = (nets)) ∧ ((b) = (b)) ∧ ((a) = (a)) ∧ (((0 : Nat)) = ((0 : Nat))) ∧ ((s + ovR nets order ts b (Bus.pos order (List.getD (Prod.snd (List.getD nets i ((0 : Int), []))) k (0 : Int))) (List.length nets)) = (s + ovR nets order ts b (Bus.pos order (List.getD (Prod.snd (List.getD nets i ((0 : Int), []))) k (0 : Int))) (List.length nets))) ∧ (((↑i : Int)) = ((↑i : Int))) ∧ (((↑k : Int) + (1 : Int)) = ((↑(k + (1 : Nat)) : Int))) ∧ (((order) = (order)) ∧ ((ts) = (ts)) ∧ True) ∧ True) := by kernel_rfl
  exact eTst.mpr ⟨decide_eq_true (by omega), ⟨decide_eq_true h1, ⟨decide_eq_true h2, ⟨same_refl (by kernel_rfl), ⟨same_refl (by kernel_rfl), ⟨same_refl (by kernel_rfl), ⟨decide_eq_true (by omega), ⟨decide_eq_true h1, ⟨same_refl (by kernel_rfl), ⟨decide_eq_true (by omega), ⟨decide_eq_true h3, ⟨same_refl (by kernel_rfl), ⟨decide_eq_true h4, ⟨same_refl (by kernel_rfl), ⟨same_refl (by kernel_rfl), ⟨same_refl (by kernel_rfl), ⟨h5, ⟨same_refl (by kernel_rfl), ⟨fits_i64 h6, ⟨fits_i64 h7, ⟨rfl, ⟨rfl, ⟨rfl, ⟨rfl, ⟨rfl, ⟨rfl, ⟨(by omega), ⟨⟨rfl, ⟨rfl, trivial⟩⟩, trivial⟩⟩⟩⟩⟩⟩⟩⟩⟩⟩⟩⟩⟩⟩⟩⟩⟩⟩⟩⟩⟩⟩⟩⟩⟩⟩⟩⟩
theorem un_end (nets : List (Int × List Int)) (order ts : List Int) (b a s : Int) (i k : Nat) (h1 : i < List.length nets) (h2 : ¬(↑k : Int) < (↑(List.length (Prod.snd (List.getD nets i ((0 : Int), [])))) : Int)) :
    Tst.path (vall Tryz.prog unCs (fl BUn uK) (SUk nets order ts b a s i k)) [false] (toSt Tryz.prog 56 (.exit 2) [(64, 64, none)] (SUn nets order ts b a s i)) := by
  have eTst : (Tst.path (vall Tryz.prog unCs (fl BUn uK) (SUk nets order ts b a s i k)) [false] (toSt Tryz.prog 56 (.exit 2) [(64, 64, none)] (SUn nets order ts b a s i))) = (((decide ((0 : Int) ≤ (↑i : Int))) = true) ∧ ((decide (i < List.length nets)) = true) ∧ ((decide ((↑k : Int) < (↑(List.length (Prod.snd (List.getD nets i ((0 : Int), [])))) : Int))) = false) ∧ ((nets) = (nets)) ∧ ((b) = (b)) ∧ ((a) = (a)) ∧ (((0 : Nat)) = ((0 : Nat))) ∧ ((s) = (s)) ∧ (((↑i : Int)) = ((↑i : Int))) ∧ (((order) = (order)) ∧ ((ts) = (ts)) ∧ True) ∧ True) := by kernel_rfl
  exact eTst.mpr ⟨decide_eq_true (by omega), ⟨decide_eq_true h1, ⟨decide_eq_false h2, ⟨rfl, ⟨rfl, ⟨rfl, ⟨rfl, ⟨rfl, ⟨rfl, ⟨⟨rfl, ⟨rfl, trivial⟩⟩, trivial⟩⟩⟩⟩⟩⟩⟩⟩⟩⟩
theorem un_next (nets : List (Int × List Int)) (order ts : List Int) (b a s : Int) (i : Nat) (h1 : -9223372036854775808 ≤ (↑i : Int) + (1 : Int) ∧ (↑i : Int) + (1 : Int) ≤ 9223372036854775807) :
    Tst.path (vall Tryz.prog unCs (List.drop 3 (fl BUn uO)) (SUn nets order ts b a s i)) [] (toSt Tryz.prog 56 .normal [(64, 64, none)] (SUn nets order ts b a s (i + 1))) := by
  have eTst : (Tst.path (vall Tryz.prog unCs (List.drop 3 (fl BUn uO)) (SUn nets order ts b a s i)) [] (toSt Tryz.prog 56 .normal [(64, 64, none)] (SUn nets order ts b a s (i + 1)))) = (((fits IntKind.i64 ((↑i : Int) + (1 : Int))) = true) ∧ ((nets) = (nets)) ∧ ((b) = (b)) ∧ ((a) = (a)) ∧ (((0 : Nat)) = ((0 : Nat))) ∧ ((s) = (s)) ∧ (((↑i : Int) + (1 : Int)) = ((↑(i + (1 : Nat)) : Int))) ∧ (((order) = (order)) ∧ ((ts) = (ts)) ∧ True) ∧ True) := by kernel_rfl
  exact eTst.mpr ⟨fits_i64 h1, ⟨rfl, ⟨rfl, ⟨rfl, ⟨rfl, ⟨rfl, ⟨(by omega), ⟨⟨rfl, ⟨rfl, trivial⟩⟩, trivial⟩⟩⟩⟩⟩⟩⟩⟩
theorem un_ret (nets : List (Int × List Int)) (order ts : List Int) (b a s : Int) (i : Nat)  :
    Tst.path (vall Tryz.prog unCs (List.drop 4 (fl BUn [])) (SUn nets order ts b a s i)) [] (toRet Tryz.prog Tryz.f57 true (iv s)) := by
  have eTst : (Tst.path (vall Tryz.prog unCs (List.drop 4 (fl BUn [])) (SUn nets order ts b a s i)) [] (toRet Tryz.prog Tryz.f57 true (iv s))) = ((s) = (s)) := by kernel_rfl
  exact eTst.mpr rfl
def BUs : Code := (Tryz.f56.body).getD .skip
def SUs (order ts out : List Int) (t : Nat) : St := { n := 18, sl := [(1, .ptr 64 0), (3, ob 65 out), (4, iv t)], en := [layE 64 order ts, (65, oe out)], next := 66 }
theorem us_start (order ts : List Int)  :
    Tst.path (vrun0 Tryz.prog (ctrs [cIn]) (fl BUs []) 3 18 [yv order ts]) [] (toSt Tryz.prog 18 .normal [(64, 64, none)] (SUs order ts nilI 0)) := by
  have eTst : (Tst.path (vrun0 Tryz.prog (ctrs [cIn]) (fl BUs []) 3 18 [yv order ts]) [] (toSt Tryz.prog 18 .normal [(64, 64, none)] (SUs order ts nilI 0))) = ((((0 : Nat)) = ((0 : Nat))) ∧ ((List.length nilI) = ((0 : Nat))) ∧ (((0 : Int)) = ((↑(0 : Nat) : Int))) ∧ (((order) = (order)) ∧ ((ts) = (ts)) ∧ True) ∧ ((nilI) = ([])) ∧ True) := by kernel_rfl
  exact eTst.mpr ⟨rfl, ⟨rfl, ⟨rfl, ⟨⟨rfl, ⟨rfl, trivial⟩⟩, ⟨rfl, trivial⟩⟩⟩⟩⟩
theorem us_add (order ts out : List Int) (t : Nat) (h1 : (↑t : Int) < (64 : Int)) (h2 : List.length ts ≤ (1000000 : Nat)) (h3 : (↑t : Int) ∈ ts) (h4 : List.length out + (1 : Nat) ≤ 1000000) (h5 : -9223372036854775808 ≤ (↑t : Int) + (1 : Int) ∧ (↑t : Int) + (1 : Int) ≤ 9223372036854775807) (h6 : (List.length out + (1 : Nat)) = (List.length (out ++ [(↑t : Int)]))) (h7 : (Cap.full) = (capOf (List.length (out ++ [(↑t : Int)])))) :
    Tst.path (vall Tryz.prog (ctrs [cIn]) (fl BUs [1,1,0,1,0,0]) (SUs order ts out t)) [true, true, false] (toSt Tryz.prog 18 .normal [(64, 64, none), (65, 67, none)] (SUs order ts (out ++ [(t : Int)]) (t + 1))) := by
  have eTst : (Tst.path (vall Tryz.prog (ctrs [cIn]) (fl BUs [1,1,0,1,0,0]) (SUs order ts out t)) [true, true, false] (toSt Tryz.prog 18 .normal [(64, 64, none), (65, 67, none)] (SUs order ts (out ++ [(t : Int)]) (t + 1)))) = (((decide ((↑t : Int) < (64 : Int))) = true) ∧ ((decide (List.length ts ≤ (1000000 : Nat))) = true) ∧ ((decide ((↑t : Int) ∈ ts)) = true) ∧ ((Nat.beq (0 : Nat) (0 : Nat)) = true) ∧ ((Nat.beq (1 : Nat) (0 : Nat)) = false) ∧ ((blkIs (3 : TypeId) (Ty.int IntKind.i64) (optOwn (nat_lit 3) (Ty.int IntKind.i64) out) (List.length out) (capOf (List.length out))) = true) ∧ ((bounded (List.length out + (1 : Nat)) (8 : Nat)) = true) ∧ ((fits IntKind.i64 ((↑t : Int) + (1 : Int))) = true) ∧ (((0 : Nat)) = ((0 : Nat))) ∧ ((((0 : Nat)) = ((0 : Nat))) ∧ ((List.length out + (1 : Nat)) = (List.length (out ++ [(↑t : Int)]))) ∧ (Cap.full) = (capOf (List.length (out ++ [(↑t : Int)])))) ∧ (((↑t : Int) + (1 : Int)) = ((↑(t + (1 : Nat)) : Int))) ∧ (((order) = (order)) ∧ ((ts) = (ts)) ∧ True) ∧ ((blkXs (Ty.int IntKind.i64) (optOwn (nat_lit 3) (Ty.int IntKind.i64) out) ++ [(↑t : Int)]) = (out ++ [(↑t : Int)])) ∧ True) := by kernel_rfl
  exact eTst.mpr ⟨decide_eq_true h1, ⟨decide_eq_true h2, ⟨decide_eq_true h3, ⟨rfl, ⟨rfl, ⟨(blkIs_optOwn _ _ _), ⟨bounded_of h4 (by omega), ⟨fits_i64 h5, ⟨rfl, ⟨⟨rfl, ⟨h6, h7⟩⟩, ⟨(by omega), ⟨⟨rfl, ⟨rfl, trivial⟩⟩, ⟨(by simp only [blkXs_optOwn] <;> rfl), trivial⟩⟩⟩⟩⟩⟩⟩⟩⟩⟩⟩⟩⟩
theorem us_no (order ts out : List Int) (t : Nat) (h1 : (↑t : Int) < (64 : Int)) (h2 : List.length ts ≤ (1000000 : Nat)) (h3 : ¬(↑t : Int) ∈ ts) (h4 : -9223372036854775808 ≤ (↑t : Int) + (1 : Int) ∧ (↑t : Int) + (1 : Int) ≤ 9223372036854775807) :
    Tst.path (vall Tryz.prog (ctrs [cIn]) (fl BUs [1,1,0,1,0,0]) (SUs order ts out t)) [true, false] (toSt Tryz.prog 18 .normal [(64, 64, none), (65, 65, none)] (SUs order ts out (t + 1))) := by
  have eTst : (Tst.path (vall Tryz.prog (ctrs [cIn]) (fl BUs [1,1,0,1,0,0]) (SUs order ts out t)) [true, false] (toSt Tryz.prog 18 .normal [(64, 64, none), (65, 65, none)] (SUs order ts out (t + 1)))) = (((decide ((↑t : Int) < (64 : Int))) = true) ∧ ((decide (List.length ts ≤ (1000000 : Nat))) = true) ∧ ((decide ((↑t : Int) ∈ ts)) = false) ∧ ((fits IntKind.i64 ((↑t : Int) + (1 : Int))) = true) ∧ (((0 : Nat)) = ((0 : Nat))) ∧ ((((0 : Nat)) = ((0 : Nat))) ∧ ((List.length out) = (List.length out)) ∧ (capOf (List.length out)) = (capOf (List.length out))) ∧ (((↑t : Int) + (1 : Int)) = ((↑(t + (1 : Nat)) : Int))) ∧ (((order) = (order)) ∧ ((ts) = (ts)) ∧ True) ∧ ((fitOpt Tryz.prog none (optOwn (nat_lit 3) (Ty.int IntKind.i64) out) (nat_lit 3) (Ty.int IntKind.i64) out)) ∧ True) := by kernel_rfl
  exact eTst.mpr ⟨decide_eq_true h1, ⟨decide_eq_true h2, ⟨decide_eq_false h3, ⟨fits_i64 h4, ⟨rfl, ⟨⟨rfl, ⟨rfl, rfl⟩⟩, ⟨(by omega), ⟨⟨rfl, ⟨rfl, trivial⟩⟩, ⟨(fitOpt_refl _ _ _ _), trivial⟩⟩⟩⟩⟩⟩⟩⟩⟩
theorem us_end (order ts out : List Int) (t : Nat) (h1 : ¬(↑t : Int) < (64 : Int)) :
    Tst.path (vall Tryz.prog (ctrs [cIn]) (fl BUs [1,1,0,1,0,0]) (SUs order ts out t)) [false] (toSt Tryz.prog 18 (.exit 0) [(64, 64, none), (65, 65, none)] (SUs order ts out t)) := by
  have eTst : (Tst.path (vall Tryz.prog (ctrs [cIn]) (fl BUs [1,1,0,1,0,0]) (SUs order ts out t)) [false] (toSt Tryz.prog 18 (.exit 0) [(64, 64, none), (65, 65, none)] (SUs order ts out t))) = (((decide ((↑t : Int) < (64 : Int))) = false) ∧ (((0 : Nat)) = ((0 : Nat))) ∧ ((((0 : Nat)) = ((0 : Nat))) ∧ ((List.length out) = (List.length out)) ∧ (capOf (List.length out)) = (capOf (List.length out))) ∧ (((↑t : Int)) = ((↑t : Int))) ∧ (((order) = (order)) ∧ ((ts) = (ts)) ∧ True) ∧ ((fitOpt Tryz.prog none (optOwn (nat_lit 3) (Ty.int IntKind.i64) out) (nat_lit 3) (Ty.int IntKind.i64) out)) ∧ True) := by kernel_rfl
  exact eTst.mpr ⟨decide_eq_false h1, ⟨rfl, ⟨⟨rfl, ⟨rfl, rfl⟩⟩, ⟨rfl, ⟨⟨rfl, ⟨rfl, trivial⟩⟩, ⟨(fitOpt_refl _ _ _ _), trivial⟩⟩⟩⟩⟩⟩
theorem us_ret (order ts out : List Int) (t : Nat) (h1 : (out) = (List.take (List.length out) (List.drop (0 : Nat) out))) (h2 : List.length out = (0 : Nat) ∨ ownHas (3 : TypeId) (Ty.int IntKind.i64) (optOwn (nat_lit 3) (Ty.int IntKind.i64) out) ((0 : Nat) + List.length out - (1 : Nat)) = true) (h3 : false = true → List.length out ≠ (0 : Nat)) :
    Tst.path (vall Tryz.prog (ctrs [cIn]) (List.drop 4 (fl BUs [])) (SUs order ts out t)) [] (toRet Tryz.prog Tryz.f56 true (lv out)) := by
  have eTst : (Tst.path (vall Tryz.prog (ctrs [cIn]) (List.drop 4 (fl BUs [])) (SUs order ts out t)) [] (toRet Tryz.prog Tryz.f56 true (lv out))) = (((List.length out) = (List.length out)) ∧ ((out) = (List.take (List.length out) (List.drop (0 : Nat) (blkXs (Ty.int IntKind.i64) (optOwn (nat_lit 3) (Ty.int IntKind.i64) out))))) ∧ ((List.length out = (0 : Nat) ∨ ownHas (3 : TypeId) (Ty.int IntKind.i64) (optOwn (nat_lit 3) (Ty.int IntKind.i64) out) ((0 : Nat) + List.length out - (1 : Nat)) = true)) ∧ (false = true → List.length out ≠ (0 : Nat))) := by kernel_rfl
  exact eTst.mpr ⟨rfl, ⟨(by simp only [blkXs_optOwn] <;> exact h1), ⟨h2, h3⟩⟩⟩
noncomputable def cUnder : Ctr := { f := 57, ps := [.list false (.pair (.int .i64) (.list false (.int .i64))), .pair (.list false (.int .i64)) (.list false (.int .i64)), .int .i64, .int .i64], rs := [.int .i64], fresh := true, pre := fun d => okCr d.1 d.2.1.1 d.2.1.2, fn := fun d => (undR d.1 d.2.1.1 d.2.1.2 d.2.2.1 d.2.2.2.1 (List.length (α := Int × List Int) d.1), ()) }
noncomputable def cUsed : Ctr := { f := 56, ps := [.pair (.list false (.int .i64)) (.list false (.int .i64))], rs := [.list false (.int .i64)], fresh := true, pre := fun d => decide (List.length (α := Int) d.1.2 ≤ 1000000), fn := fun d => (usedR d.1.2 64, ()) }
def crCs : VCaller := ctrs [cUsed, cUnder]
abbrev cO : List Nat := [1,1,1,0,1,0,0]
abbrev cB : List Nat := [1,1,1,0,1,0,0,1,0,0]
abbrev cK : List Nat := [1,1,1,0,1,0,0,1,0,0,1,0,0]
def BCr : Code := (Tryz.f20.body).getD .skip
def Scr (nets : List (Int × List Int)) (order ts u : List Int) (s : Int) (i : Nat) : St := { n := 36, sl := [(0, nv nets), (3, .ptr 64 0), (5, iv s), (6, lv u), (7, iv i)], en := [layE 64 order ts], next := 65 }
def Scrk (nets : List (Int × List Int)) (order ts u : List Int) (s : Int) (i k : Nat) : St := { n := 36, sl := [(0, nv nets), (3, .ptr 64 0), (5, iv s), (6, lv u), (7, iv i), (8, iv k)], en := [layE 64 order ts], next := 65 }
theorem cr_start (nets : List (Int × List Int)) (order ts : List Int) (h1 : List.length ts ≤ (1000000 : Nat)) :
    Tst.path (vrun0 Tryz.prog crCs (fl BCr []) 4 36 [nv nets, yv order ts]) [] (toSt Tryz.prog 36 .normal [(64, 64, none)] (Scr nets order ts (usedR ts 64) 0 0)) := by
  have eTst : (Tst.path (vrun0 Tryz.prog crCs (fl BCr []) 4 36 [nv nets, yv order ts]) [] (toSt Tryz.prog 36 .normal [(64, 64, none)] (Scr nets order ts (usedR ts 64) 0 0))) = (((decide (List.length ts ≤ (1000000 : Nat))) = true) ∧ ((nets) = (nets)) ∧ (((0 : Nat)) = ((0 : Nat))) ∧ (((0 : Int)) = ((0 : Int))) ∧ ((usedR ts (64 : Nat)) = (usedR ts (64 : Nat))) ∧ (((0 : Int)) = ((↑(0 : Nat) : Int))) ∧ (((order) = (order)) ∧ ((ts) = (ts)) ∧ True) ∧ True) := by kernel_rfl
  exact eTst.mpr ⟨decide_eq_true h1, ⟨rfl, ⟨rfl, ⟨rfl, ⟨rfl, ⟨rfl, ⟨⟨rfl, ⟨rfl, trivial⟩⟩, trivial⟩⟩⟩⟩⟩⟩⟩
theorem cr_row (nets : List (Int × List Int)) (order ts u : List Int) (s : Int) (i : Nat) (h1 : (↑i : Int) < (↑(List.length u) : Int)) :
    Tst.path (vrun Tryz.prog crCs (fl BCr cO) 2 (Scr nets order ts u s i)) [true] (toSt Tryz.prog 36 .normal [(64, 64, none)] (Scr nets order ts u s i)) := by
  have eTst : (Tst.path (vrun Tryz.prog crCs (fl BCr cO) 2 (Scr nets order ts u s i)) [true] (toSt Tryz.prog 36 .normal [(64, 64, none)] (Scr nets order ts u s i))) = (((decide ((↑i : Int) < (↑(List.length u) : Int))) = true) ∧ ((nets) = (nets)) ∧ (((0 : Nat)) = ((0 : Nat))) ∧ ((s) = (s)) ∧ ((u) = (u)) ∧ (((↑i : Int)) = ((↑i : Int))) ∧ (((order) = (order)) ∧ ((ts) = (ts)) ∧ True) ∧ True) := by kernel_rfl
  exact eTst.mpr ⟨decide_eq_true h1, ⟨rfl, ⟨rfl, ⟨rfl, ⟨rfl, ⟨rfl, ⟨⟨rfl, ⟨rfl, trivial⟩⟩, trivial⟩⟩⟩⟩⟩⟩⟩
theorem cr_stop (nets : List (Int × List Int)) (order ts u : List Int) (s : Int) (i : Nat) (h1 : ¬(↑i : Int) < (↑(List.length u) : Int)) :
    Tst.path (vrun Tryz.prog crCs (fl BCr cO) 2 (Scr nets order ts u s i)) [false] (toSt Tryz.prog 36 (.exit 0) [(64, 64, none)] (Scr nets order ts u s i)) := by
  have eTst : (Tst.path (vrun Tryz.prog crCs (fl BCr cO) 2 (Scr nets order ts u s i)) [false] (toSt Tryz.prog 36 (.exit 0) [(64, 64, none)] (Scr nets order ts u s i))) = (((decide ((↑i : Int) < (↑(List.length u) : Int))) = false) ∧ ((nets) = (nets)) ∧ (((0 : Nat)) = ((0 : Nat))) ∧ ((s) = (s)) ∧ ((u) = (u)) ∧ (((↑i : Int)) = ((↑i : Int))) ∧ (((order) = (order)) ∧ ((ts) = (ts)) ∧ True) ∧ True) := by kernel_rfl
  exact eTst.mpr ⟨decide_eq_false h1, ⟨rfl, ⟨rfl, ⟨rfl, ⟨rfl, ⟨rfl, ⟨⟨rfl, ⟨rfl, trivial⟩⟩, trivial⟩⟩⟩⟩⟩⟩⟩
theorem cr_in (nets : List (Int × List Int)) (order ts u : List Int) (s : Int) (i : Nat)  :
    Tst.path (vrun Tryz.prog crCs (fl BCr cB) 1 (Scr nets order ts u s i)) [] (toSt Tryz.prog 36 .normal [(64, 64, none)] (Scrk nets order ts u s i 0)) := by
  have eTst : (Tst.path (vrun Tryz.prog crCs (fl BCr cB) 1 (Scr nets order ts u s i)) [] (toSt Tryz.prog 36 .normal [(64, 64, none)] (Scrk nets order ts u s i 0))) = (((nets) = (nets)) ∧ (((0 : Nat)) = ((0 : Nat))) ∧ ((s) = (s)) ∧ ((u) = (u)) ∧ (((↑i : Int)) = ((↑i : Int))) ∧ (((0 : Int)) = ((↑(0 : Nat) : Int))) ∧ (((order) = (order)) ∧ ((ts) = (ts)) ∧ True) ∧ True) := by kernel_rfl
  exact eTst.mpr ⟨rfl, ⟨rfl, ⟨rfl, ⟨rfl, ⟨rfl, ⟨rfl, ⟨⟨rfl, ⟨rfl, trivial⟩⟩, trivial⟩⟩⟩⟩⟩⟩⟩
theorem cr_add (nets : List (Int × List Int)) (order ts u : List Int) (s : Int) (i k : Nat) (h1 : (↑k : Int) < (↑i : Int)) (h2 : k < List.length u) (h3 : i < List.length u) (h4 : (okCr nets order ts) = true) (h5 : -9223372036854775808 ≤ s + undR nets order ts (List.getD u k (0 : Int)) (List.getD u i (0 : Int)) (List.length nets) ∧ s + undR nets order ts (List.getD u k (0 : Int)) (List.getD u i (0 : Int)) (List.length nets) ≤ 9223372036854775807) (h6 : -9223372036854775808 ≤ (↑k : Int) + (1 : Int) ∧ (↑k : Int) + (1 : Int) ≤ 9223372036854775807) :
    Tst.path (vall Tryz.prog crCs (fl BCr cK) (Scrk nets order ts u s i k)) [true] (toSt Tryz.prog 36 .normal [(64, 64, none)] (Scrk nets order ts u (s + undR nets order ts (u.getD k 0) (u.getD i 0) nets.length) i (k + 1))) := by
  have eTst : (Tst.path (vall Tryz.prog crCs (fl BCr cK) (Scrk nets order ts u s i k)) [true] (toSt Tryz.prog 36 .normal [(64, 64, none)] (Scrk nets order ts u (s + undR nets order ts (u.getD k 0) (u.getD i 0) nets.length) i (k + 1)))) = (((decide ((↑k : Int) < (↑i : Int))) = true) ∧ ((AV.same (AV.agg (List.take (2 : Nat) (List.drop (0 : Nat) [AV.lst false (Ty.int IntKind.i64) order, AV.lst false (Ty.int IntKind.i64) ts]))) (AV.agg (List.take (2 : Nat) (List.drop (0 : Nat) [AV.lst false (Ty.int IntKind.i64) order, AV.lst false (Ty.int IntKind.i64) ts])))) = true) ∧ ((decide ((0 : Int) ≤ (↑k : Int))) = true) ∧ ((decide (k < List.length u)) = true) ∧ ((AV.same (AV.raw (Value.int IntKind.i64 (List.getD u k (0 : Int)))) (AV.raw (Value.int IntKind.i64 (List.getD u k (0 : Int))))) = true) ∧ ((decide ((0 : Int) ≤ (↑i : Int))) = true) ∧ ((decide (i < List.length u)) = true) ∧ ((AV.same (AV.raw (Value.int IntKind.i64 (List.getD u i (0 : Int)))) (AV.raw (Value.int IntKind.i64 (List.getD u i (0 : Int))))) = true) ∧ ((okCr nets order ts) = true) ∧ ((fits IntKind.i64 (s + undR nets order ts (List.getD u k (0 : Int)) (List.getD u i (0 : Int)) (List.length nets))) = true) ∧ ((fits IntKind.i64 ((↑k : Int) + (1 : Int))) = true) ∧ ((nets) = (nets)) ∧ (((0 : Nat)) = ((0 : Nat))) ∧ ((s + undR nets order ts (List.getD u k (0 : Int)) (List.getD u i (0 : Int)) (List.length nets)) = (s + undR nets order ts (List.getD u k (0 : Int)) (List.getD u i (0 : Int)) (List.length nets))) ∧ ((u) = (u)) ∧ (((↑i : Int)) = ((↑i : Int))) ∧ (((↑k : Int) + (1 : Int)) = ((↑(k + (1 : Nat)) : Int))) ∧ (((order) = (order)) ∧ ((ts) = (ts)) ∧ True) ∧ True) := by kernel_rfl
  exact eTst.mpr ⟨decide_eq_true h1, ⟨same_refl (by kernel_rfl), ⟨decide_eq_true (by omega), ⟨decide_eq_true h2, ⟨same_refl (by kernel_rfl), ⟨decide_eq_true (by omega), ⟨decide_eq_true h3, ⟨same_refl (by kernel_rfl), ⟨h4, ⟨fits_i64 h5, ⟨fits_i64 h6, ⟨rfl, ⟨rfl, ⟨rfl, ⟨rfl, ⟨rfl, ⟨(by omega), ⟨⟨rfl, ⟨rfl, trivial⟩⟩, trivial⟩⟩⟩⟩⟩⟩⟩⟩⟩⟩⟩⟩⟩⟩⟩⟩⟩⟩
theorem cr_end (nets : List (Int × List Int)) (order ts u : List Int) (s : Int) (i k : Nat) (h1 : ¬(↑k : Int) < (↑i : Int)) :
    Tst.path (vall Tryz.prog crCs (fl BCr cK) (Scrk nets order ts u s i k)) [false] (toSt Tryz.prog 36 (.exit 2) [(64, 64, none)] (Scr nets order ts u s i)) := by
  have eTst : (Tst.path (vall Tryz.prog crCs (fl BCr cK) (Scrk nets order ts u s i k)) [false] (toSt Tryz.prog 36 (.exit 2) [(64, 64, none)] (Scr nets order ts u s i))) = (((decide ((↑k : Int) < (↑i : Int))) = false) ∧ ((nets) = (nets)) ∧ (((0 : Nat)) = ((0 : Nat))) ∧ ((s) = (s)) ∧ ((u) = (u)) ∧ (((↑i : Int)) = ((↑i : Int))) ∧ (((order) = (order)) ∧ ((ts) = (ts)) ∧ True) ∧ True) := by kernel_rfl
  exact eTst.mpr ⟨decide_eq_false h1, ⟨rfl, ⟨rfl, ⟨rfl, ⟨rfl, ⟨rfl, ⟨⟨rfl, ⟨rfl, trivial⟩⟩, trivial⟩⟩⟩⟩⟩⟩⟩
theorem cr_next (nets : List (Int × List Int)) (order ts u : List Int) (s : Int) (i : Nat) (h1 : -9223372036854775808 ≤ (↑i : Int) + (1 : Int) ∧ (↑i : Int) + (1 : Int) ≤ 9223372036854775807) :
    Tst.path (vall Tryz.prog crCs (List.drop 3 (fl BCr cO)) (Scr nets order ts u s i)) [] (toSt Tryz.prog 36 .normal [(64, 64, none)] (Scr nets order ts u s (i + 1))) := by
  have eTst : (Tst.path (vall Tryz.prog crCs (List.drop 3 (fl BCr cO)) (Scr nets order ts u s i)) [] (toSt Tryz.prog 36 .normal [(64, 64, none)] (Scr nets order ts u s (i + 1)))) = (((fits IntKind.i64 ((↑i : Int) + (1 : Int))) = true) ∧ ((nets) = (nets)) ∧ (((0 : Nat)) = ((0 : Nat))) ∧ ((s) = (s)) ∧ ((u) = (u)) ∧ (((↑i : Int) + (1 : Int)) = ((↑(i + (1 : Nat)) : Int))) ∧ (((order) = (order)) ∧ ((ts) = (ts)) ∧ True) ∧ True) := by kernel_rfl
  exact eTst.mpr ⟨fits_i64 h1, ⟨rfl, ⟨rfl, ⟨rfl, ⟨rfl, ⟨(by omega), ⟨⟨rfl, ⟨rfl, trivial⟩⟩, trivial⟩⟩⟩⟩⟩⟩⟩
theorem cr_ret (nets : List (Int × List Int)) (order ts u : List Int) (s : Int) (i : Nat)  :
    Tst.path (vall Tryz.prog crCs (List.drop 5 (fl BCr [])) (Scr nets order ts u s i)) [] (toRet Tryz.prog Tryz.f20 true (iv s)) := by
  have eTst : (Tst.path (vall Tryz.prog crCs (List.drop 5 (fl BCr [])) (Scr nets order ts u s i)) [] (toRet Tryz.prog Tryz.f20 true (iv s))) = ((s) = (s)) := by kernel_rfl
  exact eTst.mpr rfl
abbrev nilLay (j : Nat) : Nat × Ent := (j, .blk (.cells 29 [.raw (.slice none 0 0), .raw (.slice none 0 0)] true false false))
end
end Go.Proofs.YtbldpojkpmafpaaGreatDoor

/- Package bus: pairs and Bound as contracts on plain data: the ways of Bound. -/
namespace Go.Proofs.YtbldpojkpmafpaaGreatDoor
open Go.RowKit Sv
set_option maxRecDepth 100000
set_option linter.unusedVariables false
noncomputable section
abbrev tII : Ty := .list false (.int .i64)
abbrev llv (l : List (List Int)) : AV := .lst false (.list false (.int .i64)) l
def tabF (nets : List (Int × List Int)) (order ts : List Int) (a b : Int) : Int := tabI (extsOf nets order) ts (tapFrom (Bus.atUp order order.length) 0 (nets.map Prod.snd)) a b
def tabOf (nets : List (Int × List Int)) (order ts : List Int) : List (List Int) := (trkU ts).map fun a => (trkU ts).map fun b => tabF nets order ts a b
def okPr (nets : List (Int × List Int)) (order ts : List Int) : Bool := okLay nets order ts && decide (layErr nets order.length order ts = 0)
noncomputable def cPairs : Ctr := { f := 52, ps := [.list false (.pair (.int .i64) (.list false (.int .i64))), .pair (.list false (.int .i64)) (.list false (.int .i64))], rs := [.list false (.int .i64), .list false (.list false (.int .i64))], fresh := true, pre := fun d => okPr d.1 d.2.1.1 d.2.1.2, fn := fun d => (trkU d.2.1.2, (tabOf d.1 d.2.1.1 d.2.1.2, ())) }
theorem dens_pr {F : Env} {w : World} {nets : List (Int × List Int)} {order ts : List Int} {xs : List Value} (hF : OkF w F) (hg : GoodNets nets) (hd : Dens F [nv nets, yv order ts] xs) :
    ∃ (A A2 A3 : Option Addr) (c c2 c3 : Nat) (l : List NetAt), xs = [.slice A l.length c, .agg #[.slice A2 order.length c2, .slice A3 ts.length c3]] ∧ l.map NetAt.net = nets ∧ NetsIn w w.heap.size A l ∧ Row w w.heap.size A2 (ic order) ∧ Row w w.heap.size A3 (ic ts) := by
  cases hd with
  | cons d1 d2 =>
    cases d2 with
    | cons d3 d4 =>
      cases d4
      obtain ⟨A, c, l, rfl, h1, h2⟩ := den_nets hF hg d1
      obtain ⟨ys, e1, rfl⟩ := Den.agg_inv (cs := [lv order, lv ts]) d3
      cases e1 with
      | cons e1 e2 =>
        cases e2 with
        | cons e2 e3 =>
          cases e3
          obtain ⟨A2, c2, rfl, hc2, h3⟩ := den_ints hF e1
          obtain ⟨A3, c3, rfl, hc3, h4⟩ := den_ints hF e2
          exact ⟨A, A2, A3, c, c2, c3, l, rfl, h1, h2, h3, h4⟩
theorem row_of_blk {w : World} {b : Nat} {t : TypeId} {vs : List Value} (h : Blk w b t vs.toArray) : Row w w.heap.size (some ⟨b, 0, none⟩) vs := .inr ⟨b, 0, rfl, h.lt, fun i hi => by
  rw [Nat.zero_add, h.cell i]
  simp [List.getD_eq_getElem?_getD, hi]⟩
theorem rows_den {w' : World} {n0 : Nat} {at' : Nat → Option (Nat × Nat)} {us : List Int} {f : Int → Int → Int} {t : Nat} (ht : TabIs w' us (fun j => t + 2 + j) f) (hn : n0 ≤ t) :
    ∀ (k : Nat), k ≤ us.length → Dens ⟨at', fun b => if n0 ≤ b then cellsOf? w' b else none⟩ (Ty.flat tII ((us.take k).map fun a => us.map fun b => f a b)) ((List.range k).map (rowS t us.length))
  | 0, _ => .nil
  | k + 1, hk => by
    rw [take_next (show k < us.length by omega), List.map_append, Ty.flat_append, List.range_succ, List.map_append]
    refine (rows_den ht hn k (by omega)).append ?_
    have h1 := ht k (by omega)
    have e : (us.map fun b => Value.int .i64 (f (us.getD k 0) b)) = (us.map fun b => f (us.getD k 0) b).map (Value.int .i64) := by rw [List.map_map]; rfl
    rw [e] at h1
    have h2 := ints_den (n0 := n0) (at' := at') (c := us.length) (row_of_blk h1) (.inr fun b off h => by cases h; show n0 ≤ t + 2 + k; omega) (by simp)
    rw [List.length_map] at h2
    exact .cons h2 .nil
theorem pairs_holds (nets : List (Int × List Int)) (order ts : List Int) (h : okPr nets order ts = true) : Holds Tryz.prog true 52 [nv nets, yv order ts] (.tuple [lv (trkU ts), llv (tabOf nets order ts)]) := fun w F xs hF hd => by
  obtain ⟨h0, hE⟩ := Bool.and_eq_true_iff.1 h
  have hE := of_decide_eq_true hE
  obtain ⟨h1, h2, h3, h4, h5⟩ := okLay_iff h0
  have hB := both_of_lay hE
  have htl : ts.length = nets.length := by
    unfold layErr at hE
    rw [if_neg (fun g => g hB)] at hE
    by_cases g : ts.length ≠ nets.length
    · rw [if_pos g] at hE; cases hE
    · exact Classical.not_not.1 g
  obtain ⟨A, A2, A3, c, c2, c3, l, rfl, hl, hN, hR, hS⟩ := dens_pr hF h1 hd
  have hll : l.length = nets.length := by rw [← hl, List.length_map]
  have e1 : l.map NetAt.cols = nets.map Prod.snd := by rw [← hl, List.map_map]; rfl
  have hp := pairs_any A A2 A3 c c2 c3 w.heap.size l order ts order.length w hN hR hS (Nat.le_refl _) (by rw [hl]; exact hB) (by omega)
  rw [hl, e1] at hp
  refine hp.mono fun e w' ⟨U, cu, t, g1, g2, g3, g4, g5, g6⟩ => ?_
  obtain ⟨U', cu', eU, hcu, hr⟩ := own_cap g2
  cases eU
  have hd1 := ints_den (n0 := w.heap.size) (at' := F.at') hr (.inr (own_fresh g2)) hcu
  have hlen : (tabOf nets order ts).length = (trkU ts).length := by unfold tabOf; rw [List.length_map]
  have hrows := rows_den (n0 := w.heap.size) (at' := F.at') g5 g3 (trkU ts).length (Nat.le_refl _)
  rw [List.take_length] at hrows
  have hout : (outerS t (trkU ts).length (trkU ts).length) = (List.range (trkU ts).length).map (rowS t (trkU ts).length) := by unfold outerS; simp
  rw [hout] at g4
  have hd2 := fresh_den (n0 := w.heap.size) (at' := F.at') (t := tII) (xs := tabOf nets order ts) (c := (trkU ts).length) (row_of_blk g4) hrows (by decide) (.inr fun b off h => by cases h; omega) (by omega)
  rw [hlen] at hd2
  refine ⟨_, ⟨F.at', fun b => if w.heap.size ≤ b then cellsOf? w' b else none⟩, g1, .tuple (.cons hd1 (.cons hd2 .nil)), ⟨hF.glob, hF.all, fun b A hb => ?_⟩, fun b A hb => .inr ?_, g6⟩
  · have hb : (if w.heap.size ≤ b then cellsOf? w' b else none) = some A := hb
    split at hb
    · exact cellsOf?_some.1 hb
    · cases hb
  · have hb : (if w.heap.size ≤ b then cellsOf? w' b else none) = some A := hb
    split at hb
    · assumption
    · cases hb
theorem cPairs_ok : cPairs.Ok Tryz.prog := fun ⟨nets, ⟨order, ts⟩, _⟩ h => pairs_holds nets order ts h
end
end Go.Proofs.YtbldpojkpmafpaaGreatDoor

/- The best order of the columns, in plain Lean. -/
namespace Go.Proofs.YtbldpojkpmafpaaGreatDoor
open Go.RowKit Sv
set_option linter.unusedVariables false
section
variable {nets : List (Int × List Int)} {n : Int} {o : List Int}
abbrev manyI : Int := 1099511627776
abbrev numO (nets : List (Int × List Int)) (o : List Int) : Int := (((tracksOf (extsOf nets o)).1.length : Nat) : Int)
theorem tapF_bd (hE : Bus.bothErr nets n o = 0) (ts : List Int) (taps : List (Nat × Int)) (x : Nat) : 0 ≤ tapF (extsOf nets o) ts taps x ∧ tapF (extsOf nets o) ts taps x ≤ (64 : Nat) := by
  obtain ⟨n1, n97, l64, hcols⟩ := Bus.netsErr_zero (both_iff.1 hE).1
  unfold tapF
  have := crossUp_lo (extsOf nets o) ts (taps.getD x (0, 0)).1 (taps.getD x (0, 0)).2 (extsOf nets o).length
  have := extsOf_len nets o
  omega
theorem cross_full (hE : Bus.bothErr nets n o = 0) (ts : List Int) : crossOf nets o ts manyI = 0 + isum ((List.range (tapFrom (Bus.atUp o o.length) 0 (nets.map Prod.snd)).length).map (tapF (extsOf nets o) ts (tapFrom (Bus.atUp o o.length) 0 (nets.map Prod.snd)))) := by
  rw [show manyI = 1099511627776 from rfl, cross_sum hE, Int.zero_add]
  unfold crossSum
  rw [← range_getD]
  rfl
theorem cross_bd (hE : Bus.bothErr nets n o = 0) (ts : List Int) : 0 ≤ crossOf nets o ts manyI ∧ crossOf nets o ts manyI ≤ 397312 := by
  have hf := tapF_bd hE ts (tapFrom (Bus.atUp o o.length) 0 (nets.map Prod.snd))
  have h := isum_bd _ 64 hf (List.range (tapFrom (Bus.atUp o o.length) 0 (nets.map Prod.snd)).length)
  have hT := taps_few (l := mkNets nets) (n := n) (by rw [mkNets_net]; exact (both_iff.1 hE).1) (Bus.atUp o o.length)
  have e : (mkNets nets).map NetAt.cols = nets.map Prod.snd := by
    have : (mkNets nets).map NetAt.cols = ((mkNets nets).map NetAt.net).map Prod.snd := by rw [List.map_map]; rfl
    rw [this, mkNets_net]
  rw [e] at hT
  rw [cross_full hE, Int.zero_add]
  have hb : (List.range (tapFrom (Bus.atUp o o.length) 0 (nets.map Prod.snd)).length).length * 64 ≤ 6208 * 64 := Nat.mul_le_mul_right _ (by rw [List.length_range]; exact hT)
  omega
theorem ext_ne (m : Nat) : ext m m [] ≠ [] := fun h => by
  have : ((List.range m).map fun (k : Nat) => (k : Int)) ∈ ext m m [] := (ord_mem m _).2 ⟨by simp, fun x hx => by
    obtain ⟨k, hk, rfl⟩ := List.mem_map.1 hx
    have := List.mem_range.1 hk
    omega, nodup_map_cast m⟩
  rw [h] at this
  cases this
end
end Go.Proofs.YtbldpojkpmafpaaGreatDoor
