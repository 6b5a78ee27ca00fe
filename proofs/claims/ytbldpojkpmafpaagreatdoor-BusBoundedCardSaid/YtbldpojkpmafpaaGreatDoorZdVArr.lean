/- Package bus: Arrange. -/
import Derived.Test.YtbldpojkpmafpaaGreatDoorZdVRng
import Derived.Test.YtbldpojkpmafpaaGreatDoorZdVCr
import Derived.Test.YtbldpojkpmafpaaGreatDoorZdVPairLaw
import Derived.Test.YtbldpojkpmafpaaGreatDoorZdVRef7
import Derived.Test.YtbldpojkpmafpaaGreatDoorZdVArrLaw
import Derived.Test.YtbldpojkpmafpaaGreatDoorZdBusLaw2
import Derived.Test.YtbldpojkpmafpaaGreatDoorZdOrders
namespace Go.Proofs.YtbldpojkpmafpaaGreatDoor
open Go.RowKit Sv
attribute [local go_sem] Oper.semAt_some
set_option maxRecDepth 100000
set_option linter.unusedVariables false
noncomputable section
noncomputable def cClone : Ctr := { f := 53, ps := [.list false (.int .i64)], rs := [.list false (.int .i64)], fresh := true, pre := fun d => decide (List.length (α := Int) d.1 ≤ 1000000), fn := fun d => (d.1, ()) }
def ixU (u : List Int) (t : Int) : Int := Lib.idxOf u t
def usU (ts : List Int) : List Int := trkU ts
noncomputable def cIx : Ctr := { f := 61, ps := [.list false (.int .i64), .int .i64], rs := [.int .i64], fresh := true, pre := fun d => decide (List.length (α := Int) d.1 ≤ 1000000), fn := fun d => (ixU d.1 d.2.1, ()) }
noncomputable def cPr : Ctr := { f := 52, ps := [.list false (.pair (.int .i64) (.list false (.int .i64))), .pair (.list false (.int .i64)) (.list false (.int .i64))], rs := [.list false (.int .i64), .list false (.list false (.int .i64))], fresh := true, pre := fun d => okPr d.1 d.2.1.1 d.2.1.2, fn := fun d => (usU d.2.1.2, (tabOf d.1 d.2.1.1 d.2.1.2, ())) }
def BAr : Code := (Tryz.f28.body).getD .skip
def arCs : VCaller := ctrs [cLayB, cPr, cIx, cCmp, cClone]
def gB : List Nat := [1, 1, 1, 1, 1, 1, 0, 1, 0, 1]
def gC : List Nat := [1, 1, 1, 1, 1, 1, 0, 1, 0, 1, 0]
def gA : List Nat := [1, 1, 1, 1, 1, 1, 0, 1, 0, 1, 0, 1, 0, 1, 0, 0]
def gI : List Nat := [1, 1, 1, 1, 1, 1, 0, 1, 0, 1, 0, 1, 0, 1, 0, 0, 1, 1, 0, 0]
def gK : List Nat := [1, 1, 1, 1, 1, 1, 0, 1, 0, 1, 0, 1, 0, 1, 0, 0, 1, 1, 0, 0, 1, 1, 0, 0]
def gT : List Nat := [1, 1, 1, 1, 1, 1, 0, 1, 0, 1, 0, 1, 1, 1, 0, 1, 0, 0]
abbrev lsE (j : Nat) (l : List Int) : Nat × Ent := (j, .blk (.cells 24 [lv l] true false false))
abbrev llE (j : Nat) (l : List (List Int)) : Nat × Ent := (j, .blk (.cells 80 [llv l] true false false))
abbrev inE (j : Nat) (x : Int) : Nat × Ent := (j, .blk (.cells 3 [iv x] true false false))
abbrev enA (o ts : List Int) (u : List Int) (tab : List (List Int)) (b : List Int) (c : Int) : List (Nat × Ent) := [layE 64 o ts, nilLay 65, lsE 66 u, llE 67 tab, lsE 68 b, inE 69 c]
abbrev slA : List (Nat × AV) := [(5, .ptr 64 0), (6, .ptr 65 0), (9, .ptr 66 0), (10, .ptr 67 0), (11, .ptr 68 0), (12, .ptr 69 0)]
def SAs (o ts u : List Int) (tab : List (List Int)) : St := { n := 110, sl := [(5, .ptr 64 0), (6, .ptr 65 0), (9, .ptr 66 0), (10, .ptr 67 0), (11, .ptr 68 0), (12, .ptr 69 0), (40, .func (.func 86) [] [.ptr 70 0])], en := [layE 64 o ts, nilLay 65, lsE 66 u, llE 67 tab, (68, .blk (.cells 24 [.raw (.slice none 0 0)] true false false)), inE 69 manyI, inE 70 u.length], next := 71 }
def SA (o ts u : List Int) (tab : List (List Int)) (b : List Int) (c : Int) : St := { n := 110, sl := slA, en := enA o ts u tab b c, next := 70 }
def SAr (o ts u : List Int) (tab : List (List Int)) (b : List Int) (c : Int) (to : List Int) : St := { n := 110, sl := [(5, .ptr 64 0), (6, .ptr 65 0), (9, .ptr 66 0), (10, .ptr 67 0), (11, .ptr 68 0), (12, .ptr 69 0), (13, lv to), (41, lv to)], en := enA o ts u tab b c, next := 70 }
def SAa (o ts u : List Int) (tab : List (List Int)) (b : List Int) (c : Int) (to : List Int) (s : Int) (i : Nat) : St := { n := 110, sl := [(5, .ptr 64 0), (6, .ptr 65 0), (9, .ptr 66 0), (10, .ptr 67 0), (11, .ptr 68 0), (12, .ptr 69 0), (13, lv to), (14, iv s), (43, iv u.length), (44, iv i)], en := enA o ts u tab b c, next := 70 }
def SAb (o ts u : List Int) (tab : List (List Int)) (b : List Int) (c : Int) (to : List Int) (s : Int) (i k : Nat) : St := { n := 110, sl := [(5, .ptr 64 0), (6, .ptr 65 0), (9, .ptr 66 0), (10, .ptr 67 0), (11, .ptr 68 0), (12, .ptr 69 0), (13, lv to), (14, iv s), (15, iv i), (43, iv u.length), (44, iv i), (48, iv u.length), (49, iv k)], en := enA o ts u tab b c, next := 70 }
def SAt (o ts u : List Int) (tab : List (List Int)) (b : List Int) (c : Int) (to : List Int) (s : Int) (tr : List Int) (i : Nat) : St := { n := 110, sl := [(5, .ptr 64 0), (6, .ptr 65 0), (9, .ptr 66 0), (10, .ptr 67 0), (11, .ptr 68 0), (12, .ptr 69 0), (13, lv to), (14, iv s), (17, ob 70 tr), (73, lv ts), (74, iv ts.length), (75, iv i)], en := [layE 64 o ts, nilLay 65, lsE 66 u, llE 67 tab, lsE 68 b, inE 69 c, (70, oe tr)], next := 71 }
def SAf (o ts u : List Int) (tab : List (List Int)) (b : List Int) (c : Int) (s : Int) (tr : List Int) : St := { n := 110, sl := [(5, .ptr 64 0), (6, .ptr 65 0), (9, .ptr 66 0), (10, .ptr 67 0), (11, .ptr 68 0), (12, .ptr 69 0), (14, iv s), (17, lv tr)], en := enA o ts u tab b c, next := 70 }
abbrev pinA : Ren := [(64, 64, none), (65, 65, none), (66, 66, none), (67, 67, none), (68, 68, none), (69, 69, none)]
theorem ar_bad (nets : List (Int × List Int)) (n : Int) (o ts : List Int) (h1 : (okLay nets o ts) = true) (h2 : ¬layErr nets n o ts = (0 : Int)) :
    Tst.path (vrun0 Tryz.prog arCs (fl BAr []) 10 110 [nv nets, iv n, yv o ts]) [true] (toRet Tryz.prog Tryz.f28 false (.tuple [yv [] [], iv (layErr nets n o ts)])) := by
  have eTst : (Tst.path (vrun0 Tryz.prog arCs (fl BAr []) 10 110 [nv nets, iv n, yv o ts]) [true] (toRet Tryz.prog Tryz.f28 false (.tuple [yv [] [], iv (layErr nets n o ts)]))) = (((okLay nets o ts) = true) ∧ ((layErr nets n o ts != (0 : Int)) = true) ∧ (((nilI) = ([])) ∧ ((nilI) = ([])) ∧ True) ∧ ((layErr nets n o ts) = (layErr nets n o ts)) ∧ True) := by kernel_rfl
  exact eTst.mpr ⟨h1, ⟨bne_iff_ne.mpr h2, ⟨⟨rfl, ⟨rfl, trivial⟩⟩, ⟨rfl, trivial⟩⟩⟩⟩
theorem ar_wide (nets : List (Int × List Int)) (n : Int) (o ts : List Int) (h1 : (okLay nets o ts) = true) (h2 : layErr nets n o ts = (0 : Int)) (h3 : (okPr nets o ts) = true) (h4 : (↑(List.length (usU ts)) : Int) > (7 : Int)) :
    Tst.path (vrun0 Tryz.prog arCs (fl BAr []) 10 110 [nv nets, iv n, yv o ts]) [false, true] (toRet Tryz.prog Tryz.f28 false (.tuple [yv [] [], iv 21])) := by
  have eTst : (Tst.path (vrun0 Tryz.prog arCs (fl BAr []) 10 110 [nv nets, iv n, yv o ts]) [false, true] (toRet Tryz.prog Tryz.f28 false (.tuple [yv [] [], iv 21]))) = (((okLay nets o ts) = true) ∧ ((layErr nets n o ts != (0 : Int)) = false) ∧ ((okPr nets o ts) = true) ∧ ((decide ((↑(List.length (usU ts)) : Int) > (7 : Int))) = true) ∧ (((nilI) = ([])) ∧ ((nilI) = ([])) ∧ True) ∧ (((21 : Int)) = ((21 : Int))) ∧ True) := by kernel_rfl
  exact eTst.mpr ⟨h1, ⟨bne_eq_false_iff_eq.mpr h2, ⟨h3, ⟨decide_eq_true h4, ⟨⟨rfl, ⟨rfl, trivial⟩⟩, ⟨rfl, trivial⟩⟩⟩⟩⟩⟩
theorem ar_start (nets : List (Int × List Int)) (n : Int) (o ts : List Int) (h1 : (okLay nets o ts) = true) (h2 : layErr nets n o ts = (0 : Int)) (h3 : (okPr nets o ts) = true) (h4 : ¬(↑(List.length (usU ts)) : Int) > (7 : Int)) :
    Tst.path (vrun0 Tryz.prog arCs (fl BAr []) 10 110 [nv nets, iv n, yv o ts]) [false, false] (toSt Tryz.prog 110 .normal [(64, 64, none), (65, 65, none), (66, 66, none), (67, 67, none), (68, 68, none), (69, 69, none), (70, 70, none)] (SAs o ts (usU ts) (tabOf nets o ts))) := by
  have eTst : (Tst.path (vrun0 Tryz.prog arCs (fl BAr []) 10 110 [nv nets, iv n, yv o ts]) [false, false] (toSt Tryz.prog 110 .normal [(64, 64, none), (65, 65, none), (66, 66, none), (67, 67, none), (68, 68, none), (69, 69, none), (70, 70, none)] (SAs o ts (usU ts) (tabOf nets o ts)))) = (((okLay nets o ts) = true) ∧ ((layErr nets n o ts != (0 : Int)) = false) ∧ ((okPr nets o ts) = true) ∧ ((decide ((↑(List.length (usU ts)) : Int) > (7 : Int))) = false) ∧ (((0 : Nat)) = ((0 : Nat))) ∧ (((0 : Nat)) = ((0 : Nat))) ∧ (((0 : Nat)) = ((0 : Nat))) ∧ (((0 : Nat)) = ((0 : Nat))) ∧ (((0 : Nat)) = ((0 : Nat))) ∧ (((0 : Nat)) = ((0 : Nat))) ∧ ((True) ∧ (((0 : Nat)) = ((0 : Nat))) ∧ True) ∧ (((o) = (o)) ∧ ((ts) = (ts)) ∧ True) ∧ (((Value.slice none (0 : Nat) (0 : Nat)) = (Value.slice none (0 : Nat) (0 : Nat))) ∧ ((Value.slice none (0 : Nat) (0 : Nat)) = (Value.slice none (0 : Nat) (0 : Nat))) ∧ True) ∧ (((usU ts) = (usU ts)) ∧ True) ∧ (((tabOf nets o ts) = (tabOf nets o ts)) ∧ True) ∧ (((Value.slice none (0 : Nat) (0 : Nat)) = (Value.slice none (0 : Nat) (0 : Nat))) ∧ True) ∧ ((((1099511627776 : Int)) = ((1099511627776 : Int))) ∧ True) ∧ ((((↑(List.length (usU ts)) : Int)) = ((↑(List.length (usU ts)) : Int))) ∧ True) ∧ True) := by kernel_rfl
  exact eTst.mpr ⟨h1, ⟨bne_eq_false_iff_eq.mpr h2, ⟨h3, ⟨decide_eq_false h4, ⟨rfl, ⟨rfl, ⟨rfl, ⟨rfl, ⟨rfl, ⟨rfl, ⟨⟨trivial, ⟨rfl, trivial⟩⟩, ⟨⟨rfl, ⟨rfl, trivial⟩⟩, ⟨⟨rfl, ⟨rfl, trivial⟩⟩, ⟨⟨rfl, trivial⟩, ⟨⟨rfl, trivial⟩, ⟨⟨rfl, trivial⟩, ⟨⟨rfl, trivial⟩, ⟨⟨rfl, trivial⟩, trivial⟩⟩⟩⟩⟩⟩⟩⟩⟩⟩⟩⟩⟩⟩⟩⟩⟩⟩
theorem ar_fit0 (o ts u : List Int) (tab : List (List Int))  :
    Tst.path ((Tst.ret (R.normal (SAs o ts u tab).T ((SAs o ts u tab).H.drop 70) []) : Tst R)) [] (toSt Tryz.prog 110 .normal pinA (SA o ts u tab [] manyI)) := by
  have eTst : (Tst.path ((Tst.ret (R.normal (SAs o ts u tab).T ((SAs o ts u tab).H.drop 70) []) : Tst R)) [] (toSt Tryz.prog 110 .normal pinA (SA o ts u tab [] manyI))) = ((((0 : Nat)) = ((0 : Nat))) ∧ (((0 : Nat)) = ((0 : Nat))) ∧ (((0 : Nat)) = ((0 : Nat))) ∧ (((0 : Nat)) = ((0 : Nat))) ∧ (((0 : Nat)) = ((0 : Nat))) ∧ (((0 : Nat)) = ((0 : Nat))) ∧ (((o) = (o)) ∧ ((ts) = (ts)) ∧ True) ∧ (((Value.slice none (0 : Nat) (0 : Nat)) = (Value.slice none (0 : Nat) (0 : Nat))) ∧ ((Value.slice none (0 : Nat) (0 : Nat)) = (Value.slice none (0 : Nat) (0 : Nat))) ∧ True) ∧ (((u) = (u)) ∧ True) ∧ (((tab) = (tab)) ∧ True) ∧ (((nilI) = ([])) ∧ True) ∧ ((((1099511627776 : Int)) = ((1099511627776 : Int))) ∧ True) ∧ True) := by kernel_rfl
  exact eTst.mpr ⟨rfl, ⟨rfl, ⟨rfl, ⟨rfl, ⟨rfl, ⟨rfl, ⟨⟨rfl, ⟨rfl, trivial⟩⟩, ⟨⟨rfl, ⟨rfl, trivial⟩⟩, ⟨⟨rfl, trivial⟩, ⟨⟨rfl, trivial⟩, ⟨⟨rfl, trivial⟩, ⟨⟨rfl, trivial⟩, trivial⟩⟩⟩⟩⟩⟩⟩⟩⟩⟩⟩⟩
theorem ar_a0 (o ts u : List Int) (tab : List (List Int)) (b : List Int) (c : Int) (to : List Int)  :
    Tst.path (vrun Tryz.prog arCs (fl BAr gC) 2 (SAr o ts u tab b c to)) [] (toSt Tryz.prog 110 .normal pinA (SAa o ts u tab b c to 0 0)) := by
  have eTst : (Tst.path (vrun Tryz.prog arCs (fl BAr gC) 2 (SAr o ts u tab b c to)) [] (toSt Tryz.prog 110 .normal pinA (SAa o ts u tab b c to 0 0))) = ((((0 : Nat)) = ((0 : Nat))) ∧ (((0 : Nat)) = ((0 : Nat))) ∧ (((0 : Nat)) = ((0 : Nat))) ∧ (((0 : Nat)) = ((0 : Nat))) ∧ (((0 : Nat)) = ((0 : Nat))) ∧ (((0 : Nat)) = ((0 : Nat))) ∧ ((to) = (to)) ∧ (((0 : Int)) = ((0 : Int))) ∧ (((↑(List.length u) : Int)) = ((↑(List.length u) : Int))) ∧ (((0 : Int)) = ((↑(0 : Nat) : Int))) ∧ (((o) = (o)) ∧ ((ts) = (ts)) ∧ True) ∧ (((Value.slice none (0 : Nat) (0 : Nat)) = (Value.slice none (0 : Nat) (0 : Nat))) ∧ ((Value.slice none (0 : Nat) (0 : Nat)) = (Value.slice none (0 : Nat) (0 : Nat))) ∧ True) ∧ (((u) = (u)) ∧ True) ∧ (((tab) = (tab)) ∧ True) ∧ (((b) = (b)) ∧ True) ∧ (((c) = (c)) ∧ True) ∧ True) := by kernel_rfl
  exact eTst.mpr ⟨rfl, ⟨rfl, ⟨rfl, ⟨rfl, ⟨rfl, ⟨rfl, ⟨rfl, ⟨rfl, ⟨rfl, ⟨rfl, ⟨⟨rfl, ⟨rfl, trivial⟩⟩, ⟨⟨rfl, ⟨rfl, trivial⟩⟩, ⟨⟨rfl, trivial⟩, ⟨⟨rfl, trivial⟩, ⟨⟨rfl, trivial⟩, ⟨⟨rfl, trivial⟩, trivial⟩⟩⟩⟩⟩⟩⟩⟩⟩⟩⟩⟩⟩⟩⟩⟩
theorem ar_go (o ts u : List Int) (tab : List (List Int)) (b : List Int) (c : Int) (to : List Int) (s : Int) (i : Nat) (h1 : (↑i : Int) < (↑(List.length u) : Int)) :
    Tst.path (vrun Tryz.prog arCs (fl BAr gA) 2 (SAa o ts u tab b c to s i)) [true] (toSt Tryz.prog 110 .normal pinA (SAa o ts u tab b c to s i)) := by
  have eTst : (Tst.path (vrun Tryz.prog arCs (fl BAr gA) 2 (SAa o ts u tab b c to s i)) [true] (toSt Tryz.prog 110 .normal pinA (SAa o ts u tab b c to s i))) = (((decide ((↑i : Int) < (↑(List.length u) : Int))) = true) ∧ (((0 : Nat)) = ((0 : Nat))) ∧ (((0 : Nat)) = ((0 : Nat))) ∧ (((0 : Nat)) = ((0 : Nat))) ∧ (((0 : Nat)) = ((0 : Nat))) ∧ (((0 : Nat)) = ((0 : Nat))) ∧ (((0 : Nat)) = ((0 : Nat))) ∧ ((to) = (to)) ∧ ((s) = (s)) ∧ (((↑(List.length u) : Int)) = ((↑(List.length u) : Int))) ∧ (((↑i : Int)) = ((↑i : Int))) ∧ (((o) = (o)) ∧ ((ts) = (ts)) ∧ True) ∧ (((Value.slice none (0 : Nat) (0 : Nat)) = (Value.slice none (0 : Nat) (0 : Nat))) ∧ ((Value.slice none (0 : Nat) (0 : Nat)) = (Value.slice none (0 : Nat) (0 : Nat))) ∧ True) ∧ (((u) = (u)) ∧ True) ∧ (((tab) = (tab)) ∧ True) ∧ (((b) = (b)) ∧ True) ∧ (((c) = (c)) ∧ True) ∧ True) := by kernel_rfl
  exact eTst.mpr ⟨decide_eq_true h1, ⟨rfl, ⟨rfl, ⟨rfl, ⟨rfl, ⟨rfl, ⟨rfl, ⟨rfl, ⟨rfl, ⟨rfl, ⟨rfl, ⟨⟨rfl, ⟨rfl, trivial⟩⟩, ⟨⟨rfl, ⟨rfl, trivial⟩⟩, ⟨⟨rfl, trivial⟩, ⟨⟨rfl, trivial⟩, ⟨⟨rfl, trivial⟩, ⟨⟨rfl, trivial⟩, trivial⟩⟩⟩⟩⟩⟩⟩⟩⟩⟩⟩⟩⟩⟩⟩⟩⟩
theorem ar_stop (o ts u : List Int) (tab : List (List Int)) (b : List Int) (c : Int) (to : List Int) (s : Int) (i : Nat) (h1 : ¬(↑i : Int) < (↑(List.length u) : Int)) :
    Tst.path (vrun Tryz.prog arCs (fl BAr gA) 2 (SAa o ts u tab b c to s i)) [false] (toSt Tryz.prog 110 (.exit 2) pinA (SAa o ts u tab b c to s i)) := by
  have eTst : (Tst.path (vrun Tryz.prog arCs (fl BAr gA) 2 (SAa o ts u tab b c to s i)) [false] (toSt Tryz.prog 110 (.exit 2) pinA (SAa o ts u tab b c to s i))) = (((decide ((↑i : Int) < (↑(List.length u) : Int))) = false) ∧ (((0 : Nat)) = ((0 : Nat))) ∧ (((0 : Nat)) = ((0 : Nat))) ∧ (((0 : Nat)) = ((0 : Nat))) ∧ (((0 : Nat)) = ((0 : Nat))) ∧ (((0 : Nat)) = ((0 : Nat))) ∧ (((0 : Nat)) = ((0 : Nat))) ∧ ((to) = (to)) ∧ ((s) = (s)) ∧ (((↑(List.length u) : Int)) = ((↑(List.length u) : Int))) ∧ (((↑i : Int)) = ((↑i : Int))) ∧ (((o) = (o)) ∧ ((ts) = (ts)) ∧ True) ∧ (((Value.slice none (0 : Nat) (0 : Nat)) = (Value.slice none (0 : Nat) (0 : Nat))) ∧ ((Value.slice none (0 : Nat) (0 : Nat)) = (Value.slice none (0 : Nat) (0 : Nat))) ∧ True) ∧ (((u) = (u)) ∧ True) ∧ (((tab) = (tab)) ∧ True) ∧ (((b) = (b)) ∧ True) ∧ (((c) = (c)) ∧ True) ∧ True) := by kernel_rfl
  exact eTst.mpr ⟨decide_eq_false h1, ⟨rfl, ⟨rfl, ⟨rfl, ⟨rfl, ⟨rfl, ⟨rfl, ⟨rfl, ⟨rfl, ⟨rfl, ⟨rfl, ⟨⟨rfl, ⟨rfl, trivial⟩⟩, ⟨⟨rfl, ⟨rfl, trivial⟩⟩, ⟨⟨rfl, trivial⟩, ⟨⟨rfl, trivial⟩, ⟨⟨rfl, trivial⟩, ⟨⟨rfl, trivial⟩, trivial⟩⟩⟩⟩⟩⟩⟩⟩⟩⟩⟩⟩⟩⟩⟩⟩⟩
theorem ar_in (o ts u : List Int) (tab : List (List Int)) (b : List Int) (c : Int) (to : List Int) (s : Int) (i : Nat)  :
    Tst.path (vrun Tryz.prog arCs (fl BAr gI) 2 (SAa o ts u tab b c to s i)) [] (toSt Tryz.prog 110 .normal pinA (SAb o ts u tab b c to s i 0)) := by
  have eTst : (Tst.path (vrun Tryz.prog arCs (fl BAr gI) 2 (SAa o ts u tab b c to s i)) [] (toSt Tryz.prog 110 .normal pinA (SAb o ts u tab b c to s i 0))) = ((((0 : Nat)) = ((0 : Nat))) ∧ (((0 : Nat)) = ((0 : Nat))) ∧ (((0 : Nat)) = ((0 : Nat))) ∧ (((0 : Nat)) = ((0 : Nat))) ∧ (((0 : Nat)) = ((0 : Nat))) ∧ (((0 : Nat)) = ((0 : Nat))) ∧ ((to) = (to)) ∧ ((s) = (s)) ∧ (((↑i : Int)) = ((↑i : Int))) ∧ (((↑(List.length u) : Int)) = ((↑(List.length u) : Int))) ∧ (((↑i : Int)) = ((↑i : Int))) ∧ (((↑(List.length u) : Int)) = ((↑(List.length u) : Int))) ∧ (((0 : Int)) = ((↑(0 : Nat) : Int))) ∧ (((o) = (o)) ∧ ((ts) = (ts)) ∧ True) ∧ (((Value.slice none (0 : Nat) (0 : Nat)) = (Value.slice none (0 : Nat) (0 : Nat))) ∧ ((Value.slice none (0 : Nat) (0 : Nat)) = (Value.slice none (0 : Nat) (0 : Nat))) ∧ True) ∧ (((u) = (u)) ∧ True) ∧ (((tab) = (tab)) ∧ True) ∧ (((b) = (b)) ∧ True) ∧ (((c) = (c)) ∧ True) ∧ True) := by kernel_rfl
  exact eTst.mpr ⟨rfl, ⟨rfl, ⟨rfl, ⟨rfl, ⟨rfl, ⟨rfl, ⟨rfl, ⟨rfl, ⟨rfl, ⟨rfl, ⟨rfl, ⟨rfl, ⟨rfl, ⟨⟨rfl, ⟨rfl, trivial⟩⟩, ⟨⟨rfl, ⟨rfl, trivial⟩⟩, ⟨⟨rfl, trivial⟩, ⟨⟨rfl, trivial⟩, ⟨⟨rfl, trivial⟩, ⟨⟨rfl, trivial⟩, trivial⟩⟩⟩⟩⟩⟩⟩⟩⟩⟩⟩⟩⟩⟩⟩⟩⟩⟩⟩
theorem ar_add (o ts u : List Int) (tab : List (List Int)) (b : List Int) (c : Int) (to : List Int) (s : Int) (i k : Nat) (h1 : (↑k : Int) < (↑(List.length u) : Int)) (h2 : i < List.length to) (h3 : k < List.length to) (h4 : List.getD to i (0 : Int) < List.getD to k (0 : Int)) (h5 : i < List.length tab) (h6 : k < List.length (List.getD tab i [])) (h7 : -9223372036854775808 ≤ s + List.getD (List.getD tab i []) k (0 : Int) ∧ s + List.getD (List.getD tab i []) k (0 : Int) ≤ 9223372036854775807) (h8 : -9223372036854775808 ≤ (↑k : Int) + (1 : Int) ∧ (↑k : Int) + (1 : Int) ≤ 9223372036854775807) :
    Tst.path (vall Tryz.prog arCs (fl BAr gK) (SAb o ts u tab b c to s i k)) [true, true] (toSt Tryz.prog 110 .normal pinA (SAb o ts u tab b c to (s + (tab.getD i []).getD k 0) i (k + 1))) := by
  have eTst : (Tst.path (vall Tryz.prog arCs (fl BAr gK) (SAb o ts u tab b c to s i k)) [true, true] (toSt Tryz.prog 110 .normal pinA (SAb o ts u tab b c to (s + (tab.getD i []).getD k 0) i (k + 1)))) = (((decide ((↑k : Int) < (↑(List.length u) : Int))) = true) ∧ ((decide ((0 : Int) ≤ (↑i : Int))) = true) ∧ ((decide (i < List.length to)) = true) ∧ ((AV.same (AV.raw (Value.int IntKind.i64 (List.getD to i (0 : Int)))) (AV.raw (Value.int IntKind.i64 (List.getD to i (0 : Int))))) = true) ∧ ((decide ((0 : Int) ≤ (↑k : Int))) = true) ∧ ((decide (k < List.length to)) = true) ∧ ((AV.same (AV.raw (Value.int IntKind.i64 (List.getD to k (0 : Int)))) (AV.raw (Value.int IntKind.i64 (List.getD to k (0 : Int))))) = true) ∧ ((decide (List.getD to i (0 : Int) < List.getD to k (0 : Int))) = true) ∧ ((decide ((0 : Int) ≤ (↑i : Int))) = true) ∧ ((decide (i < List.length tab)) = true) ∧ ((decide ((0 : Int) ≤ (↑k : Int))) = true) ∧ ((decide (k < List.length (List.getD tab i []))) = true) ∧ ((fits IntKind.i64 (s + List.getD (List.getD tab i []) k (0 : Int))) = true) ∧ ((fits IntKind.i64 ((↑k : Int) + (1 : Int))) = true) ∧ (((0 : Nat)) = ((0 : Nat))) ∧ (((0 : Nat)) = ((0 : Nat))) ∧ (((0 : Nat)) = ((0 : Nat))) ∧ (((0 : Nat)) = ((0 : Nat))) ∧ (((0 : Nat)) = ((0 : Nat))) ∧ (((0 : Nat)) = ((0 : Nat))) ∧ ((to) = (to)) ∧ ((s + List.getD (List.getD tab i []) k (0 : Int)) = (s + List.getD (List.getD tab i []) k (0 : Int))) ∧ (((↑i : Int)) = ((↑i : Int))) ∧ (((↑(List.length u) : Int)) = ((↑(List.length u) : Int))) ∧ (((↑i : Int)) = ((↑i : Int))) ∧ (((↑(List.length u) : Int)) = ((↑(List.length u) : Int))) ∧ (((↑k : Int) + (1 : Int)) = ((↑(k + (1 : Nat)) : Int))) ∧ (((o) = (o)) ∧ ((ts) = (ts)) ∧ True) ∧ (((Value.slice none (0 : Nat) (0 : Nat)) = (Value.slice none (0 : Nat) (0 : Nat))) ∧ ((Value.slice none (0 : Nat) (0 : Nat)) = (Value.slice none (0 : Nat) (0 : Nat))) ∧ True) ∧ (((u) = (u)) ∧ True) ∧ (((tab) = (tab)) ∧ True) ∧ (((b) = (b)) ∧ True) ∧ (((c) = (c)) ∧ True) ∧ True) := by kernel_rfl
  exact eTst.mpr ⟨decide_eq_true h1, ⟨decide_eq_true (by omega), ⟨decide_eq_true h2, ⟨same_refl (by kernel_rfl), ⟨decide_eq_true (by omega), ⟨decide_eq_true h3, ⟨same_refl (by kernel_rfl), ⟨decide_eq_true h4, ⟨decide_eq_true (by omega), ⟨decide_eq_true h5, ⟨decide_eq_true (by omega), ⟨decide_eq_true h6, ⟨fits_i64 h7, ⟨fits_i64 h8, ⟨rfl, ⟨rfl, ⟨rfl, ⟨rfl, ⟨rfl, ⟨rfl, ⟨rfl, ⟨rfl, ⟨rfl, ⟨rfl, ⟨rfl, ⟨rfl, ⟨(by omega), ⟨⟨rfl, ⟨rfl, trivial⟩⟩, ⟨⟨rfl, ⟨rfl, trivial⟩⟩, ⟨⟨rfl, trivial⟩, ⟨⟨rfl, trivial⟩, ⟨⟨rfl, trivial⟩, ⟨⟨rfl, trivial⟩, trivial⟩⟩⟩⟩⟩⟩⟩⟩⟩⟩⟩⟩⟩⟩⟩⟩⟩⟩⟩⟩⟩⟩⟩⟩⟩⟩⟩⟩⟩⟩⟩⟩⟩
theorem ar_no (o ts u : List Int) (tab : List (List Int)) (b : List Int) (c : Int) (to : List Int) (s : Int) (i k : Nat) (h1 : (↑k : Int) < (↑(List.length u) : Int)) (h2 : i < List.length to) (h3 : k < List.length to) (h4 : ¬List.getD to i (0 : Int) < List.getD to k (0 : Int)) (h5 : -9223372036854775808 ≤ (↑k : Int) + (1 : Int) ∧ (↑k : Int) + (1 : Int) ≤ 9223372036854775807) :
    Tst.path (vall Tryz.prog arCs (fl BAr gK) (SAb o ts u tab b c to s i k)) [true, false] (toSt Tryz.prog 110 .normal pinA (SAb o ts u tab b c to s i (k + 1))) := by
  have eTst : (Tst.path (vall Tryz.prog arCs (fl BAr gK) (SAb o ts u tab b c to s i k)) [true, false] (toSt Tryz.prog 110 .normal pinA (SAb o ts u tab b c to s i (k + 1)))) = (((decide ((↑k : Int) < (↑(List.length u) : Int))) = true) ∧ ((decide ((0 : Int) ≤ (↑i : Int))) = true) ∧ ((decide (i < List.length to)) = true) ∧ ((AV.same (AV.raw (Value.int IntKind.i64 (List.getD to i (0 : Int)))) (AV.raw (Value.int IntKind.i64 (List.getD to i (0 : Int))))) = true) ∧ ((decide ((0 : Int) ≤ (↑k : Int))) = true) ∧ ((decide (k < List.length to)) = true) ∧ ((AV.same (AV.raw (Value.int IntKind.i64 (List.getD to k (0 : Int)))) (AV.raw (Value.int IntKind.i64 (List.getD to k (0 : Int))))) = true) ∧ ((decide (List.getD to i (0 : Int) < List.getD to k (0 : Int))) = false) ∧ ((fits IntKind.i64 ((↑k : Int) + (1 : Int))) = true) ∧ (((0 : Nat)) = ((0 : Nat))) ∧ (((0 : Nat)) = ((0 : Nat))) ∧ (((0 : Nat)) = ((0 : Nat))) ∧ (((0 : Nat)) = ((0 : Nat))) ∧ (((0 : Nat)) = ((0 : Nat))) ∧ (((0 : Nat)) = ((0 : Nat))) ∧ ((to) = (to)) ∧ ((s) = (s)) ∧ (((↑i : Int)) = ((↑i : Int))) ∧ (((↑(List.length u) : Int)) = ((↑(List.length u) : Int))) ∧ (((↑i : Int)) = ((↑i : Int))) ∧ (((↑(List.length u) : Int)) = ((↑(List.length u) : Int))) ∧ (((↑k : Int) + (1 : Int)) = ((↑(k + (1 : Nat)) : Int))) ∧ (((o) = (o)) ∧ ((ts) = (ts)) ∧ True) ∧ (((Value.slice none (0 : Nat) (0 : Nat)) = (Value.slice none (0 : Nat) (0 : Nat))) ∧ ((Value.slice none (0 : Nat) (0 : Nat)) = (Value.slice none (0 : Nat) (0 : Nat))) ∧ True) ∧ (((u) = (u)) ∧ True) ∧ (((tab) = (tab)) ∧ True) ∧ (((b) = (b)) ∧ True) ∧ (((c) = (c)) ∧ True) ∧ True) := by kernel_rfl
  exact eTst.mpr ⟨decide_eq_true h1, ⟨decide_eq_true (by omega), ⟨decide_eq_true h2, ⟨same_refl (by kernel_rfl), ⟨decide_eq_true (by omega), ⟨decide_eq_true h3, ⟨same_refl (by kernel_rfl), ⟨decide_eq_false h4, ⟨fits_i64 h5, ⟨rfl, ⟨rfl, ⟨rfl, ⟨rfl, ⟨rfl, ⟨rfl, ⟨rfl, ⟨rfl, ⟨rfl, ⟨rfl, ⟨rfl, ⟨rfl, ⟨(by omega), ⟨⟨rfl, ⟨rfl, trivial⟩⟩, ⟨⟨rfl, ⟨rfl, trivial⟩⟩, ⟨⟨rfl, trivial⟩, ⟨⟨rfl, trivial⟩, ⟨⟨rfl, trivial⟩, ⟨⟨rfl, trivial⟩, trivial⟩⟩⟩⟩⟩⟩⟩⟩⟩⟩⟩⟩⟩⟩⟩⟩⟩⟩⟩⟩⟩⟩⟩⟩⟩⟩⟩⟩
theorem ar_end (o ts u : List Int) (tab : List (List Int)) (b : List Int) (c : Int) (to : List Int) (s : Int) (i k : Nat) (h1 : ¬(↑k : Int) < (↑(List.length u) : Int)) :
    Tst.path (vall Tryz.prog arCs (fl BAr gK) (SAb o ts u tab b c to s i k)) [false] (toSt Tryz.prog 110 (.exit 4) pinA (SAa o ts u tab b c to s i)) := by
  have eTst : (Tst.path (vall Tryz.prog arCs (fl BAr gK) (SAb o ts u tab b c to s i k)) [false] (toSt Tryz.prog 110 (.exit 4) pinA (SAa o ts u tab b c to s i))) = (((decide ((↑k : Int) < (↑(List.length u) : Int))) = false) ∧ (((0 : Nat)) = ((0 : Nat))) ∧ (((0 : Nat)) = ((0 : Nat))) ∧ (((0 : Nat)) = ((0 : Nat))) ∧ (((0 : Nat)) = ((0 : Nat))) ∧ (((0 : Nat)) = ((0 : Nat))) ∧ (((0 : Nat)) = ((0 : Nat))) ∧ ((to) = (to)) ∧ ((s) = (s)) ∧ (((↑(List.length u) : Int)) = ((↑(List.length u) : Int))) ∧ (((↑i : Int)) = ((↑i : Int))) ∧ (((o) = (o)) ∧ ((ts) = (ts)) ∧ True) ∧ (((Value.slice none (0 : Nat) (0 : Nat)) = (Value.slice none (0 : Nat) (0 : Nat))) ∧ ((Value.slice none (0 : Nat) (0 : Nat)) = (Value.slice none (0 : Nat) (0 : Nat))) ∧ True) ∧ (((u) = (u)) ∧ True) ∧ (((tab) = (tab)) ∧ True) ∧ (((b) = (b)) ∧ True) ∧ (((c) = (c)) ∧ True) ∧ True) := by kernel_rfl
  exact eTst.mpr ⟨decide_eq_false h1, ⟨rfl, ⟨rfl, ⟨rfl, ⟨rfl, ⟨rfl, ⟨rfl, ⟨rfl, ⟨rfl, ⟨rfl, ⟨rfl, ⟨⟨rfl, ⟨rfl, trivial⟩⟩, ⟨⟨rfl, ⟨rfl, trivial⟩⟩, ⟨⟨rfl, trivial⟩, ⟨⟨rfl, trivial⟩, ⟨⟨rfl, trivial⟩, ⟨⟨rfl, trivial⟩, trivial⟩⟩⟩⟩⟩⟩⟩⟩⟩⟩⟩⟩⟩⟩⟩⟩⟩
theorem ar_next (o ts u : List Int) (tab : List (List Int)) (b : List Int) (c : Int) (to : List Int) (s : Int) (i : Nat) (h1 : -9223372036854775808 ≤ (↑i : Int) + (1 : Int) ∧ (↑i : Int) + (1 : Int) ≤ 9223372036854775807) :
    Tst.path (vall Tryz.prog arCs (List.drop 3 (fl BAr gA)) (SAa o ts u tab b c to s i)) [] (toSt Tryz.prog 110 .normal pinA (SAa o ts u tab b c to s (i + 1))) := by
  have eTst : (Tst.path (vall Tryz.prog arCs (List.drop 3 (fl BAr gA)) (SAa o ts u tab b c to s i)) [] (toSt Tryz.prog 110 .normal pinA (SAa o ts u tab b c to s (i + 1)))) = (((fits IntKind.i64 ((↑i : Int) + (1 : Int))) = true) ∧ (((0 : Nat)) = ((0 : Nat))) ∧ (((0 : Nat)) = ((0 : Nat))) ∧ (((0 : Nat)) = ((0 : Nat))) ∧ (((0 : Nat)) = ((0 : Nat))) ∧ (((0 : Nat)) = ((0 : Nat))) ∧ (((0 : Nat)) = ((0 : Nat))) ∧ ((to) = (to)) ∧ ((s) = (s)) ∧ (((↑(List.length u) : Int)) = ((↑(List.length u) : Int))) ∧ (((↑i : Int) + (1 : Int)) = ((↑(i + (1 : Nat)) : Int))) ∧ (((o) = (o)) ∧ ((ts) = (ts)) ∧ True) ∧ (((Value.slice none (0 : Nat) (0 : Nat)) = (Value.slice none (0 : Nat) (0 : Nat))) ∧ ((Value.slice none (0 : Nat) (0 : Nat)) = (Value.slice none (0 : Nat) (0 : Nat))) ∧ True) ∧ (((u) = (u)) ∧ True) ∧ (((tab) = (tab)) ∧ True) ∧ (((b) = (b)) ∧ True) ∧ (((c) = (c)) ∧ True) ∧ True) := by kernel_rfl
  exact eTst.mpr ⟨fits_i64 h1, ⟨rfl, ⟨rfl, ⟨rfl, ⟨rfl, ⟨rfl, ⟨rfl, ⟨rfl, ⟨rfl, ⟨rfl, ⟨(by omega), ⟨⟨rfl, ⟨rfl, trivial⟩⟩, ⟨⟨rfl, ⟨rfl, trivial⟩⟩, ⟨⟨rfl, trivial⟩, ⟨⟨rfl, trivial⟩, ⟨⟨rfl, trivial⟩, ⟨⟨rfl, trivial⟩, trivial⟩⟩⟩⟩⟩⟩⟩⟩⟩⟩⟩⟩⟩⟩⟩⟩⟩
theorem ar_t0 (o ts u : List Int) (tab : List (List Int)) (b : List Int) (c : Int) (to : List Int) (s : Int) (i : Nat)  :
    Tst.path (vrun Tryz.prog arCs (List.drop 3 (fl BAr gC)) 2 (SAa o ts u tab b c to s i)) [] (toSt Tryz.prog 110 .normal pinA (SAt o ts u tab b c to s [] 0)) := by
  have eTst : (Tst.path (vrun Tryz.prog arCs (List.drop 3 (fl BAr gC)) 2 (SAa o ts u tab b c to s i)) [] (toSt Tryz.prog 110 .normal pinA (SAt o ts u tab b c to s [] 0))) = ((((0 : Nat)) = ((0 : Nat))) ∧ (((0 : Nat)) = ((0 : Nat))) ∧ (((0 : Nat)) = ((0 : Nat))) ∧ (((0 : Nat)) = ((0 : Nat))) ∧ (((0 : Nat)) = ((0 : Nat))) ∧ (((0 : Nat)) = ((0 : Nat))) ∧ ((to) = (to)) ∧ ((s) = (s)) ∧ ((List.length nilI) = ((0 : Nat))) ∧ ((ts) = (ts)) ∧ (((↑(List.length ts) : Int)) = ((↑(List.length ts) : Int))) ∧ (((0 : Int)) = ((↑(0 : Nat) : Int))) ∧ (((o) = (o)) ∧ ((ts) = (ts)) ∧ True) ∧ (((Value.slice none (0 : Nat) (0 : Nat)) = (Value.slice none (0 : Nat) (0 : Nat))) ∧ ((Value.slice none (0 : Nat) (0 : Nat)) = (Value.slice none (0 : Nat) (0 : Nat))) ∧ True) ∧ (((u) = (u)) ∧ True) ∧ (((tab) = (tab)) ∧ True) ∧ (((b) = (b)) ∧ True) ∧ (((c) = (c)) ∧ True) ∧ ((nilI) = ([])) ∧ True) := by kernel_rfl
  exact eTst.mpr ⟨rfl, ⟨rfl, ⟨rfl, ⟨rfl, ⟨rfl, ⟨rfl, ⟨rfl, ⟨rfl, ⟨rfl, ⟨rfl, ⟨rfl, ⟨rfl, ⟨⟨rfl, ⟨rfl, trivial⟩⟩, ⟨⟨rfl, ⟨rfl, trivial⟩⟩, ⟨⟨rfl, trivial⟩, ⟨⟨rfl, trivial⟩, ⟨⟨rfl, trivial⟩, ⟨⟨rfl, trivial⟩, ⟨rfl, trivial⟩⟩⟩⟩⟩⟩⟩⟩⟩⟩⟩⟩⟩⟩⟩⟩⟩⟩⟩
theorem ar_tadd (o ts u : List Int) (tab : List (List Int)) (b : List Int) (c : Int) (to : List Int) (s : Int) (tr : List Int) (i : Nat) (h1 : (↑i : Int) < (↑(List.length ts) : Int)) (h2 : i < List.length ts) (h3 : List.length u ≤ (1000000 : Nat)) (h4 : (0 : Int) ≤ ixU u (List.getD ts i (0 : Int))) (h5 : Int.toNat (ixU u (List.getD ts i (0 : Int))) < List.length to) (h6 : List.length tr + (1 : Nat) ≤ 1000000) (h7 : -9223372036854775808 ≤ (↑i : Int) + (1 : Int) ∧ (↑i : Int) + (1 : Int) ≤ 9223372036854775807) (h8 : (List.length tr + (1 : Nat)) = (List.length (tr ++ [List.getD to (Int.toNat (ixU u (List.getD ts i (0 : Int)))) (0 : Int)]))) (h9 : (Cap.full) = (capOf (List.length (tr ++ [List.getD to (Int.toNat (ixU u (List.getD ts i (0 : Int)))) (0 : Int)])))) :
    Tst.path (vall Tryz.prog arCs (fl BAr gT) (SAt o ts u tab b c to s tr i)) [true, false] (toSt Tryz.prog 110 .normal [(64, 64, none), (65, 65, none), (66, 66, none), (67, 67, none), (68, 68, none), (69, 69, none), (70, 72, none)] (SAt o ts u tab b c to s (tr ++ [to.getD (ixU u (ts.getD i 0)).toNat 0]) (i + 1))) := by
  have eTst : (Tst.path (vall Tryz.prog arCs (fl BAr gT) (SAt o ts u tab b c to s tr i)) [true, false] (toSt Tryz.prog 110 .normal [(64, 64, none), (65, 65, none), (66, 66, none), (67, 67, none), (68, 68, none), (69, 69, none), (70, 72, none)] (SAt o ts u tab b c to s (tr ++ [to.getD (ixU u (ts.getD i 0)).toNat 0]) (i + 1)))) = (((decide ((↑i : Int) < (↑(List.length ts) : Int))) = true) ∧ ((decide ((0 : Int) ≤ (↑i : Int))) = true) ∧ ((decide (i < List.length ts)) = true) ∧ ((decide (List.length u ≤ (1000000 : Nat))) = true) ∧ ((decide ((0 : Int) ≤ ixU u (List.getD ts i (0 : Int)))) = true) ∧ ((decide (Int.toNat (ixU u (List.getD ts i (0 : Int))) < List.length to)) = true) ∧ ((Nat.beq (0 : Nat) (0 : Nat)) = true) ∧ ((Nat.beq (1 : Nat) (0 : Nat)) = false) ∧ ((blkIs (3 : TypeId) (Ty.int IntKind.i64) (optOwn (nat_lit 3) (Ty.int IntKind.i64) tr) (List.length tr) (capOf (List.length tr))) = true) ∧ ((bounded (List.length tr + (1 : Nat)) (8 : Nat)) = true) ∧ ((fits IntKind.i64 ((↑i : Int) + (1 : Int))) = true) ∧ (((0 : Nat)) = ((0 : Nat))) ∧ (((0 : Nat)) = ((0 : Nat))) ∧ (((0 : Nat)) = ((0 : Nat))) ∧ (((0 : Nat)) = ((0 : Nat))) ∧ (((0 : Nat)) = ((0 : Nat))) ∧ (((0 : Nat)) = ((0 : Nat))) ∧ ((to) = (to)) ∧ ((s) = (s)) ∧ ((((0 : Nat)) = ((0 : Nat))) ∧ ((List.length tr + (1 : Nat)) = (List.length (tr ++ [List.getD to (Int.toNat (ixU u (List.getD ts i (0 : Int)))) (0 : Int)]))) ∧ (Cap.full) = (capOf (List.length (tr ++ [List.getD to (Int.toNat (ixU u (List.getD ts i (0 : Int)))) (0 : Int)])))) ∧ ((ts) = (ts)) ∧ (((↑(List.length ts) : Int)) = ((↑(List.length ts) : Int))) ∧ (((↑i : Int) + (1 : Int)) = ((↑(i + (1 : Nat)) : Int))) ∧ (((o) = (o)) ∧ ((ts) = (ts)) ∧ True) ∧ (((Value.slice none (0 : Nat) (0 : Nat)) = (Value.slice none (0 : Nat) (0 : Nat))) ∧ ((Value.slice none (0 : Nat) (0 : Nat)) = (Value.slice none (0 : Nat) (0 : Nat))) ∧ True) ∧ (((u) = (u)) ∧ True) ∧ (((tab) = (tab)) ∧ True) ∧ (((b) = (b)) ∧ True) ∧ (((c) = (c)) ∧ True) ∧ ((blkXs (Ty.int IntKind.i64) (optOwn (nat_lit 3) (Ty.int IntKind.i64) tr) ++ [List.getD to (Int.toNat (ixU u (List.getD ts i (0 : Int)))) (0 : Int)]) = (tr ++ [List.getD to (Int.toNat (ixU u (List.getD ts i (0 : Int)))) (0 : Int)])) ∧ True) := by kernel_rfl
  exact eTst.mpr ⟨decide_eq_true h1, ⟨decide_eq_true (by omega), ⟨decide_eq_true h2, ⟨decide_eq_true h3, ⟨decide_eq_true h4, ⟨decide_eq_true h5, ⟨rfl, ⟨rfl, ⟨(blkIs_optOwn _ _ _), ⟨bounded_of h6 (by omega), ⟨fits_i64 h7, ⟨rfl, ⟨rfl, ⟨rfl, ⟨rfl, ⟨rfl, ⟨rfl, ⟨rfl, ⟨rfl, ⟨⟨rfl, ⟨h8, h9⟩⟩, ⟨rfl, ⟨rfl, ⟨(by omega), ⟨⟨rfl, ⟨rfl, trivial⟩⟩, ⟨⟨rfl, ⟨rfl, trivial⟩⟩, ⟨⟨rfl, trivial⟩, ⟨⟨rfl, trivial⟩, ⟨⟨rfl, trivial⟩, ⟨⟨rfl, trivial⟩, ⟨(by simp only [blkXs_optOwn] <;> rfl), trivial⟩⟩⟩⟩⟩⟩⟩⟩⟩⟩⟩⟩⟩⟩⟩⟩⟩⟩⟩⟩⟩⟩⟩⟩⟩⟩⟩⟩⟩⟩
theorem ar_tend (o ts u : List Int) (tab : List (List Int)) (b : List Int) (c : Int) (to : List Int) (s : Int) (tr : List Int) (i : Nat) (h1 : ¬(↑i : Int) < (↑(List.length ts) : Int)) :
    Tst.path (vall Tryz.prog arCs (fl BAr gT) (SAt o ts u tab b c to s tr i)) [false] (toSt Tryz.prog 110 (.exit 6) [(64, 64, none), (65, 65, none), (66, 66, none), (67, 67, none), (68, 68, none), (69, 69, none), (70, 70, none)] (SAt o ts u tab b c to s tr i)) := by
  have eTst : (Tst.path (vall Tryz.prog arCs (fl BAr gT) (SAt o ts u tab b c to s tr i)) [false] (toSt Tryz.prog 110 (.exit 6) [(64, 64, none), (65, 65, none), (66, 66, none), (67, 67, none), (68, 68, none), (69, 69, none), (70, 70, none)] (SAt o ts u tab b c to s tr i))) = (((decide ((↑i : Int) < (↑(List.length ts) : Int))) = false) ∧ (((0 : Nat)) = ((0 : Nat))) ∧ (((0 : Nat)) = ((0 : Nat))) ∧ (((0 : Nat)) = ((0 : Nat))) ∧ (((0 : Nat)) = ((0 : Nat))) ∧ (((0 : Nat)) = ((0 : Nat))) ∧ (((0 : Nat)) = ((0 : Nat))) ∧ ((to) = (to)) ∧ ((s) = (s)) ∧ ((((0 : Nat)) = ((0 : Nat))) ∧ ((List.length tr) = (List.length tr)) ∧ (capOf (List.length tr)) = (capOf (List.length tr))) ∧ ((ts) = (ts)) ∧ (((↑(List.length ts) : Int)) = ((↑(List.length ts) : Int))) ∧ (((↑i : Int)) = ((↑i : Int))) ∧ (((o) = (o)) ∧ ((ts) = (ts)) ∧ True) ∧ (((Value.slice none (0 : Nat) (0 : Nat)) = (Value.slice none (0 : Nat) (0 : Nat))) ∧ ((Value.slice none (0 : Nat) (0 : Nat)) = (Value.slice none (0 : Nat) (0 : Nat))) ∧ True) ∧ (((u) = (u)) ∧ True) ∧ (((tab) = (tab)) ∧ True) ∧ (((b) = (b)) ∧ True) ∧ (((c) = (c)) ∧ True) ∧ ((fitOpt Tryz.prog none (optOwn (nat_lit 3) (Ty.int IntKind.i64) tr) (nat_lit 3) (Ty.int IntKind.i64) tr)) ∧ True) := by kernel_rfl
  exact eTst.mpr ⟨decide_eq_false h1, ⟨rfl, ⟨rfl, ⟨rfl, ⟨rfl, ⟨rfl, ⟨rfl, ⟨rfl, ⟨rfl, ⟨⟨rfl, ⟨rfl, rfl⟩⟩, ⟨rfl, ⟨rfl, ⟨rfl, ⟨⟨rfl, ⟨rfl, trivial⟩⟩, ⟨⟨rfl, ⟨rfl, trivial⟩⟩, ⟨⟨rfl, trivial⟩, ⟨⟨rfl, trivial⟩, ⟨⟨rfl, trivial⟩, ⟨⟨rfl, trivial⟩, ⟨(fitOpt_refl _ _ _ _), trivial⟩⟩⟩⟩⟩⟩⟩⟩⟩⟩⟩⟩⟩⟩⟩⟩⟩⟩⟩⟩
theorem ar_fit1 (o ts u : List Int) (tab : List (List Int)) (b : List Int) (c : Int) (to : List Int) (s : Int) (tr : List Int) (i : Nat)  :
    Tst.path ((Tst.ret (R.normal ((SAt o ts u tab b c to s tr i).T.set 17 (some (lv tr))) ((SAt o ts u tab b c to s tr i).H.drop 70) []) : Tst R)) [] (toSt Tryz.prog 110 .normal pinA (SAf o ts u tab b c s tr)) := by
  have eTst : (Tst.path ((Tst.ret (R.normal ((SAt o ts u tab b c to s tr i).T.set 17 (some (lv tr))) ((SAt o ts u tab b c to s tr i).H.drop 70) []) : Tst R)) [] (toSt Tryz.prog 110 .normal pinA (SAf o ts u tab b c s tr))) = ((((0 : Nat)) = ((0 : Nat))) ∧ (((0 : Nat)) = ((0 : Nat))) ∧ (((0 : Nat)) = ((0 : Nat))) ∧ (((0 : Nat)) = ((0 : Nat))) ∧ (((0 : Nat)) = ((0 : Nat))) ∧ (((0 : Nat)) = ((0 : Nat))) ∧ ((s) = (s)) ∧ ((tr) = (tr)) ∧ (((o) = (o)) ∧ ((ts) = (ts)) ∧ True) ∧ (((Value.slice none (0 : Nat) (0 : Nat)) = (Value.slice none (0 : Nat) (0 : Nat))) ∧ ((Value.slice none (0 : Nat) (0 : Nat)) = (Value.slice none (0 : Nat) (0 : Nat))) ∧ True) ∧ (((u) = (u)) ∧ True) ∧ (((tab) = (tab)) ∧ True) ∧ (((b) = (b)) ∧ True) ∧ (((c) = (c)) ∧ True) ∧ True) := by kernel_rfl
  exact eTst.mpr ⟨rfl, ⟨rfl, ⟨rfl, ⟨rfl, ⟨rfl, ⟨rfl, ⟨rfl, ⟨rfl, ⟨⟨rfl, ⟨rfl, trivial⟩⟩, ⟨⟨rfl, ⟨rfl, trivial⟩⟩, ⟨⟨rfl, trivial⟩, ⟨⟨rfl, trivial⟩, ⟨⟨rfl, trivial⟩, ⟨⟨rfl, trivial⟩, trivial⟩⟩⟩⟩⟩⟩⟩⟩⟩⟩⟩⟩⟩⟩
theorem ar_lt (o ts u : List Int) (tab : List (List Int)) (b : List Int) (c : Int) (s : Int) (tr : List Int) (h1 : s < c) :
    Tst.path (vall Tryz.prog arCs (List.drop 6 (fl BAr gC)) (SAf o ts u tab b c s tr)) [false, false, false, false, false, true, true] (toSt Tryz.prog 110 .normal pinA (SA o ts u tab tr s)) := by
  have eTst : (Tst.path (vall Tryz.prog arCs (List.drop 6 (fl BAr gC)) (SAf o ts u tab b c s tr)) [false, false, false, false, false, true, true] (toSt Tryz.prog 110 .normal pinA (SA o ts u tab tr s))) = (((decide (s < c) == false) = false) ∧ ((decide (s < c) == false) = false) ∧ ((decide (s < c) == false) = false) ∧ ((decide (s < c) == false) = false) ∧ ((decide (s < c) == false) = false) ∧ ((decide (s < c)) = true) ∧ ((true) = true) ∧ (((0 : Nat)) = ((0 : Nat))) ∧ (((0 : Nat)) = ((0 : Nat))) ∧ (((0 : Nat)) = ((0 : Nat))) ∧ (((0 : Nat)) = ((0 : Nat))) ∧ (((0 : Nat)) = ((0 : Nat))) ∧ (((0 : Nat)) = ((0 : Nat))) ∧ (((o) = (o)) ∧ ((ts) = (ts)) ∧ True) ∧ (((Value.slice none (0 : Nat) (0 : Nat)) = (Value.slice none (0 : Nat) (0 : Nat))) ∧ ((Value.slice none (0 : Nat) (0 : Nat)) = (Value.slice none (0 : Nat) (0 : Nat))) ∧ True) ∧ (((u) = (u)) ∧ True) ∧ (((tab) = (tab)) ∧ True) ∧ (((tr) = (tr)) ∧ True) ∧ (((s) = (s)) ∧ True) ∧ True) := by kernel_rfl
  exact eTst.mpr ⟨congrArg (fun y => y == false) (show (decide (s < c)) = true from decide_eq_true h1), ⟨congrArg (fun y => y == false) (show (decide (s < c)) = true from decide_eq_true h1), ⟨congrArg (fun y => y == false) (show (decide (s < c)) = true from decide_eq_true h1), ⟨congrArg (fun y => y == false) (show (decide (s < c)) = true from decide_eq_true h1), ⟨congrArg (fun y => y == false) (show (decide (s < c)) = true from decide_eq_true h1), ⟨decide_eq_true h1, ⟨rfl, ⟨rfl, ⟨rfl, ⟨rfl, ⟨rfl, ⟨rfl, ⟨rfl, ⟨⟨rfl, ⟨rfl, trivial⟩⟩, ⟨⟨rfl, ⟨rfl, trivial⟩⟩, ⟨⟨rfl, trivial⟩, ⟨⟨rfl, trivial⟩, ⟨⟨rfl, trivial⟩, ⟨⟨rfl, trivial⟩, trivial⟩⟩⟩⟩⟩⟩⟩⟩⟩⟩⟩⟩⟩⟩⟩⟩⟩⟩⟩
theorem ar_eqlt (o ts u : List Int) (tab : List (List Int)) (b : List Int) (c : Int) (s : Int) (tr : List Int) (h1 : ¬s < c) (h2 : s = c) (h3 : List.length tr ≤ (1000000 : Nat)) (h4 : cmpI tr b < (0 : Int)) :
    Tst.path (vall Tryz.prog arCs (List.drop 6 (fl BAr gC)) (SAf o ts u tab b c s tr)) [true, true, true, true, true, true, true, true, true, true, false, true] (toSt Tryz.prog 110 .normal pinA (SA o ts u tab tr s)) := by
  have eTst : (Tst.path (vall Tryz.prog arCs (List.drop 6 (fl BAr gC)) (SAf o ts u tab b c s tr)) [true, true, true, true, true, true, true, true, true, true, false, true] (toSt Tryz.prog 110 .normal pinA (SA o ts u tab tr s))) = (((decide (s < c) == false) = true) ∧ ((decide (s < c) == false) = true) ∧ ((decide (s < c) == false) = true) ∧ ((decide (s < c) == false) = true) ∧ (((s == c) == true) = true) ∧ (((s == c) == true) = true) ∧ (((s == c) == true) = true) ∧ ((decide (List.length tr ≤ (1000000 : Nat))) = true) ∧ (((s == c) == true) = true) ∧ ((decide (s < c) == false) = true) ∧ ((s == c) = true) ∧ ((decide (s < c)) = false) ∧ ((decide (cmpI tr b < (0 : Int))) = true) ∧ (((0 : Nat)) = ((0 : Nat))) ∧ (((0 : Nat)) = ((0 : Nat))) ∧ (((0 : Nat)) = ((0 : Nat))) ∧ (((0 : Nat)) = ((0 : Nat))) ∧ (((0 : Nat)) = ((0 : Nat))) ∧ (((0 : Nat)) = ((0 : Nat))) ∧ (((o) = (o)) ∧ ((ts) = (ts)) ∧ True) ∧ (((Value.slice none (0 : Nat) (0 : Nat)) = (Value.slice none (0 : Nat) (0 : Nat))) ∧ ((Value.slice none (0 : Nat) (0 : Nat)) = (Value.slice none (0 : Nat) (0 : Nat))) ∧ True) ∧ (((u) = (u)) ∧ True) ∧ (((tab) = (tab)) ∧ True) ∧ (((tr) = (tr)) ∧ True) ∧ (((s) = (s)) ∧ True) ∧ True) := by kernel_rfl
  exact eTst.mpr ⟨congrArg (fun y => y == false) (show (decide (s < c)) = false from decide_eq_false h1), ⟨congrArg (fun y => y == false) (show (decide (s < c)) = false from decide_eq_false h1), ⟨congrArg (fun y => y == false) (show (decide (s < c)) = false from decide_eq_false h1), ⟨congrArg (fun y => y == false) (show (decide (s < c)) = false from decide_eq_false h1), ⟨congrArg (fun y => y == true) (show (s == c) = true from beq_iff_eq.mpr h2), ⟨congrArg (fun y => y == true) (show (s == c) = true from beq_iff_eq.mpr h2), ⟨congrArg (fun y => y == true) (show (s == c) = true from beq_iff_eq.mpr h2), ⟨decide_eq_true h3, ⟨congrArg (fun y => y == true) (show (s == c) = true from beq_iff_eq.mpr h2), ⟨congrArg (fun y => y == false) (show (decide (s < c)) = false from decide_eq_false h1), ⟨beq_iff_eq.mpr h2, ⟨decide_eq_false h1, ⟨decide_eq_true h4, ⟨rfl, ⟨rfl, ⟨rfl, ⟨rfl, ⟨rfl, ⟨rfl, ⟨⟨rfl, ⟨rfl, trivial⟩⟩, ⟨⟨rfl, ⟨rfl, trivial⟩⟩, ⟨⟨rfl, trivial⟩, ⟨⟨rfl, trivial⟩, ⟨⟨rfl, trivial⟩, ⟨⟨rfl, trivial⟩, trivial⟩⟩⟩⟩⟩⟩⟩⟩⟩⟩⟩⟩⟩⟩⟩⟩⟩⟩⟩⟩⟩⟩⟩⟩⟩
theorem ar_eqge (o ts u : List Int) (tab : List (List Int)) (b : List Int) (c : Int) (s : Int) (tr : List Int) (h1 : ¬s < c) (h2 : s = c) (h3 : List.length tr ≤ (1000000 : Nat)) (h4 : ¬cmpI tr b < (0 : Int)) :
    Tst.path (vall Tryz.prog arCs (List.drop 6 (fl BAr gC)) (SAf o ts u tab b c s tr)) [true, true, true, true, true, true, true, true, true, true, false, false] (toSt Tryz.prog 110 .normal pinA (SA o ts u tab b c)) := by
  have eTst : (Tst.path (vall Tryz.prog arCs (List.drop 6 (fl BAr gC)) (SAf o ts u tab b c s tr)) [true, true, true, true, true, true, true, true, true, true, false, false] (toSt Tryz.prog 110 .normal pinA (SA o ts u tab b c))) = (((decide (s < c) == false) = true) ∧ ((decide (s < c) == false) = true) ∧ ((decide (s < c) == false) = true) ∧ ((decide (s < c) == false) = true) ∧ (((s == c) == true) = true) ∧ (((s == c) == true) = true) ∧ (((s == c) == true) = true) ∧ ((decide (List.length tr ≤ (1000000 : Nat))) = true) ∧ (((s == c) == true) = true) ∧ ((decide (s < c) == false) = true) ∧ ((s == c) = true) ∧ ((decide (s < c)) = false) ∧ ((decide (cmpI tr b < (0 : Int))) = false) ∧ (((0 : Nat)) = ((0 : Nat))) ∧ (((0 : Nat)) = ((0 : Nat))) ∧ (((0 : Nat)) = ((0 : Nat))) ∧ (((0 : Nat)) = ((0 : Nat))) ∧ (((0 : Nat)) = ((0 : Nat))) ∧ (((0 : Nat)) = ((0 : Nat))) ∧ (((o) = (o)) ∧ ((ts) = (ts)) ∧ True) ∧ (((Value.slice none (0 : Nat) (0 : Nat)) = (Value.slice none (0 : Nat) (0 : Nat))) ∧ ((Value.slice none (0 : Nat) (0 : Nat)) = (Value.slice none (0 : Nat) (0 : Nat))) ∧ True) ∧ (((u) = (u)) ∧ True) ∧ (((tab) = (tab)) ∧ True) ∧ (((b) = (b)) ∧ True) ∧ (((c) = (c)) ∧ True) ∧ True) := by kernel_rfl
  exact eTst.mpr ⟨congrArg (fun y => y == false) (show (decide (s < c)) = false from decide_eq_false h1), ⟨congrArg (fun y => y == false) (show (decide (s < c)) = false from decide_eq_false h1), ⟨congrArg (fun y => y == false) (show (decide (s < c)) = false from decide_eq_false h1), ⟨congrArg (fun y => y == false) (show (decide (s < c)) = false from decide_eq_false h1), ⟨congrArg (fun y => y == true) (show (s == c) = true from beq_iff_eq.mpr h2), ⟨congrArg (fun y => y == true) (show (s == c) = true from beq_iff_eq.mpr h2), ⟨congrArg (fun y => y == true) (show (s == c) = true from beq_iff_eq.mpr h2), ⟨decide_eq_true h3, ⟨congrArg (fun y => y == true) (show (s == c) = true from beq_iff_eq.mpr h2), ⟨congrArg (fun y => y == false) (show (decide (s < c)) = false from decide_eq_false h1), ⟨beq_iff_eq.mpr h2, ⟨decide_eq_false h1, ⟨decide_eq_false h4, ⟨rfl, ⟨rfl, ⟨rfl, ⟨rfl, ⟨rfl, ⟨rfl, ⟨⟨rfl, ⟨rfl, trivial⟩⟩, ⟨⟨rfl, ⟨rfl, trivial⟩⟩, ⟨⟨rfl, trivial⟩, ⟨⟨rfl, trivial⟩, ⟨⟨rfl, trivial⟩, ⟨⟨rfl, trivial⟩, trivial⟩⟩⟩⟩⟩⟩⟩⟩⟩⟩⟩⟩⟩⟩⟩⟩⟩⟩⟩⟩⟩⟩⟩⟩⟩
theorem ar_gt (o ts u : List Int) (tab : List (List Int)) (b : List Int) (c : Int) (s : Int) (tr : List Int) (h1 : ¬s < c) (h2 : ¬s = c) :
    Tst.path (vall Tryz.prog arCs (List.drop 6 (fl BAr gC)) (SAf o ts u tab b c s tr)) [true, true, true, true, false, false, false, false, true, false, false, false] (toSt Tryz.prog 110 .normal pinA (SA o ts u tab b c)) := by
  have eTst : (Tst.path (vall Tryz.prog arCs (List.drop 6 (fl BAr gC)) (SAf o ts u tab b c s tr)) [true, true, true, true, false, false, false, false, true, false, false, false] (toSt Tryz.prog 110 .normal pinA (SA o ts u tab b c))) = (((decide (s < c) == false) = true) ∧ ((decide (s < c) == false) = true) ∧ ((decide (s < c) == false) = true) ∧ ((decide (s < c) == false) = true) ∧ (((s == c) == true) = false) ∧ (((s == c) == true) = false) ∧ (((s == c) == true) = false) ∧ (((s == c) == true) = false) ∧ ((decide (s < c) == false) = true) ∧ ((s == c) = false) ∧ ((decide (s < c)) = false) ∧ ((false) = false) ∧ (((0 : Nat)) = ((0 : Nat))) ∧ (((0 : Nat)) = ((0 : Nat))) ∧ (((0 : Nat)) = ((0 : Nat))) ∧ (((0 : Nat)) = ((0 : Nat))) ∧ (((0 : Nat)) = ((0 : Nat))) ∧ (((0 : Nat)) = ((0 : Nat))) ∧ (((o) = (o)) ∧ ((ts) = (ts)) ∧ True) ∧ (((Value.slice none (0 : Nat) (0 : Nat)) = (Value.slice none (0 : Nat) (0 : Nat))) ∧ ((Value.slice none (0 : Nat) (0 : Nat)) = (Value.slice none (0 : Nat) (0 : Nat))) ∧ True) ∧ (((u) = (u)) ∧ True) ∧ (((tab) = (tab)) ∧ True) ∧ (((b) = (b)) ∧ True) ∧ (((c) = (c)) ∧ True) ∧ True) := by kernel_rfl
  exact eTst.mpr ⟨congrArg (fun y => y == false) (show (decide (s < c)) = false from decide_eq_false h1), ⟨congrArg (fun y => y == false) (show (decide (s < c)) = false from decide_eq_false h1), ⟨congrArg (fun y => y == false) (show (decide (s < c)) = false from decide_eq_false h1), ⟨congrArg (fun y => y == false) (show (decide (s < c)) = false from decide_eq_false h1), ⟨congrArg (fun y => y == true) (show (s == c) = false from beq_eq_false_iff_ne.mpr h2), ⟨congrArg (fun y => y == true) (show (s == c) = false from beq_eq_false_iff_ne.mpr h2), ⟨congrArg (fun y => y == true) (show (s == c) = false from beq_eq_false_iff_ne.mpr h2), ⟨congrArg (fun y => y == true) (show (s == c) = false from beq_eq_false_iff_ne.mpr h2), ⟨congrArg (fun y => y == false) (show (decide (s < c)) = false from decide_eq_false h1), ⟨beq_eq_false_iff_ne.mpr h2, ⟨decide_eq_false h1, ⟨rfl, ⟨rfl, ⟨rfl, ⟨rfl, ⟨rfl, ⟨rfl, ⟨rfl, ⟨⟨rfl, ⟨rfl, trivial⟩⟩, ⟨⟨rfl, ⟨rfl, trivial⟩⟩, ⟨⟨rfl, trivial⟩, ⟨⟨rfl, trivial⟩, ⟨⟨rfl, trivial⟩, ⟨⟨rfl, trivial⟩, trivial⟩⟩⟩⟩⟩⟩⟩⟩⟩⟩⟩⟩⟩⟩⟩⟩⟩⟩⟩⟩⟩⟩⟩⟩
theorem ar_ret (o ts u : List Int) (tab : List (List Int)) (b : List Int) (c : Int) (h1 : List.length o ≤ (1000000 : Nat)) :
    Tst.path (vallM Tryz.prog arCs (List.drop 11 (fl BAr [])) (SA o ts u tab b c)) [] (toRetM Tryz.prog Tryz.f28 false (.tuple [yv o b, iv 0]) [70]) := by
  have eTst : (Tst.path (vallM Tryz.prog arCs (List.drop 11 (fl BAr [])) (SA o ts u tab b c)) [] (toRetM Tryz.prog Tryz.f28 false (.tuple [yv o b, iv 0]) [70])) = (((AV.same (AV.lst false (Ty.int IntKind.i64) o) (AV.lst false (Ty.int IntKind.i64) o)) = true) ∧ ((decide (List.length o ≤ (1000000 : Nat))) = true) ∧ ((AV.same (AV.lst false (Ty.int IntKind.i64) b) (AV.lst false (Ty.int IntKind.i64) b)) = true) ∧ ((AV.same (AV.lst false (Ty.int IntKind.i64) b) (AV.lst false (Ty.int IntKind.i64) b)) = true) ∧ ((Exit.ret) = (Exit.ret)) ∧ (((o) = (o)) ∧ ((b) = (b)) ∧ True) ∧ (((0 : Int)) = ((0 : Int))) ∧ True) := by kernel_rfl
  exact eTst.mpr ⟨same_refl (by kernel_rfl), ⟨decide_eq_true h1, ⟨same_refl (by kernel_rfl), ⟨same_refl (by kernel_rfl), ⟨rfl, ⟨⟨rfl, ⟨rfl, trivial⟩⟩, ⟨rfl, trivial⟩⟩⟩⟩⟩⟩⟩
def arrB (nets : List (Int × List Int)) (n : Int) (o ts : List Int) : (List Int × List Int) × Int :=
  if layErr nets n o ts = 0 then (if (usU ts).length > 7 then (([], []), 21) else ((o, aBest ts (bestA nets o ts)), 0)) else (([], []), layErr nets n o ts)
theorem holds_ints {f : FuncId} {args : List AV} {l : List Int} (h : ∀ (w : World) (F : Env) (xs : List Value), OkF w F → Dens F args xs → Calls Tryz.prog f xs.toArray w fun e w' =>
      ∃ A c, e = .returned (.slice A l.length c) ∧ Row w' w'.heap.size A (l.map (Value.int .i64)) ∧ (l = [] ∨ FreshA w.heap.size A) ∧ l.length ≤ c ∧ Below w.heap.size w w') :
    Holds Tryz.prog true f args (lv l) := fun w F xs hF hd =>
  (h w F xs hF hd).mono fun e w' ⟨A, c, h1, h2, h3, h4, h5⟩ => by
    have hd := ints_den (n0 := w.heap.size) (at' := F.at') h2 h3 h4
    refine ⟨_, _, h1, hd, ⟨hF.glob, hF.all, fun b A hb => ?_⟩, fun b A hb => .inr ?_, h5⟩
    · have hb : (if w.heap.size ≤ b then cellsOf? w' b else none) = some A := hb
      split at hb
      · exact cellsOf?_some.1 hb
      · cases hb
    · have hb : (if w.heap.size ≤ b then cellsOf? w' b else none) = some A := hb
      split at hb
      · assumption
      · cases hb
theorem cClone_ok : cClone.Ok Tryz.prog := fun ⟨l, _⟩ h => holds_ints fun w F xs hF hd => by
  have hl := of_decide_eq_true h
  cases hd with
  | cons d1 d2 =>
    cases d2
    obtain ⟨A, c, rfl, hc, hR⟩ := den_ints hF d1
    refine (clone_any A c w.heap.size l w hR hl).mono fun e w' ⟨v, h1, h2, h3⟩ => ?_
    obtain ⟨A', c', rfl, g1, g2⟩ := own_cap h2
    exact ⟨A', c', h1, g2, .inr (own_fresh h2), g1, h3⟩
theorem cIx_ok : cIx.Ok Tryz.prog := cIdx_ok
theorem cPr_ok : cPr.Ok Tryz.prog := cPairs_ok
theorem ix_from (t : Int) : ∀ (u : List Int) (i : Nat), t ∈ u → Lib.idxFrom u t i = ((i + u.idxOf t : Nat) : Int)
  | [], _, h => by cases h
  | z :: zs, i, h => by
    unfold Lib.idxFrom
    by_cases e : z = t
    · rw [if_pos e, List.idxOf_cons, e]; simp
    · rw [if_neg e, ix_from t zs (i + 1) ((List.mem_cons.1 h).resolve_left fun g => e g.symm), List.idxOf_cons]
      have : (z == t) = false := by rw [beq_eq_false_iff_ne]; exact e
      rw [this]
      simp
      omega
theorem ix_eq {u : List Int} {t : Int} (h : t ∈ u) : ixU u t = (u.idxOf t : Int) := by
  have := ix_from t u 0 h
  rw [Nat.zero_add] at this
  exact this
theorem ar_ok : CallOk Tryz.prog (gS arCs) := ctrs_ok fun c hc => by
  simp only [List.mem_cons, List.not_mem_nil, or_false] at hc
  rcases hc with rfl | rfl | rfl | rfl | rfl
  · exact cLayB_ok
  · exact cPr_ok
  · exact cIx_ok
  · exact cCmp_ok
  · exact cClone_ok
theorem goalLX_blk {X : Ext} {P : Program} {w0 : World} {F : Env} {n : Nat} {T : Tr AV} {H : AHeap} {Q : Exit → Tr AV → AHeap → Prop} {l rest : List Code} {id : Nat} {c : Code} (hl : l = .block id c :: rest)
    (h : GoalLX X P w0 F n (flatC c) T H (inB id (onN (fun T H => GoalLX X P w0 F n rest T H Q) Q))) : GoalLX X P w0 F n l T H Q := by
  subst hl
  exact Goal.block (x := c) rfl (goal_flat h)
theorem goalLX_nil {X : Ext} {P : Program} {w0 : World} {F : Env} {n : Nat} {T : Tr AV} {H : AHeap} {Q : Exit → Tr AV → AHeap → Prop} {l : List Code} (e : l = []) (h : Q .normal T H) : GoalLX X P w0 F n l T H Q := by
  rw [e]; exact h
theorem arr_neg {a b : List Int} : cmpI a b < 0 ↔ lexB a b = true := by
  unfold cmpI
  by_cases h : lexB a b = true
  · rw [if_pos h]; exact ⟨fun _ => h, fun _ => by decide⟩
  · rw [if_neg h]
    constructor
    · intro h2; split at h2 <;> exact absurd h2 (by decide)
    · intro h2; exact absurd h2 h
def IA (nets : List (Int × List Int)) (o ts : List Int) (st : Option (List Int)) : St := SA o ts (usU ts) (tabOf nets o ts) (aBest ts st) (aLeast nets o ts st)
def RA (nets : List (Int × List Int)) (o ts : List Int) (pre : List (List Int)) (st : Option (List Int)) : Prop := st = bestOf (arrKey nets o ts) lexB pre
theorem ar_code : List.drop 10 (fl BAr []) = .block 0 (.rangeFunc (.tmp 40) #[41] (cat BAr [1, 1, 1, 1, 1, 1, 0, 1, 0, 0]) (cat BAr gB)) :: List.drop 11 (fl BAr []) := by kernel_rfl
theorem ar_gI : List.drop 3 (fl BAr gI) = [] := by kernel_rfl
theorem ar_g6 : List.drop 6 (fl BAr gC) ≠ [] := fun h => by
  have : (List.drop 6 (fl BAr gC)).isEmpty = false := by kernel_rfl
  rw [h] at this; cases this
theorem ar_T1 (o ts u : List Int) (tab : List (List Int)) (b : List Int) (c : Int) (to : List Int) : (SAr o ts u tab b c to).T = ((SA o ts u tab b c).T.set 41 (some (lv to))).set 13 (some (lv to)) := by kernel_rfl
theorem tro_next {u ts to : List Int} {i : Nat} (h : i < ts.length) : trO u (ts.take (i + 1)) to = trO u (ts.take i) to ++ [to.getD (u.idxOf (ts.getD i 0)) 0] := by
  unfold trO
  rw [take_next h, List.map_append]; rfl
theorem ar_body {nets : List (Int × List Int)} {n : Int} {o ts to : List Int} {st : Option (List Int)} {pre : List (List Int)} (hL : layErr nets n o ts = 0) (h7 : (usU ts).length ≤ 7) (h1000 : ts.length ≤ 1000) (ho : IsOrd (usU ts).length to) (hR : RA nets o ts pre st) {w0 : World} {F : Env} (l : Nat) (K : Nat → Option Obj) (A : Nat → Option (Nat × Nat)) (Z : Nat → Option (Array Value)) (sz : Nat) :
    GoalLX { rd := some l, K := K, R := fun _ _ => False, pin := [64, 65, 66, 67, 68, 69], A := A, Z := Z, sz := sz } Tryz.prog w0 F 110 (fl BAr gB) (SAr o ts (usU ts) (tabOf nets o ts) (aBest ts st) (aLeast nets o ts st) to).T (SA o ts (usU ts) (tabOf nets o ts) (aBest ts st) (aLeast nets o ts st)).H (onN (fun T H => ∃ j, RA nets o ts (pre ++ [to]) j ∧ H = (IA nets o ts j).H) (fun _ _ _ => False)) := by
  have hS := ar_ok
  have hE := both_of_lay hL
  have hl : ts.length = nets.length := (lay_zero hE hL).1
  have hsum := arr_sum hE hl ho
  have hbd : ∀ i k, i < (usU ts).length → k < (usU ts).length → 0 ≤ ((tabOf nets o ts).getD i []).getD k 0 ∧ ((tabOf nets o ts).getD i []).getD k 0 ≤ 397312 := fun i k hi hk => by rw [tab_at hi hk]; exact tabF_bd hE ts _ _
  have hlen : (tabOf nets o ts).length = (usU ts).length := by unfold tabOf; rw [List.length_map]; rfl
  have hrow : ∀ i, i < (usU ts).length → ((tabOf nets o ts).getD i []).length = (usU ts).length := fun i hi => tab_row hi
  have hsn : bestOf (arrKey nets o ts) lexB (pre ++ [to]) = bestStep (arrKey nets o ts) lexB st to := by rw [bestOf_snoc, ← hR]
  have htake := arr_take (to := to) (st := st) (ts := ts) hE
  have hkeep := arr_keep (to := to) (st := st) (ts := ts) hE
  have hmem : ∀ t ∈ ts, t ∈ usU ts := fun t ht => ((trkU_ok ts).2 t).2 ht
  have hnd : (usU ts).Nodup := asc_nodup (trkU_ok ts).1
  have htake2 : (crossOf nets o (trO (usU ts) ts to) manyI < aLeast nets o ts st ∨ crossOf nets o (trO (usU ts) ts to) manyI = aLeast nets o ts st ∧ lexB (trO (usU ts) ts to) (aBest ts st) = true) → RA nets o ts (pre ++ [to]) (some to) := fun h => by
    unfold RA; rw [hsn, htake h]
  have hkeep2 : ¬ (crossOf nets o (trO (usU ts) ts to) manyI < aLeast nets o ts st ∨ crossOf nets o (trO (usU ts) ts to) manyI = aLeast nets o ts st ∧ lexB (trO (usU ts) ts to) (aBest ts st) = true) → RA nets o ts (pre ++ [to]) st := fun h => by
    unfold RA; rw [hsn, hkeep h]
  have hI1 : IA nets o ts (some to) = SA o ts (usU ts) (tabOf nets o ts) (trO (usU ts) ts to) (crossOf nets o (trO (usU ts) ts to) manyI) := rfl
  have hI2 : IA nets o ts st = SA o ts (usU ts) (tabOf nets o ts) (aBest ts st) (aLeast nets o ts st) := rfl
  have hsum : arrS (tabOf nets o ts) to (usU ts).length (usU ts).length = crossOf nets o (trO (usU ts) ts to) manyI := hsum
  clear htake hkeep hsn
  generalize tabOf nets o ts = tab at *
  generalize aBest ts st = b at *
  generalize aLeast nets o ts st = c at *
  generalize usU ts = u at *
  have hrb : ∀ i k, k ≤ u.length → i < u.length → 0 ≤ arrRow tab to i k ∧ arrRow tab to i k ≤ k * 397312 := fun i k hk hi => by
    refine sm_bd (L := 397312) fun j hj => ?_
    have g := hbd i j hi (by omega)
    split
    · exact g
    · exact ⟨Int.le_refl _, by decide⟩
  have hpb : ∀ i, i ≤ u.length → 0 ≤ arrS tab to u.length i ∧ arrS tab to u.length i ≤ i * 25427968 := fun i hi => by
    refine sm_bd (L := 25427968) fun j hj => ?_
    have := hrb j u.length (Nat.le_refl _) (by omega)
    omega
  have hol := ho.len
  refine goalLX_blk (id := 1) (c := cat BAr gC) (rest := []) (by kernel_rfl) ?_
  refine GoalL.st (s := SAr o ts u tab b c to) known mixed hS 2 _ (ar_a0 o ts u tab b c to) (by kernel_rfl) ?_
  refine GoalL.loop (ι := { i : Nat // i ≤ u.length }) (id := 2) (b := cat BAr gA) (rest := List.drop 3 (fl BAr gC)) (by kernel_rfl) (fun i => SAa o ts u tab b c to (arrS tab to u.length i.1) i.1) (fun i => u.length - i.1) ⟨0, Nat.zero_le _⟩ (fun _ => rfl) ?_
  rintro ⟨i, hi⟩
  have hb := hpb i hi
  by_cases hlt : i < u.length
  · refine GoalL.st (s := SAa o ts u tab b c to (arrS tab to u.length i) i) known mixed hS 2 _ (ar_go o ts u tab b c to _ i (by omega)) (by kernel_rfl) ?_
    refine goalLX_blk (id := 3) (c := cat BAr gI) (rest := List.drop 3 (fl BAr gA)) (by kernel_rfl) ?_
    refine GoalL.st (s := SAa o ts u tab b c to (arrS tab to u.length i) i) known mixed hS 2 _ (ar_in o ts u tab b c to _ i) (by kernel_rfl) ?_
    rw [show SAb o ts u tab b c to (arrS tab to u.length i) i 0 = SAb o ts u tab b c to (arrS tab to u.length i + arrRow tab to i 0) i 0 from by rw [show arrRow tab to i 0 = 0 from rfl, Int.add_zero]]
    refine GoalL.loop (ι := { k : Nat // k ≤ u.length }) (id := 4) (b := cat BAr gK) (rest := List.drop 3 (fl BAr gI)) (by kernel_rfl) (fun k => SAb o ts u tab b c to (arrS tab to u.length i + arrRow tab to i k.1) i k.1) (fun k => u.length - k.1) ⟨0, Nat.zero_le _⟩ (fun _ => rfl) ?_
    rintro ⟨k, hk⟩
    have hr := hrb i k hk hlt
    by_cases hlk : k < u.length
    · have g1 := hbd i k hlt hlk
      have e1 : arrRow tab to i (k + 1) = arrRow tab to i k + (if to.getD i 0 < to.getD k 0 then (tab.getD i []).getD k 0 else 0) := rfl
      by_cases hc : to.getD i 0 < to.getD k 0
      · refine GoalL.all (s := SAb o ts u tab b c to (arrS tab to u.length i + arrRow tab to i k) i k) known mixed hS _ (ar_add o ts u tab b c to _ i k (by omega) (by omega) (by omega) hc (by omega) (by rw [hrow i hlt]; omega) (by omega) (by omega)) (by kernel_rfl) ?_
        rw [if_pos hc] at e1
        have e2 : arrS tab to u.length i + arrRow tab to i (k + 1) = arrS tab to u.length i + arrRow tab to i k + (tab.getD i []).getD k 0 := by rw [e1, Int.add_assoc]
        exact ⟨⟨k + 1, hlk⟩, by simp; omega, by show _ = (SAb o ts u tab b c to (arrS tab to u.length i + arrRow tab to i (k + 1)) i (k + 1)).T; rw [e2], by show _ = (SAb o ts u tab b c to (arrS tab to u.length i + arrRow tab to i (k + 1)) i (k + 1)).H; rw [e2]⟩
      · refine GoalL.all (s := SAb o ts u tab b c to (arrS tab to u.length i + arrRow tab to i k) i k) known mixed hS _ (ar_no o ts u tab b c to _ i k (by omega) (by omega) (by omega) hc (by omega)) (by kernel_rfl) ?_
        rw [if_neg hc, Int.add_zero] at e1
        exact ⟨⟨k + 1, hlk⟩, by simp; omega, by show _ = (SAb o ts u tab b c to (arrS tab to u.length i + arrRow tab to i (k + 1)) i (k + 1)).T; rw [e1], by show _ = (SAb o ts u tab b c to (arrS tab to u.length i + arrRow tab to i (k + 1)) i (k + 1)).H; rw [e1]⟩
    · refine GoalL.all (s := SAb o ts u tab b c to (arrS tab to u.length i + arrRow tab to i k) i k) known mixed hS _ (ar_end o ts u tab b c to _ i k (by omega)) (by kernel_rfl) ?_
      refine onN_exit (inB_exit ?_)
      obtain rfl : k = u.length := by omega
      refine goalLX_nil ar_gI ?_
      refine GoalL.all (s := SAa o ts u tab b c to (arrS tab to u.length i + arrRow tab to i u.length) i) known mixed hS _ (ar_next o ts u tab b c to _ i (by omega)) (by kernel_rfl) ?_
      exact ⟨⟨i + 1, hlt⟩, by simp; omega, rfl, rfl⟩
  · refine GoalL.st (s := SAa o ts u tab b c to (arrS tab to u.length i) i) known mixed hS 2 _ (ar_stop o ts u tab b c to _ i (by omega)) (by kernel_rfl) ?_
    refine onN_exit (onN_exit (inB_exit ?_))
    obtain rfl : i = u.length := by omega
    rw [hsum]
    generalize crossOf nets o (trO u ts to) manyI = s at *
    refine GoalL.st (s := SAa o ts u tab b c to s u.length) known mixed hS 2 _ (ar_t0 o ts u tab b c to s _) (by kernel_rfl) ?_
    refine GoalL.loop (ι := { i : Nat // i ≤ ts.length }) (id := 6) (b := cat BAr gT) (rest := List.drop 6 (fl BAr gC)) (by kernel_rfl) (fun i => SAt o ts u tab b c to s (trO u (ts.take i.1) to) i.1) (fun i => ts.length - i.1) ⟨0, Nat.zero_le _⟩ (fun _ => rfl) ?_
    rintro ⟨i, hi⟩
    have htl : (trO u (ts.take i) to).length ≤ 1000 := by rw [trO_len, List.length_take]; omega
    by_cases hlt : i < ts.length
    · have hm : ts.getD i 0 ∈ u := hmem _ (by rw [getD_lt hlt]; exact List.getElem_mem _)
      have hx := ix_eq hm
      have hx1 := (idx_of hnd hm).1
      refine GoalL.all (s := SAt o ts u tab b c to s (trO u (ts.take i) to) i) known mixed hS _ (ar_tadd o ts u tab b c to s _ i (by omega) hlt (by omega) (by rw [hx]; omega) (by rw [hx]; omega) (by omega) (by omega) (by simp) (cap_snoc _ _)) (by kernel_rfl) ?_
      have e2 : trO u (ts.take (i + 1)) to = trO u (ts.take i) to ++ [to.getD (ixU u (ts.getD i 0)).toNat 0] := by rw [tro_next hlt, hx, Int.toNat_natCast]
      exact ⟨⟨i + 1, hlt⟩, by simp; omega, by show _ = (SAt o ts u tab b c to s (trO u (ts.take (i + 1)) to) (i + 1)).T; rw [e2], by show _ = (SAt o ts u tab b c to s (trO u (ts.take (i + 1)) to) (i + 1)).H; rw [e2]⟩
    · refine GoalL.all (s := SAt o ts u tab b c to s (trO u (ts.take i) to) i) known mixed hS _ (ar_tend o ts u tab b c to s _ i (by omega)) (by kernel_rfl) ?_
      refine onN_exit (inB_exit ?_)
      obtain rfl : i = ts.length := by omega
      rw [List.take_length] at htl ⊢
      generalize trO u ts to = tr at *
      refine GoalL.freezeSlot ar_g6 (i := 70) (s := 17) (e2 := 3) (t := .int .i64) (xs := tr) (cap := capOf tr.length) (by kernel_rfl) (by kernel_rfl) ?_
      refine GoalL.refit ar_g6 (σ := pinA) (s := SAf o ts u tab b c s tr) (ar_fit1 o ts u tab b c to s tr ts.length) ?_
      by_cases h1 : s < c
      · refine GoalL.all (s := SAf o ts u tab b c s tr) known mixed hS _ (ar_lt o ts u tab b c s tr h1) (by kernel_rfl) ?_
        exact ⟨some to, htake2 (.inl h1), by rw [hI1]⟩
      · by_cases h2 : s = c
        · by_cases h3 : lexB tr b = true
          · refine GoalL.all (s := SAf o ts u tab b c s tr) known mixed hS _ (ar_eqlt o ts u tab b c s tr h1 h2 (by omega) (arr_neg.2 h3)) (by kernel_rfl) ?_
            exact ⟨some to, htake2 (.inr ⟨h2, h3⟩), by rw [hI1]⟩
          · refine GoalL.all (s := SAf o ts u tab b c s tr) known mixed hS _ (ar_eqge o ts u tab b c s tr h1 h2 (by omega) (fun h => h3 (arr_neg.1 h))) (by kernel_rfl) ?_
            exact ⟨st, hkeep2 (fun h => h.elim h1 fun g => h3 g.2), by rw [hI2]⟩
        · refine GoalL.all (s := SAf o ts u tab b c s tr) known mixed hS _ (ar_gt o ts u tab b c s tr h1 h2) (by kernel_rfl) ?_
          exact ⟨st, hkeep2 (fun h => h.elim h1 fun g => h2 g.1), by rw [hI2]⟩
theorem arrB_holds (nets : List (Int × List Int)) (n : Int) (o ts : List Int) (h : okLay nets o ts = true) : Holds Tryz.prog false 28 [nv nets, iv n, yv o ts] (.tuple [yv (arrB nets n o ts).1.1 (arrB nets n o ts).1.2, iv (arrB nets n o ts).2]) := by
  have hS := ar_ok
  obtain ⟨k1, k2, k3, k4, k5⟩ := okLay_iff h
  refine holds_flW (c := BAr) Tryz.func28 rfl rfl fun w F hF => ?_
  by_cases hL : layErr nets n o ts = 0
  · have hE := both_of_lay hL
    have hon := (Bus.orderErr_zero (both_iff.1 hE).2).1
    have hpr : okPr nets o ts = true := by
      unfold okPr
      rw [h, Bool.true_and, decide_eq_true_eq, hon]; exact hL
    by_cases h7 : (usU ts).length > 7
    · have e : arrB nets n o ts = (([], []), 21) := by unfold arrB; rw [if_pos hL, if_pos h7]
      rw [e]
      exact GoalW.full (GoalL.ret known mixed hS 10 _ (ar_wide nets n o ts h hL hpr (by omega)) fun T H h => h)
    · have e : arrB nets n o ts = ((o, aBest ts (bestA nets o ts)), 0) := by unfold arrB; rw [if_pos hL, if_neg h7]
      rw [e]
      refine GoalW.to known mixed hS (s' := SAs o ts (usU ts) (tabOf nets o ts)) 10 _ (ar_start nets n o ts h hL hpr (by omega)) (by kernel_rfl) ?_
      rw [ar_code]
      refine GoalW.rangeRows (gf := 86) (ib := 70) (e := 3) (m := ((usU ts).length : Int)) (G := IsOrd (usU ts).length) (S := fun ps => ps = ext (usU ts).length (usU ts).length []) (s0 := SAs o ts (usU ts) (tabOf nets o ts)) (σ := pinA) hF
        (IA nets o ts) none (RA nets o ts) [64, 65, 66, 67, 68, 69] (fun to => (SAr o ts (usU ts) (tabOf nets o ts) [] manyI to).T) (fun tmps v => set2 tmps 41 13 v) (by kernel_rfl) (by kernel_rfl) (enters_of Tryz.func86 (by kernel_rfl) rfl)
        (fun bn W hW => orders_seq (usU ts).length (by omega) bn W hW) rfl (ar_fit0 o ts (usU ts) (tabOf nets o ts)) (fun i => ⟨rfl, rfl, rfl⟩) (fun i => rfl) (by kernel_rfl) (by kernel_rfl) rfl ?assign ?t1 ?body ?rest
      case assign =>
        intro l tmps v W K hsz hK
        have hlt : 41 < tmps.size := by rw [hsz]; decide
        change Code.wpIn _ _ _ (Code.region 10 _ _) _ _ _
        gi_wp2
        exact hK
      case t1 =>
        intro ρ tmps v ch hT hv
        show TDen ρ (SAr o ts (usU ts) (tabOf nets o ts) [] manyI ch).T _ _
        rw [ar_T1]
        exact set2_den hT (by decide) (by decide) hv
      case body =>
        intro pre st to hR hO l K A Z sz
        exact ar_body hL (by omega) k5 hO hR l K A Z sz
      case rest =>
        intro xs st hxs hR D
        subst hxs
        have hst : st = bestA nets o ts := hR
        subst hst
        exact GoalL.stRetM (s := SA o ts (usU ts) (tabOf nets o ts) (aBest ts (bestA nets o ts)) (aLeast nets o ts (bestA nets o ts))) known mixed hS _ (ar_ret o ts (usU ts) (tabOf nets o ts) (aBest ts (bestA nets o ts)) (aLeast nets o ts (bestA nets o ts)) (by omega))
  · have e : arrB nets n o ts = (([], []), layErr nets n o ts) := by unfold arrB; rw [if_neg hL]
    rw [e]
    exact GoalW.full (GoalL.ret known mixed hS 10 _ (ar_bad nets n o ts h hL) fun T H h => h)
noncomputable def cArrB : Ctr := { f := 28, ps := [.list false tN, .int .i64, .pair (.list false (.int .i64)) (.list false (.int .i64))], rs := [.pair (.list false (.int .i64)) (.list false (.int .i64)), .int .i64], fresh := false, pre := fun d => okLay d.1 d.2.2.1.1 d.2.2.1.2, fn := fun d => ((arrB d.1 d.2.1 d.2.2.1.1 d.2.2.1.2).1, ((arrB d.1 d.2.1 d.2.2.1.1 d.2.2.1.2).2, ())) }
theorem cArrB_ok : cArrB.Ok Tryz.prog := fun ⟨nets, n, ⟨o, ts⟩, _⟩ h => arrB_holds nets n o ts h
end
end Go.Proofs.YtbldpojkpmafpaaGreatDoor
