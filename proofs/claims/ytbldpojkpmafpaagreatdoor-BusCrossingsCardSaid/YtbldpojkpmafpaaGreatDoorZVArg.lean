/- Package bus: pairs and Bound as contracts on plain data: the ways of Bound. -/
import Derived.Test.YtbldpojkpmafpaaGreatDoorZBusPairs
import Derived.Test.YtbldpojkpmafpaaGreatDoorZVRef6
import Derived.Test.YtbldpojkpmafpaaGreatDoorZVPairLaw
namespace Go.Proofs.YtbldpojkpmafpaaGreatDoor
open Go.RowKit Sv
set_option maxRecDepth 100000
set_option linter.unusedVariables false
noncomputable section
abbrev tII : Ty := .list false (.int .i64)
abbrev llv (l : List (List Int)) : AV := .lst false (.list false (.int .i64)) l
def tabF (nets : List (Int × List Int)) (order ts : List Int) (a b : Int) : Int := tabI (extsOf nets order) ts (tapFrom (Bus.atUp order order.length) 0 (nets.map Prod.snd)) a b
def tabOf (nets : List (Int × List Int)) (order ts : List Int) : List (List Int) := (trkU ts).map fun a => (trkU ts).map fun b => tabF nets order ts a b
def okPr (nets : List (Int × List Int)) (order ts : List Int) : Bool := okLay nets order ts && decide (layErr nets order.length order ts = 0)
noncomputable def cPairs : Ctr := { f := 52, ps := [.list false (.pair (.int .i64) (.list false (.int .i64))), .pair (.list false (.int .i64)) (.list false (.int .i64))], rs := [.list false (.int .i64), .list false (.list false (.int .i64))], fresh := true, pre := fun d => okPr d.1 d.2.1.1 d.2.1.2, fn := fun d => (trkU d.2.1.2, (tabOf d.1 d.2.1.1 d.2.1.2, ())) }
def BBd : Code := (Tryz.f16.body).getD .skip
def bdCs : VCaller := ctrs [cLayB, cPairs]
abbrev dO : List Nat := [1,1,1,1,0,1,0,0]
abbrev dB : List Nat := [1,1,1,1,0,1,0,0,1,1,0,0]
abbrev dK : List Nat := [1,1,1,1,0,1,0,0,1,1,0,0,1,1,0,0]
def SBd (tab : List (List Int)) (s : Int) (i : Nat) : St := { n := 56, sl := [(10, llv tab), (11, iv s), (28, iv tab.length), (29, iv i)], en := [], next := 64 }
def SBk (tab : List (List Int)) (s : Int) (i k : Nat) : St := { n := 56, sl := [(10, llv tab), (11, iv s), (12, iv i), (28, iv tab.length), (29, iv i), (32, iv i), (33, iv k)], en := [], next := 64 }
theorem bb_bad (nets : List (Int × List Int)) (n : Int) (order ts : List Int) (h1 : (okLay nets order ts) = true) (h2 : ¬layErr nets n order ts = (0 : Int)) :
    Tst.path (vrun0 Tryz.prog bdCs (fl BBd []) 4 56 [nv nets, iv n, yv order ts]) [true] (toRet Tryz.prog Tryz.f16 true (.tuple [iv 0, iv (layErr nets n order ts)])) := by
  have eTst : (Tst.path (vrun0 Tryz.prog bdCs (fl BBd []) 4 56 [nv nets, iv n, yv order ts]) [true] (toRet Tryz.prog Tryz.f16 true (.tuple [iv 0, iv (layErr nets n order ts)]))) = (((okLay nets order ts) = true) ∧ ((layErr nets n order ts != (0 : Int)) = true) ∧ (((0 : Int)) = ((0 : Int))) ∧ ((layErr nets n order ts) = (layErr nets n order ts)) ∧ True) := by kernel_rfl
  exact eTst.mpr ⟨h1, ⟨bne_iff_ne.mpr h2, ⟨rfl, ⟨rfl, trivial⟩⟩⟩⟩
theorem bb_start (nets : List (Int × List Int)) (n : Int) (order ts : List Int) (h1 : (okLay nets order ts) = true) (h2 : layErr nets n order ts = (0 : Int)) (h3 : (okPr nets order ts) = true) :
    Tst.path (vrun0 Tryz.prog bdCs (fl BBd []) 7 56 [nv nets, iv n, yv order ts]) [false] (toSt Tryz.prog 56 .normal [] (SBd (tabOf nets order ts) 0 0)) := by
  have eTst : (Tst.path (vrun0 Tryz.prog bdCs (fl BBd []) 7 56 [nv nets, iv n, yv order ts]) [false] (toSt Tryz.prog 56 .normal [] (SBd (tabOf nets order ts) 0 0))) = (((okLay nets order ts) = true) ∧ ((layErr nets n order ts != (0 : Int)) = false) ∧ ((okPr nets order ts) = true) ∧ ((tabOf nets order ts) = (tabOf nets order ts)) ∧ (((0 : Int)) = ((0 : Int))) ∧ (((↑(List.length (tabOf nets order ts)) : Int)) = ((↑(List.length (tabOf nets order ts)) : Int))) ∧ (((0 : Int)) = ((↑(0 : Nat) : Int))) ∧ True) := by kernel_rfl
  exact eTst.mpr ⟨h1, ⟨bne_eq_false_iff_eq.mpr h2, ⟨h3, ⟨rfl, ⟨rfl, ⟨rfl, ⟨rfl, trivial⟩⟩⟩⟩⟩⟩⟩
theorem bb_row (tab : List (List Int)) (s : Int) (i : Nat) (h1 : (↑i : Int) < (↑(List.length tab) : Int)) :
    Tst.path (vrun Tryz.prog bdCs (fl BBd dO) 2 (SBd tab s i)) [true] (toSt Tryz.prog 56 .normal [] (SBd tab s i)) := by
  have eTst : (Tst.path (vrun Tryz.prog bdCs (fl BBd dO) 2 (SBd tab s i)) [true] (toSt Tryz.prog 56 .normal [] (SBd tab s i))) = (((decide ((↑i : Int) < (↑(List.length tab) : Int))) = true) ∧ ((tab) = (tab)) ∧ ((s) = (s)) ∧ (((↑(List.length tab) : Int)) = ((↑(List.length tab) : Int))) ∧ (((↑i : Int)) = ((↑i : Int))) ∧ True) := by kernel_rfl
  exact eTst.mpr ⟨decide_eq_true h1, ⟨rfl, ⟨rfl, ⟨rfl, ⟨rfl, trivial⟩⟩⟩⟩⟩
theorem bb_stop (tab : List (List Int)) (s : Int) (i : Nat) (h1 : ¬(↑i : Int) < (↑(List.length tab) : Int)) :
    Tst.path (vrun Tryz.prog bdCs (fl BBd dO) 2 (SBd tab s i)) [false] (toSt Tryz.prog 56 (.exit 0) [] (SBd tab s i)) := by
  have eTst : (Tst.path (vrun Tryz.prog bdCs (fl BBd dO) 2 (SBd tab s i)) [false] (toSt Tryz.prog 56 (.exit 0) [] (SBd tab s i))) = (((decide ((↑i : Int) < (↑(List.length tab) : Int))) = false) ∧ ((tab) = (tab)) ∧ ((s) = (s)) ∧ (((↑(List.length tab) : Int)) = ((↑(List.length tab) : Int))) ∧ (((↑i : Int)) = ((↑i : Int))) ∧ True) := by kernel_rfl
  exact eTst.mpr ⟨decide_eq_false h1, ⟨rfl, ⟨rfl, ⟨rfl, ⟨rfl, trivial⟩⟩⟩⟩⟩
theorem bb_in (tab : List (List Int)) (s : Int) (i : Nat)  :
    Tst.path (vrun Tryz.prog bdCs (fl BBd dB) 2 (SBd tab s i)) [] (toSt Tryz.prog 56 .normal [] (SBk tab s i 0)) := by
  have eTst : (Tst.path (vrun Tryz.prog bdCs (fl BBd dB) 2 (SBd tab s i)) [] (toSt Tryz.prog 56 .normal [] (SBk tab s i 0))) = (((tab) = (tab)) ∧ ((s) = (s)) ∧ (((↑i : Int)) = ((↑i : Int))) ∧ (((↑(List.length tab) : Int)) = ((↑(List.length tab) : Int))) ∧ (((↑i : Int)) = ((↑i : Int))) ∧ (((↑i : Int)) = ((↑i : Int))) ∧ (((0 : Int)) = ((↑(0 : Nat) : Int))) ∧ True) := by kernel_rfl
  exact eTst.mpr ⟨rfl, ⟨rfl, ⟨rfl, ⟨rfl, ⟨rfl, ⟨rfl, ⟨rfl, trivial⟩⟩⟩⟩⟩⟩⟩
theorem bb_add (tab : List (List Int)) (s : Int) (i k : Nat) (h1 : (↑k : Int) < (↑i : Int)) (h2 : i < List.length tab) (h3 : k < List.length (List.getD tab i [])) (h4 : k < List.length tab) (h5 : i < List.length (List.getD tab k [])) (h6 : -9223372036854775808 ≤ s + (if List.getD (List.getD tab k []) i (0 : Int) < List.getD (List.getD tab i []) k (0 : Int) then List.getD (List.getD tab k []) i (0 : Int) else List.getD (List.getD tab i []) k (0 : Int)) ∧ s + (if List.getD (List.getD tab k []) i (0 : Int) < List.getD (List.getD tab i []) k (0 : Int) then List.getD (List.getD tab k []) i (0 : Int) else List.getD (List.getD tab i []) k (0 : Int)) ≤ 9223372036854775807) (h7 : -9223372036854775808 ≤ (↑k : Int) + (1 : Int) ∧ (↑k : Int) + (1 : Int) ≤ 9223372036854775807) :
    Tst.path (vall Tryz.prog bdCs (fl BBd dK) (SBk tab s i k)) [true] (toSt Tryz.prog 56 .normal [] (SBk tab (s + (if (tab.getD k []).getD i 0 < (tab.getD i []).getD k 0 then (tab.getD k []).getD i 0 else (tab.getD i []).getD k 0)) i (k + 1))) := by
  have eTst : (Tst.path (vall Tryz.prog bdCs (fl BBd dK) (SBk tab s i k)) [true] (toSt Tryz.prog 56 .normal [] (SBk tab (s + (if (tab.getD k []).getD i 0 < (tab.getD i []).getD k 0 then (tab.getD k []).getD i 0 else (tab.getD i []).getD k 0)) i (k + 1)))) = (((decide ((↑k : Int) < (↑i : Int))) = true) ∧ ((decide ((0 : Int) ≤ (↑i : Int))) = true) ∧ ((decide (i < List.length tab)) = true) ∧ ((AV.same (AV.lst false (Ty.int IntKind.i64) (List.getD tab i [])) (AV.lst false (Ty.int IntKind.i64) (List.getD tab i []))) = true) ∧ ((decide ((0 : Int) ≤ (↑k : Int))) = true) ∧ ((decide (k < List.length (List.getD tab i []))) = true) ∧ ((AV.same (AV.raw (Value.int IntKind.i64 (List.getD (List.getD tab i []) k (0 : Int)))) (AV.raw (Value.int IntKind.i64 (List.getD (List.getD tab i []) k (0 : Int))))) = true) ∧ ((decide ((0 : Int) ≤ (↑k : Int))) = true) ∧ ((decide (k < List.length tab)) = true) ∧ ((AV.same (AV.lst false (Ty.int IntKind.i64) (List.getD tab k [])) (AV.lst false (Ty.int IntKind.i64) (List.getD tab k []))) = true) ∧ ((decide ((0 : Int) ≤ (↑i : Int))) = true) ∧ ((decide (i < List.length (List.getD tab k []))) = true) ∧ ((AV.same (AV.raw (Value.int IntKind.i64 (List.getD (List.getD tab k []) i (0 : Int)))) (AV.raw (Value.int IntKind.i64 (List.getD (List.getD tab k []) i (0 : Int))))) = true) ∧ ((fits IntKind.i64 (s + (if List.getD (List.getD tab k []) i (0 : Int) < List.getD (List.getD tab i []) k (0 : Int) then List.getD (List.getD tab k []) i (0 : Int) else List.getD (List.getD tab i []) k (0 : Int))) = true)) ∧ ((fits IntKind.i64 ((↑k : Int) + (1 : Int))) = true) ∧ ((tab) = (tab)) ∧ ((s + (if List.getD (List.getD tab k []) i (0 : Int) < List.getD (List.getD tab i []) k (0 : Int) then List.getD (List.getD tab k []) i (0 : Int) else List.getD (List.getD tab i []) k (0 : Int)) = (s + if List.getD (List.getD tab k []) i (0 : Int) < List.getD (List.getD tab i []) k (0 : Int) then List.getD (List.getD tab k []) i (0 : Int) else List.getD (List.getD tab i []) k (0 : Int)))) ∧ (((↑i : Int)) = ((↑i : Int))) ∧ (((↑(List.length tab) : Int)) = ((↑(List.length tab) : Int))) ∧ (((↑i : Int)) = ((↑i : Int))) ∧ (((↑i : Int)) = ((↑i : Int))) ∧ (((↑k : Int) + (1 : Int)) = ((↑(k + (1 : Nat)) : Int))) ∧ True) := by kernel_rfl
  exact eTst.mpr ⟨decide_eq_true h1, ⟨decide_eq_true (by omega), ⟨decide_eq_true h2, ⟨same_refl (by kernel_rfl), ⟨decide_eq_true (by omega), ⟨decide_eq_true h3, ⟨same_refl (by kernel_rfl), ⟨decide_eq_true (by omega), ⟨decide_eq_true h4, ⟨same_refl (by kernel_rfl), ⟨decide_eq_true (by omega), ⟨decide_eq_true h5, ⟨same_refl (by kernel_rfl), ⟨fits_i64 h6, ⟨fits_i64 h7, ⟨rfl, ⟨(by omega), ⟨rfl, ⟨rfl, ⟨rfl, ⟨rfl, ⟨(by omega), trivial⟩⟩⟩⟩⟩⟩⟩⟩⟩⟩⟩⟩⟩⟩⟩⟩⟩⟩⟩⟩⟩⟩
theorem bb_end (tab : List (List Int)) (s : Int) (i k : Nat) (h1 : ¬(↑k : Int) < (↑i : Int)) :
    Tst.path (vall Tryz.prog bdCs (fl BBd dK) (SBk tab s i k)) [false] (toSt Tryz.prog 56 (.exit 2) [] (SBd tab s i)) := by
  have eTst : (Tst.path (vall Tryz.prog bdCs (fl BBd dK) (SBk tab s i k)) [false] (toSt Tryz.prog 56 (.exit 2) [] (SBd tab s i))) = (((decide ((↑k : Int) < (↑i : Int))) = false) ∧ ((tab) = (tab)) ∧ ((s) = (s)) ∧ (((↑(List.length tab) : Int)) = ((↑(List.length tab) : Int))) ∧ (((↑i : Int)) = ((↑i : Int))) ∧ True) := by kernel_rfl
  exact eTst.mpr ⟨decide_eq_false h1, ⟨rfl, ⟨rfl, ⟨rfl, ⟨rfl, trivial⟩⟩⟩⟩⟩
theorem bb_next (tab : List (List Int)) (s : Int) (i : Nat) (h1 : -9223372036854775808 ≤ (↑i : Int) + (1 : Int) ∧ (↑i : Int) + (1 : Int) ≤ 9223372036854775807) :
    Tst.path (vall Tryz.prog bdCs (List.drop 3 (fl BBd dO)) (SBd tab s i)) [] (toSt Tryz.prog 56 .normal [] (SBd tab s (i + 1))) := by
  have eTst : (Tst.path (vall Tryz.prog bdCs (List.drop 3 (fl BBd dO)) (SBd tab s i)) [] (toSt Tryz.prog 56 .normal [] (SBd tab s (i + 1)))) = (((fits IntKind.i64 ((↑i : Int) + (1 : Int))) = true) ∧ ((tab) = (tab)) ∧ ((s) = (s)) ∧ (((↑(List.length tab) : Int)) = ((↑(List.length tab) : Int))) ∧ (((↑i : Int) + (1 : Int)) = ((↑(i + (1 : Nat)) : Int))) ∧ True) := by kernel_rfl
  exact eTst.mpr ⟨fits_i64 h1, ⟨rfl, ⟨rfl, ⟨rfl, ⟨(by omega), trivial⟩⟩⟩⟩⟩
theorem bb_ret (tab : List (List Int)) (s : Int) (i : Nat)  :
    Tst.path (vall Tryz.prog bdCs (List.drop 8 (fl BBd [])) (SBd tab s i)) [] (toRet Tryz.prog Tryz.f16 true (.tuple [iv s, iv 0])) := by
  have eTst : (Tst.path (vall Tryz.prog bdCs (List.drop 8 (fl BBd [])) (SBd tab s i)) [] (toRet Tryz.prog Tryz.f16 true (.tuple [iv s, iv 0]))) = (((s) = (s)) ∧ (((0 : Int)) = ((0 : Int))) ∧ True) := by kernel_rfl
  exact eTst.mpr ⟨rfl, ⟨rfl, trivial⟩⟩
theorem dens_pr {F : Env} {w : World} {nets : List (Int × List Int)} {order ts : List Int} {xs : List Value} (hF : OkF w F) (hg : GoodNets nets) (hd : Dens F [nv nets, yv order ts] xs) :
    ∃ (A A2 A3 : Option Addr) (c c2 c3 : Nat) (l : List NetAt), xs = [.slice A l.length c, .agg #[.slice A2 order.length c2, .slice A3 ts.length c3]] ∧ l.map NetAt.net = nets ∧ NetsIn w w.heap.size A l ∧ Row w w.heap.size A2 (ic order) ∧ Row w w.heap.size A3 (ic ts) := by
  cases hd with
  | cons d1 d2 =>
    cases d2 with
    | cons d3 d4 =>
      cases d4
      obtain ⟨A, c, l, rfl, h1, h2⟩ := den_nets hF hg d1
      obtain ⟨ys, e1, rfl⟩ := Den.agg_inv (cs := [lv order, lv ts]) d3
      cases e1 with
      | cons e1 e2 =>
        cases e2 with
        | cons e2 e3 =>
          cases e3
          obtain ⟨A2, c2, rfl, hc2, h3⟩ := den_ints hF e1
          obtain ⟨A3, c3, rfl, hc3, h4⟩ := den_ints hF e2
          exact ⟨A, A2, A3, c, c2, c3, l, rfl, h1, h2, h3, h4⟩
theorem row_of_blk {w : World} {b : Nat} {t : TypeId} {vs : List Value} (h : Blk w b t vs.toArray) : Row w w.heap.size (some ⟨b, 0, none⟩) vs := .inr ⟨b, 0, rfl, h.lt, fun i hi => by
  rw [Nat.zero_add, h.cell i]
  simp [List.getD_eq_getElem?_getD, hi]⟩
theorem rows_den {w' : World} {n0 : Nat} {at' : Nat → Option (Nat × Nat)} {us : List Int} {f : Int → Int → Int} {t : Nat} (ht : TabIs w' us (fun j => t + 2 + j) f) (hn : n0 ≤ t) :
    ∀ (k : Nat), k ≤ us.length → Dens ⟨at', fun b => if n0 ≤ b then cellsOf? w' b else none⟩ (Ty.flat tII ((us.take k).map fun a => us.map fun b => f a b)) ((List.range k).map (rowS t us.length))
  | 0, _ => .nil
  | k + 1, hk => by
    rw [take_next (show k < us.length by omega), List.map_append, Ty.flat_append, List.range_succ, List.map_append]
    refine (rows_den ht hn k (by omega)).append ?_
    have h1 := ht k (by omega)
    have e : (us.map fun b => Value.int .i64 (f (us.getD k 0) b)) = (us.map fun b => f (us.getD k 0) b).map (Value.int .i64) := by rw [List.map_map]; rfl
    rw [e] at h1
    have h2 := ints_den (n0 := n0) (at' := at') (c := us.length) (row_of_blk h1) (.inr fun b off h => by cases h; show n0 ≤ t + 2 + k; omega) (by simp)
    rw [List.length_map] at h2
    exact .cons h2 .nil
theorem pairs_holds (nets : List (Int × List Int)) (order ts : List Int) (h : okPr nets order ts = true) : Holds Tryz.prog true 52 [nv nets, yv order ts] (.tuple [lv (trkU ts), llv (tabOf nets order ts)]) := fun w F xs hF hd => by
  obtain ⟨h0, hE⟩ := Bool.and_eq_true_iff.1 h
  have hE := of_decide_eq_true hE
  obtain ⟨h1, h2, h3, h4, h5⟩ := okLay_iff h0
  have hB := both_of_lay hE
  have htl : ts.length = nets.length := by
    unfold layErr at hE
    rw [if_neg (fun g => g hB)] at hE
    by_cases g : ts.length ≠ nets.length
    · rw [if_pos g] at hE; cases hE
    · exact Classical.not_not.1 g
  obtain ⟨A, A2, A3, c, c2, c3, l, rfl, hl, hN, hR, hS⟩ := dens_pr hF h1 hd
  have hll : l.length = nets.length := by rw [← hl, List.length_map]
  have e1 : l.map NetAt.cols = nets.map Prod.snd := by rw [← hl, List.map_map]; rfl
  have hp := pairs_any A A2 A3 c c2 c3 w.heap.size l order ts order.length w hN hR hS (Nat.le_refl _) (by rw [hl]; exact hB) (by omega)
  rw [hl, e1] at hp
  refine hp.mono fun e w' ⟨U, cu, t, g1, g2, g3, g4, g5, g6⟩ => ?_
  obtain ⟨U', cu', eU, hcu, hr⟩ := own_cap g2
  cases eU
  have hd1 := ints_den (n0 := w.heap.size) (at' := F.at') hr (.inr (own_fresh g2)) hcu
  have hlen : (tabOf nets order ts).length = (trkU ts).length := by unfold tabOf; rw [List.length_map]
  have hrows := rows_den (n0 := w.heap.size) (at' := F.at') g5 g3 (trkU ts).length (Nat.le_refl _)
  rw [List.take_length] at hrows
  have hout : (outerS t (trkU ts).length (trkU ts).length) = (List.range (trkU ts).length).map (rowS t (trkU ts).length) := by unfold outerS; simp
  rw [hout] at g4
  have hd2 := fresh_den (n0 := w.heap.size) (at' := F.at') (t := tII) (xs := tabOf nets order ts) (c := (trkU ts).length) (row_of_blk g4) hrows (by decide) (.inr fun b off h => by cases h; omega) (by omega)
  rw [hlen] at hd2
  refine ⟨_, ⟨F.at', fun b => if w.heap.size ≤ b then cellsOf? w' b else none⟩, g1, .tuple (.cons hd1 (.cons hd2 .nil)), ⟨hF.glob, hF.all, fun b A hb => ?_⟩, fun b A hb => .inr ?_, g6⟩
  · have hb : (if w.heap.size ≤ b then cellsOf? w' b else none) = some A := hb
    split at hb
    · exact cellsOf?_some.1 hb
    · cases hb
  · have hb : (if w.heap.size ≤ b then cellsOf? w' b else none) = some A := hb
    split at hb
    · assumption
    · cases hb
theorem cPairs_ok : cPairs.Ok Tryz.prog := fun ⟨nets, ⟨order, ts⟩, _⟩ h => pairs_holds nets order ts h
end
end Go.Proofs.YtbldpojkpmafpaaGreatDoor

/- The reference of package bus: over, Under, used, Crossings, Bound, Mirror: what they return. -/
namespace Go.Proofs.YtbldpojkpmafpaaGreatDoor
open Go.RowKit Sv
set_option maxRecDepth 100000
set_option linter.unusedVariables false
noncomputable section
theorem ov_bd (nets : List (Int × List Int)) (order ts : List Int) (tr p : Int) (i : Nat) : 0 ≤ ovR nets order ts tr p i ∧ ovR nets order ts tr p i ≤ i := by
  have := sm_bd (f := fun k => if ts.getD k 0 = tr ∧ covR (refExt order (nets.getD k (0, [])).2) p = true then 1 else 0) (L := 1) (n := i) fun k _ => by split <;> omega
  unfold ovR; omega
theorem over_holds (nets : List (Int × List Int)) (order ts : List Int) (tr p : Int) (h : okNets nets order = true) (ht : nets.length ≤ ts.length) : Holds Tryz.prog true 100 [nv nets, lv order, lv ts, iv tr, iv p] (iv (ovR nets order ts tr p nets.length)) := by
  obtain ⟨hn, ho, hg⟩ := okNets_iff h
  have hS := one_ok cCovers_ok
  have hcov : ∀ i, i < nets.length → (decide (order.length ≤ 1000) && decide ((nets.getD i (0, [])).2.length ≤ 140737488355328)) = true := fun i hi => by
    rw [decide_eq_true ho, decide_eq_true (hg _ (getN_mem hi))]; rfl
  refine holds_fl (c := BOv) Tryz.func100 rfl rfl fun w F => ?_
  refine GoalL.to known mixed hS 3 _ (ov_start nets order ts tr p) (by kernel_rfl) ?_
  refine GoalL.loop (ι := { i : Nat // i ≤ nets.length }) (id := 0) (b := cat BOv [1,1,0,1,0,0]) (rest := List.drop 4 (fl BOv [])) (by kernel_rfl) (fun i => SOv nets order ts tr p (ovR nets order ts tr p i.1) i.1) (fun i => nets.length - i.1) ⟨0, Nat.zero_le _⟩ (fun _ => rfl) ?_
  rintro ⟨i, hi⟩
  have hb := ov_bd nets order ts tr p i
  by_cases hlt : i < nets.length
  · have en : ovR nets order ts tr p (i + 1) = ovR nets order ts tr p i + if ts.getD i 0 = tr ∧ covR (refExt order (nets.getD i (0, [])).2) p = true then 1 else 0 := rfl
    by_cases h1 : ts.getD i 0 = tr
    · by_cases h2 : covR (refExt order (nets.getD i (0, [])).2) p = true
      · rw [if_pos ⟨h1, h2⟩] at en
        refine GoalL.all (s := SOv nets order ts tr p (ovR nets order ts tr p i) i) known mixed hS _ (ov_add nets order ts tr p _ i (by omega) (by omega) h1 hlt (hcov i hlt) h2 (by omega) (by omega)) (by kernel_rfl) ?_
        exact ⟨⟨i + 1, hlt⟩, by simp; omega, by show _ = (SOv nets order ts tr p (ovR nets order ts tr p (i + 1)) (i + 1)).T; rw [en], by show _ = (SOv nets order ts tr p (ovR nets order ts tr p (i + 1)) (i + 1)).H; rw [en]⟩
      · rw [if_neg (fun h => h2 h.2), Int.add_zero] at en
        refine GoalL.all (s := SOv nets order ts tr p (ovR nets order ts tr p i) i) known mixed hS _ (ov_nc nets order ts tr p _ i (by omega) (by omega) h1 hlt (hcov i hlt) (by simpa using h2) (by omega)) (by kernel_rfl) ?_
        exact ⟨⟨i + 1, hlt⟩, by simp; omega, by show _ = (SOv nets order ts tr p (ovR nets order ts tr p (i + 1)) (i + 1)).T; rw [en], by show _ = (SOv nets order ts tr p (ovR nets order ts tr p (i + 1)) (i + 1)).H; rw [en]⟩
    · rw [if_neg (fun h => h1 h.1), Int.add_zero] at en
      refine GoalL.all (s := SOv nets order ts tr p (ovR nets order ts tr p i) i) known mixed hS _ (ov_ne nets order ts tr p _ i (by omega) (by omega) h1 (by omega)) (by kernel_rfl) ?_
      exact ⟨⟨i + 1, hlt⟩, by simp; omega, by show _ = (SOv nets order ts tr p (ovR nets order ts tr p (i + 1)) (i + 1)).T; rw [en], by show _ = (SOv nets order ts tr p (ovR nets order ts tr p (i + 1)) (i + 1)).H; rw [en]⟩
  · refine GoalL.all (s := SOv nets order ts tr p (ovR nets order ts tr p i) i) known mixed hS _ (ov_end nets order ts tr p _ i (by omega)) (by kernel_rfl) ?_
    refine onN_exit (inB_exit ?_)
    obtain rfl : i = nets.length := by omega
    exact GoalL.allRet (s := SOv nets order ts tr p (ovR nets order ts tr p nets.length) nets.length) known mixed hS _ (ov_ret nets order ts tr p _ _) fun T H h => h
theorem cOver_ok : cOver.Ok Tryz.prog := fun ⟨nets, order, ts, tr, p, _⟩ h => by
  obtain ⟨h1, h2⟩ := Bool.and_eq_true_iff.1 h
  exact over_holds nets order ts tr p h1 (of_decide_eq_true h2)
/-! ### Under -/
theorem okCr_iff {nets : List (Int × List Int)} {order ts : List Int} (h : okCr nets order ts = true) : nets.length ≤ 64 ∧ order.length ≤ 1000 ∧ nets.length ≤ ts.length ∧ ts.length ≤ 1000 ∧ ∀ x ∈ nets, x.2.length ≤ 1000 := by
  unfold okCr at h
  simp only [Bool.and_eq_true, decide_eq_true_eq, List.all_eq_true] at h
  exact h
theorem okCr_nets {nets : List (Int × List Int)} {order ts : List Int} (h : okCr nets order ts = true) : okNets nets order = true := by
  obtain ⟨h1, h2, h3, h4, h5⟩ := okCr_iff h
  unfold okNets
  rw [decide_eq_true (show nets.length ≤ 500 by omega), decide_eq_true h2, Bool.true_and, Bool.true_and, List.all_eq_true]
  exact fun x hx => decide_eq_true (by have := h5 x hx; omega)
theorem tapR_bd {nets : List (Int × List Int)} (order ts : List Int) (hn : nets.length ≤ 64) (b : Int) (j c : Nat) : 0 ≤ tapR nets order ts b j c ∧ tapR nets order ts b j c ≤ c * 64 := by
  have := sm_bd (f := fun c => ovR nets order ts b (Bus.pos order ((nets.getD j (0, [])).2.getD c 0)) nets.length) (L := 64) (n := c) fun k _ => by
    have := ov_bd nets order ts b (Bus.pos order ((nets.getD j (0, [])).2.getD k 0)) nets.length
    omega
  unfold tapR; omega
theorem undR_bd {nets : List (Int × List Int)} {order ts : List Int} (h : okCr nets order ts = true) (b a : Int) (i : Nat) (hi : i ≤ nets.length) : 0 ≤ undR nets order ts b a i ∧ undR nets order ts b a i ≤ i * 64000 := by
  obtain ⟨h1, h2, h3, h4, h5⟩ := okCr_iff h
  have := sm_bd (f := fun j => if ts.getD j 0 = a then tapR nets order ts b j (nets.getD j (0, [])).2.length else 0) (L := 64000) (n := i) fun j hj => by
    have := tapR_bd order ts h1 b j (nets.getD j (0, [])).2.length
    have := h5 _ (getN_mem (show j < nets.length by omega))
    split <;> omega
  unfold undR; omega
theorem un_ok : CallOk Tryz.prog (gS unCs) := ctrs_ok fun c hc => by
  simp only [List.mem_cons, List.not_mem_nil, or_false] at hc
  rcases hc with rfl | rfl
  · exact cPos_ok
  · exact cOver_ok
theorem uB_end : List.drop 4 (fl BUn uB) = [] := by kernel_rfl
theorem under_holds (nets : List (Int × List Int)) (order ts : List Int) (b a : Int) (h : okCr nets order ts = true) : Holds Tryz.prog true 57 [nv nets, yv order ts, iv b, iv a] (iv (undR nets order ts b a nets.length)) := by
  obtain ⟨h1, h2, h3, h4, h5⟩ := okCr_iff h
  have hS := un_ok
  have hpre : (okNets nets order && decide (nets.length ≤ ts.length)) = true := by rw [okCr_nets h, decide_eq_true h3]; rfl
  refine holds_fl (c := BUn) Tryz.func57 rfl rfl fun w F => ?_
  refine GoalL.to known mixed hS 3 _ (un_start nets order ts b a) (by kernel_rfl) ?_
  refine GoalL.loop (ι := { i : Nat // i ≤ nets.length }) (id := 0) (b := cat BUn uO) (rest := List.drop 4 (fl BUn [])) (by kernel_rfl) (fun i => SUn nets order ts b a (undR nets order ts b a i.1) i.1) (fun i => nets.length - i.1) ⟨0, Nat.zero_le _⟩ (fun _ => rfl) ?_
  rintro ⟨i, hi⟩
  have hb := undR_bd h b a i hi
  by_cases hlt : i < nets.length
  · have en : undR nets order ts b a (i + 1) = undR nets order ts b a i + if ts.getD i 0 = a then tapR nets order ts b i (nets.getD i (0, [])).2.length else 0 := rfl
    have hlen := h5 _ (getN_mem hlt)
    refine GoalL.st (s := SUn nets order ts b a (undR nets order ts b a i) i) known mixed hS 2 _ (un_row nets order ts b a _ i (by omega)) (by kernel_rfl) ?_
    refine goalL_blk (id := 1) (c := cat BUn uB) (rest := List.drop 3 (fl BUn uO)) (by kernel_rfl) ?_
    by_cases ha : ts.getD i 0 = a
    · rw [if_pos ha] at en
      refine GoalL.st (s := SUn nets order ts b a (undR nets order ts b a i) i) known mixed hS 3 _ (un_in nets order ts b a _ i (by omega) ha) (by kernel_rfl) ?_
      rw [show SUk nets order ts b a (undR nets order ts b a i) i 0 = SUk nets order ts b a (undR nets order ts b a i + tapR nets order ts b i 0) i 0 from by rw [show tapR nets order ts b i 0 = 0 from rfl, Int.add_zero]]
      refine GoalL.loop (ι := { k : Nat // k ≤ (nets.getD i (0, [])).2.length }) (id := 2) (b := cat BUn uK) (rest := List.drop 4 (fl BUn uB)) (by kernel_rfl) (fun k => SUk nets order ts b a (undR nets order ts b a i + tapR nets order ts b i k.1) i k.1) (fun k => (nets.getD i (0, [])).2.length - k.1) ⟨0, Nat.zero_le _⟩ (fun _ => rfl) ?_
      rintro ⟨k, hk⟩
      have hc := tapR_bd order ts h1 b i k
      by_cases hlk : k < (nets.getD i (0, [])).2.length
      · have ho := ov_bd nets order ts b (Bus.pos order ((nets.getD i (0, [])).2.getD k 0)) nets.length
        refine GoalL.all (s := SUk nets order ts b a (undR nets order ts b a i + tapR nets order ts b i k) i k) known mixed hS _ (un_add nets order ts b a _ i k hlt (by omega) hlk (by omega) hpre ⟨by omega, by omega⟩ (by omega)) (by kernel_rfl) ?_
        have e2 : undR nets order ts b a i + tapR nets order ts b i (k + 1) = undR nets order ts b a i + tapR nets order ts b i k + ovR nets order ts b (Bus.pos order ((nets.getD i (0, [])).2.getD k 0)) nets.length := (Int.add_assoc _ _ _).symm
        exact ⟨⟨k + 1, hlk⟩, by show (nets.getD i (0, [])).2.length - (k + 1) < (nets.getD i (0, [])).2.length - k; omega, by show _ = (SUk nets order ts b a (undR nets order ts b a i + tapR nets order ts b i (k + 1)) i (k + 1)).T; rw [e2], by show _ = (SUk nets order ts b a (undR nets order ts b a i + tapR nets order ts b i (k + 1)) i (k + 1)).H; rw [e2]⟩
      · refine GoalL.all (s := SUk nets order ts b a (undR nets order ts b a i + tapR nets order ts b i k) i k) known mixed hS _ (un_end nets order ts b a _ i k hlt (by omega)) (by kernel_rfl) ?_
        refine onN_exit (inB_exit ?_)
        obtain rfl : k = (nets.getD i (0, [])).2.length := by omega
        refine goalL_nil uB_end ?_
        refine GoalL.all (s := SUn nets order ts b a (undR nets order ts b a i + tapR nets order ts b i (nets.getD i (0, [])).2.length) i) known mixed hS _ (un_next nets order ts b a _ i (by omega)) (by kernel_rfl) ?_
        exact ⟨⟨i + 1, hlt⟩, by simp; omega, by show _ = (SUn nets order ts b a (undR nets order ts b a (i + 1)) (i + 1)).T; rw [en], by show _ = (SUn nets order ts b a (undR nets order ts b a (i + 1)) (i + 1)).H; rw [en]⟩
    · rw [if_neg ha, Int.add_zero] at en
      refine GoalL.st (s := SUn nets order ts b a (undR nets order ts b a i) i) known mixed hS 2 _ (un_skip nets order ts b a _ i (by omega) ha) (by kernel_rfl) ?_
      refine onN_exit (inB_exit ?_)
      refine GoalL.all (s := SUn nets order ts b a (undR nets order ts b a i) i) known mixed hS _ (un_next nets order ts b a _ i (by omega)) (by kernel_rfl) ?_
      exact ⟨⟨i + 1, hlt⟩, by simp; omega, by show _ = (SUn nets order ts b a (undR nets order ts b a (i + 1)) (i + 1)).T; rw [en], by show _ = (SUn nets order ts b a (undR nets order ts b a (i + 1)) (i + 1)).H; rw [en]⟩
  · refine GoalL.st (s := SUn nets order ts b a (undR nets order ts b a i) i) known mixed hS 2 _ (un_stop nets order ts b a _ i (by omega)) (by kernel_rfl) ?_
    refine onN_exit (onN_exit (inB_exit ?_))
    obtain rfl : i = nets.length := by omega
    exact GoalL.allRet (s := SUn nets order ts b a (undR nets order ts b a nets.length) nets.length) known mixed hS _ (un_ret nets order ts b a _ _) fun T H h => h
theorem cUnder_ok : cUnder.Ok Tryz.prog := fun ⟨nets, ⟨order, ts⟩, b, a, _⟩ h => under_holds nets order ts b a h
/-! ### used -/
theorem used_holds (order ts : List Int) (hl : ts.length ≤ 1000000) : Holds Tryz.prog true 56 [yv order ts] (lv (usedR ts 64)) := by
  have hS := one_ok cIn_ok
  refine holds_fl (c := BUs) Tryz.func56 rfl rfl fun w F => ?_
  refine GoalL.to known mixed hS 3 _ (us_start order ts) (by kernel_rfl) ?_
  refine GoalL.loop (ι := { t : Nat // t ≤ 64 }) (id := 0) (b := cat BUs [1,1,0,1,0,0]) (rest := List.drop 4 (fl BUs [])) (by kernel_rfl) (fun t => SUs order ts (usedR ts t.1) t.1) (fun t => 64 - t.1) ⟨0, Nat.zero_le _⟩ (fun _ => rfl) ?_
  rintro ⟨t, ht⟩
  have hul := used_len ts t
  by_cases hlt : t < 64
  · by_cases hm : (t : Int) ∈ ts
    · refine GoalL.all (s := SUs order ts (usedR ts t) t) known mixed hS _ (us_add order ts _ t (by omega) hl hm (by omega) (by omega) (by simp) (cap_snoc _ _)) (by kernel_rfl) ?_
      have e : usedR ts (t + 1) = usedR ts t ++ [(t : Int)] := by rw [usedR, if_pos hm]
      exact ⟨⟨t + 1, hlt⟩, by simp; omega, by show _ = (SUs order ts (usedR ts (t + 1)) (t + 1)).T; rw [e], by show _ = (SUs order ts (usedR ts (t + 1)) (t + 1)).H; rw [e]⟩
    · refine GoalL.all (s := SUs order ts (usedR ts t) t) known mixed hS _ (us_no order ts _ t (by omega) hl hm (by omega)) (by kernel_rfl) ?_
      have e : usedR ts (t + 1) = usedR ts t := by rw [usedR, if_neg hm]
      exact ⟨⟨t + 1, hlt⟩, by simp; omega, by show _ = (SUs order ts (usedR ts (t + 1)) (t + 1)).T; rw [e], by show _ = (SUs order ts (usedR ts (t + 1)) (t + 1)).H; rw [e]⟩
  · refine GoalL.all (s := SUs order ts (usedR ts t) t) known mixed hS _ (us_end order ts _ t (by omega)) (by kernel_rfl) ?_
    refine onN_exit (inB_exit ?_)
    obtain rfl : t = 64 := by omega
    exact GoalL.allRet (s := SUs order ts (usedR ts 64) 64) known mixed hS _ (us_ret order ts _ _ (lst_back _) (own_back _ _) (by simp)) fun T H h => h
theorem cUsed_ok : cUsed.Ok Tryz.prog := fun ⟨⟨order, ts⟩, _⟩ h => used_holds order ts (of_decide_eq_true h)
theorem cr_ok : CallOk Tryz.prog (gS crCs) := ctrs_ok fun c hc => by
  simp only [List.mem_cons, List.not_mem_nil, or_false] at hc
  rcases hc with rfl | rfl
  · exact cUsed_ok
  · exact cUnder_ok
theorem mn_bd {a b L : Int} (h1 : 0 ≤ a ∧ a ≤ L) (h2 : 0 ≤ b ∧ b ≤ L) : 0 ≤ mn a b ∧ mn a b ≤ L := by
  unfold mn; split <;> omega
/-! ### Crossings -/
theorem crB_end : List.drop 2 (fl BCr cB) = [] := by kernel_rfl
theorem cr_rowbd {nets : List (Int × List Int)} {order ts : List Int} (h : okCr nets order ts = true) (u : List Int) (i k : Nat) : 0 ≤ crsRow nets order ts u i k ∧ crsRow nets order ts u i k ≤ k * 4096000 := by
  have hn := (okCr_iff h).1
  refine sm_bd (L := 4096000) fun j _ => ?_
  have h1 := undR_bd h (u.getD j 0) (u.getD i 0) nets.length (Nat.le_refl _)
  have h2 := undR_bd h (u.getD i 0) (u.getD j 0) nets.length (Nat.le_refl _)
  omega
theorem cr_bd {nets : List (Int × List Int)} {order ts : List Int} (h : okCr nets order ts = true) (u : List Int) (i : Nat) (hi : i ≤ 64) : 0 ≤ crsR nets order ts u i ∧ crsR nets order ts u i ≤ i * 262144000 := by
  refine sm_bd (L := 262144000) fun j hj => ?_
  have := cr_rowbd h u j j
  omega
theorem cr_holds (nets : List (Int × List Int)) (order ts : List Int) (h : okCr nets order ts = true) : Holds Tryz.prog true 20 [nv nets, yv order ts] (iv (crsR nets order ts (usedR ts 64) (usedR ts 64).length)) := by
  obtain ⟨h1, h2, h3, h4, h5⟩ := okCr_iff h
  have hS := cr_ok
  refine holds_fl (c := BCr) Tryz.func20 rfl rfl fun w F => ?_
  refine GoalL.to known mixed hS 4 _ (cr_start nets order ts (by omega)) (by kernel_rfl) ?_
  have hul := used_len ts 64
  generalize usedR ts 64 = u at *
  refine GoalL.loop (ι := { i : Nat // i ≤ u.length }) (id := 0) (b := cat BCr cO) (rest := List.drop 5 (fl BCr [])) (by kernel_rfl) (fun i => Scr nets order ts u (crsR nets order ts u i.1) i.1) (fun i => u.length - i.1) ⟨0, Nat.zero_le _⟩ (fun _ => rfl) ?_
  rintro ⟨i, hi⟩
  have hb := cr_bd h u i (by omega)
  by_cases hlt : i < u.length
  · refine GoalL.st (s := Scr nets order ts u (crsR nets order ts u i) i) known mixed hS 2 _ (cr_row nets order ts u _ i (by omega)) (by kernel_rfl) ?_
    refine goalL_blk (id := 1) (c := cat BCr cB) (rest := List.drop 3 (fl BCr cO)) (by kernel_rfl) ?_
    refine GoalL.st (s := Scr nets order ts u (crsR nets order ts u i) i) known mixed hS 1 _ (cr_in nets order ts u _ i) (by kernel_rfl) ?_
    rw [show Scrk nets order ts u (crsR nets order ts u i) i 0 = Scrk nets order ts u (crsR nets order ts u i + crsRow nets order ts u i 0) i 0 from by rw [show crsRow nets order ts u i 0 = 0 from rfl, Int.add_zero]]
    refine GoalL.loop (ι := { k : Nat // k ≤ i }) (id := 2) (b := cat BCr cK) (rest := List.drop 2 (fl BCr cB)) (by kernel_rfl) (fun k => Scrk nets order ts u (crsR nets order ts u i + crsRow nets order ts u i k.1) i k.1) (fun k => i - k.1) ⟨0, Nat.zero_le _⟩ (fun _ => rfl) ?_
    rintro ⟨k, hk⟩
    have hr := cr_rowbd h u i k
    by_cases hlk : k < i
    · have g1 := undR_bd h (u.getD k 0) (u.getD i 0) nets.length (Nat.le_refl _)
      have g2 := undR_bd h (u.getD i 0) (u.getD k 0) nets.length (Nat.le_refl _)
      refine GoalL.all (s := Scrk nets order ts u (crsR nets order ts u i + crsRow nets order ts u i k) i k) known mixed hS _ (cr_add nets order ts u _ i k (by omega) (by omega) hlt h (by omega) (by omega)) (by kernel_rfl) ?_
      have e2 : crsR nets order ts u i + crsRow nets order ts u i (k + 1) = crsR nets order ts u i + crsRow nets order ts u i k + undR nets order ts (u.getD k 0) (u.getD i 0) nets.length := (Int.add_assoc _ _ _).symm
      exact ⟨⟨k + 1, hlk⟩, by simp; omega, by show _ = (Scrk nets order ts u (crsR nets order ts u i + crsRow nets order ts u i (k + 1)) i (k + 1)).T; rw [e2], by show _ = (Scrk nets order ts u (crsR nets order ts u i + crsRow nets order ts u i (k + 1)) i (k + 1)).H; rw [e2]⟩
    · refine GoalL.all (s := Scrk nets order ts u (crsR nets order ts u i + crsRow nets order ts u i k) i k) known mixed hS _ (cr_end nets order ts u _ i k (by omega)) (by kernel_rfl) ?_
      refine onN_exit (inB_exit ?_)
      obtain rfl : k = i := by omega
      refine goalL_nil crB_end ?_
      refine GoalL.all (s := Scr nets order ts u (crsR nets order ts u k + crsRow nets order ts u k k) k) known mixed hS _ (cr_next nets order ts u _ k (by omega)) (by kernel_rfl) ?_
      exact ⟨⟨k + 1, hlt⟩, by simp; omega, rfl, rfl⟩
  · refine GoalL.st (s := Scr nets order ts u (crsR nets order ts u i) i) known mixed hS 2 _ (cr_stop nets order ts u _ i (by omega)) (by kernel_rfl) ?_
    refine onN_exit (onN_exit (inB_exit ?_))
    obtain rfl : i = u.length := by omega
    exact GoalL.allRet (s := Scr nets order ts u (crsR nets order ts u u.length) u.length) known mixed hS _ (cr_ret nets order ts u _ _) fun T H h => h
/-! ### Bound -/
theorem boB_end : List.drop 2 (fl BBo cB) = [] := by kernel_rfl
theorem bo_rowbd {nets : List (Int × List Int)} {order ts : List Int} (h : okCr nets order ts = true) (u : List Int) (i k : Nat) : 0 ≤ bndRow nets order ts u i k ∧ bndRow nets order ts u i k ≤ k * 4096000 := by
  have hn := (okCr_iff h).1
  refine sm_bd (L := 4096000) fun j _ => ?_
  have h1 := undR_bd h (u.getD j 0) (u.getD i 0) nets.length (Nat.le_refl _)
  have h2 := undR_bd h (u.getD i 0) (u.getD j 0) nets.length (Nat.le_refl _)
  exact mn_bd ⟨h1.1, by omega⟩ ⟨h2.1, by omega⟩
theorem bo_bd {nets : List (Int × List Int)} {order ts : List Int} (h : okCr nets order ts = true) (u : List Int) (i : Nat) (hi : i ≤ 64) : 0 ≤ bndR nets order ts u i ∧ bndR nets order ts u i ≤ i * 262144000 := by
  refine sm_bd (L := 262144000) fun j hj => ?_
  have := bo_rowbd h u j j
  omega
theorem bo_holds (nets : List (Int × List Int)) (order ts : List Int) (h : okCr nets order ts = true) : Holds Tryz.prog true 21 [nv nets, yv order ts] (iv (bndR nets order ts (usedR ts 64) (usedR ts 64).length)) := by
  obtain ⟨h1, h2, h3, h4, h5⟩ := okCr_iff h
  have hS := cr_ok
  refine holds_fl (c := BBo) Tryz.func21 rfl rfl fun w F => ?_
  refine GoalL.to known mixed hS 4 _ (bo_start nets order ts (by omega)) (by kernel_rfl) ?_
  have hul := used_len ts 64
  generalize usedR ts 64 = u at *
  refine GoalL.loop (ι := { i : Nat // i ≤ u.length }) (id := 0) (b := cat BBo cO) (rest := List.drop 5 (fl BBo [])) (by kernel_rfl) (fun i => Sbo nets order ts u (bndR nets order ts u i.1) i.1) (fun i => u.length - i.1) ⟨0, Nat.zero_le _⟩ (fun _ => rfl) ?_
  rintro ⟨i, hi⟩
  have hb := bo_bd h u i (by omega)
  by_cases hlt : i < u.length
  · refine GoalL.st (s := Sbo nets order ts u (bndR nets order ts u i) i) known mixed hS 2 _ (bo_row nets order ts u _ i (by omega)) (by kernel_rfl) ?_
    refine goalL_blk (id := 1) (c := cat BBo cB) (rest := List.drop 3 (fl BBo cO)) (by kernel_rfl) ?_
    refine GoalL.st (s := Sbo nets order ts u (bndR nets order ts u i) i) known mixed hS 1 _ (bo_in nets order ts u _ i) (by kernel_rfl) ?_
    rw [show Sbok nets order ts u (bndR nets order ts u i) i 0 = Sbok nets order ts u (bndR nets order ts u i + bndRow nets order ts u i 0) i 0 from by rw [show bndRow nets order ts u i 0 = 0 from rfl, Int.add_zero]]
    refine GoalL.loop (ι := { k : Nat // k ≤ i }) (id := 2) (b := cat BBo cK) (rest := List.drop 2 (fl BBo cB)) (by kernel_rfl) (fun k => Sbok nets order ts u (bndR nets order ts u i + bndRow nets order ts u i k.1) i k.1) (fun k => i - k.1) ⟨0, Nat.zero_le _⟩ (fun _ => rfl) ?_
    rintro ⟨k, hk⟩
    have hr := bo_rowbd h u i k
    by_cases hlk : k < i
    · have g1 := undR_bd h (u.getD k 0) (u.getD i 0) nets.length (Nat.le_refl _)
      have g2 := undR_bd h (u.getD i 0) (u.getD k 0) nets.length (Nat.le_refl _)
      refine GoalL.all (s := Sbok nets order ts u (bndR nets order ts u i + bndRow nets order ts u i k) i k) known mixed hS _ (bo_add nets order ts u _ i k (by omega) (by omega) hlt h (by split <;> omega) (by omega)) (by kernel_rfl) ?_
      have e2 : bndR nets order ts u i + bndRow nets order ts u i (k + 1) = bndR nets order ts u i + bndRow nets order ts u i k + mn (undR nets order ts (u.getD k 0) (u.getD i 0) nets.length) (undR nets order ts (u.getD i 0) (u.getD k 0) nets.length) := (Int.add_assoc _ _ _).symm
      exact ⟨⟨k + 1, hlk⟩, by simp; omega, by show _ = (Sbok nets order ts u (bndR nets order ts u i + bndRow nets order ts u i (k + 1)) i (k + 1)).T; rw [e2], by show _ = (Sbok nets order ts u (bndR nets order ts u i + bndRow nets order ts u i (k + 1)) i (k + 1)).H; rw [e2]⟩
    · refine GoalL.all (s := Sbok nets order ts u (bndR nets order ts u i + bndRow nets order ts u i k) i k) known mixed hS _ (bo_end nets order ts u _ i k (by omega)) (by kernel_rfl) ?_
      refine onN_exit (inB_exit ?_)
      obtain rfl : k = i := by omega
      refine goalL_nil boB_end ?_
      refine GoalL.all (s := Sbo nets order ts u (bndR nets order ts u k + bndRow nets order ts u k k) k) known mixed hS _ (bo_next nets order ts u _ k (by omega)) (by kernel_rfl) ?_
      exact ⟨⟨k + 1, hlt⟩, by simp; omega, rfl, rfl⟩
  · refine GoalL.st (s := Sbo nets order ts u (bndR nets order ts u i) i) known mixed hS 2 _ (bo_stop nets order ts u _ i (by omega)) (by kernel_rfl) ?_
    refine onN_exit (onN_exit (inB_exit ?_))
    obtain rfl : i = u.length := by omega
    exact GoalL.allRet (s := Sbo nets order ts u (bndR nets order ts u u.length) u.length) known mixed hS _ (bo_ret nets order ts u _ _) fun T H h => h
/-! ### Mirror -/
def revUp (order : List Int) (d : Nat) : List Int := (order.drop d).reverse
theorem revUp_next (order : List Int) (d : Nat) (h : d < order.length) : revUp order d = revUp order (d + 1) ++ [order.getD d 0] := by
  unfold revUp
  have e : order.drop d = order.getD d 0 :: order.drop (d + 1) := by
    rw [getD_lt h]; exact List.drop_eq_getElem_cons h
  rw [e, List.reverse_cons]
theorem revUp_len (order : List Int) (d : Nat) : (revUp order d).length = order.length - d := by unfold revUp; simp
theorem blk_none (ts : List Int) : (blkXs (Ty.int IntKind.i64) none ++ ts : List Int) = ts := rfl
theorem cap_pos {ts : List Int} (h : ts.length ≠ 0) : Cap.full = capOf ts.length := (capOf_full (by omega)).symm
theorem mir_holds (order ts : List Int) (h1 : order.length ≤ 1000000) (h2 : ts.length ≤ 1000000) : Holds Tryz.prog true 22 [yv order ts] (yv order.reverse ts) := by
  have hS := none_ok
  have er : revUp order 0 = order.reverse := by unfold revUp; simp
  refine holds_fl (c := BMr) Tryz.func22 rfl rfl fun w F => ?_
  by_cases h0 : ts.length = 0
  · obtain rfl : ts = [] := List.length_eq_zero_iff.1 h0
    refine GoalL.to known mixed hS 3 _ (mz_start order [] rfl (by omega)) (by kernel_rfl) ?_
    rw [show SMz order [] nilI ((order.length : Int) - 1) = SMz order [] (revUp order order.length) ((order.length : Int) - 1) from by rw [show revUp order order.length = nilI by unfold revUp; simp]]
    refine GoalL.loop (ι := { d : Nat // d ≤ order.length }) (id := 0) (b := cat BMr [1,1,0,1,0,0]) (rest := List.drop 4 (fl BMr [])) (by kernel_rfl) (fun d => SMz order [] (revUp order d.1) ((d.1 : Int) - 1)) (fun d => d.1) ⟨order.length, Nat.le_refl _⟩ (fun _ => rfl) ?_
    rintro ⟨d, hd⟩
    have hrl := revUp_len order d
    cases d with
    | succ d =>
      have e := revUp_next order d (by omega)
      have ez : ((d + 1 : Nat) : Int) - 1 = (d : Int) := by omega
      simp only [ez]
      refine GoalL.all (s := SMz order [] (revUp order (d + 1)) (d : Int)) known mixed hS _ (mz_go order [] _ (d : Int) (by omega) (by omega) (by omega) (by omega) (by omega) (by simp) (cap_snoc _ _)) (by kernel_rfl) ?_
      exact ⟨⟨d, by omega⟩, by simp, by show _ = (SMz order [] (revUp order d) ((d : Int) - 1)).T; rw [e]; rfl, by show _ = (SMz order [] (revUp order d) ((d : Int) - 1)).H; rw [e]; rfl⟩
    | zero =>
      refine GoalL.all (s := SMz order [] (revUp order 0) (((0 : Nat) : Int) - 1)) known mixed hS _ (mz_end order [] _ _ (by omega)) (by kernel_rfl) ?_
      refine onN_exit (inB_exit ?_)
      rw [er]
      exact GoalL.allRet (s := SMz order [] order.reverse _) known mixed hS _ (mz_ret order [] _ [] _ (lst_back _) (own_back _ _) (by simp) rfl rfl (.inl rfl) (fun h => by cases h)) fun T H h => h
  · refine GoalL.to known mixed hS 3 _ (mr_start order ts (by cases hh : Nat.beq ts.length 0 with | true => exact absurd (Nat.eq_of_beq_eq_true hh) h0 | false => rfl) h2 (by omega) (cap_pos h0) (blk_none ts)) (by kernel_rfl) ?_
    rw [show SMr order ts nilI ts ((order.length : Int) - 1) = SMr order ts (revUp order order.length) ts ((order.length : Int) - 1) from by rw [show revUp order order.length = nilI by unfold revUp; simp]]
    refine GoalL.loop (ι := { d : Nat // d ≤ order.length }) (id := 0) (b := cat BMr [1,1,0,1,0,0]) (rest := List.drop 4 (fl BMr [])) (by kernel_rfl) (fun d => SMr order ts (revUp order d.1) ts ((d.1 : Int) - 1)) (fun d => d.1) ⟨order.length, Nat.le_refl _⟩ (fun _ => rfl) ?_
    rintro ⟨d, hd⟩
    have hrl := revUp_len order d
    cases d with
    | succ d =>
      have e := revUp_next order d (by omega)
      have ez : ((d + 1 : Nat) : Int) - 1 = (d : Int) := by omega
      simp only [ez]
      refine GoalL.all (s := SMr order ts (revUp order (d + 1)) ts (d : Int)) known mixed hS _ (mr_go order ts _ ts (d : Int) (by omega) (by omega) (by omega) (by omega) (by omega) (by simp) (cap_snoc _ _)) (by kernel_rfl) ?_
      exact ⟨⟨d, by omega⟩, by simp, by show _ = (SMr order ts (revUp order d) ts ((d : Int) - 1)).T; rw [e]; rfl, by show _ = (SMr order ts (revUp order d) ts ((d : Int) - 1)).H; rw [e]; rfl⟩
    | zero =>
      refine GoalL.all (s := SMr order ts (revUp order 0) ts (((0 : Nat) : Int) - 1)) known mixed hS _ (mr_end order ts _ ts _ (by omega)) (by kernel_rfl) ?_
      refine onN_exit (inB_exit ?_)
      rw [er]
      exact GoalL.allRet (s := SMr order ts order.reverse ts _) known mixed hS _ (mr_ret order ts _ ts _ (lst_back _) (own_back _ _) (by simp) (lst_back _) (own_back _ _) (by simp)) fun T H h => h
end
end Go.Proofs.YtbldpojkpmafpaaGreatDoor

/- Package bus: what Bound returns. -/
namespace Go.Proofs.YtbldpojkpmafpaaGreatDoor
open Go.RowKit Sv
set_option maxRecDepth 100000
set_option linter.unusedVariables false
noncomputable section
def bndPRow (tab : List (List Int)) (i k : Nat) : Int := sm (fun k => mn ((tab.getD i []).getD k 0) ((tab.getD k []).getD i 0)) k
def bndP (tab : List (List Int)) (i : Nat) : Int := sm (fun i => bndPRow tab i i) i
theorem bdB_end : List.drop 3 (fl BBd dB) = [] := by kernel_rfl
theorem bd_ok : CallOk Tryz.prog (gS bdCs) := ctrs_ok fun c hc => by
  simp only [List.mem_cons, List.not_mem_nil, or_false] at hc
  rcases hc with rfl | rfl
  · exact cLayB_ok
  · exact cPairs_ok
theorem tab_at {nets : List (Int × List Int)} {order ts : List Int} {i k : Nat} (hi : i < (trkU ts).length) (hk : k < (trkU ts).length) : ((tabOf nets order ts).getD i []).getD k 0 = tabF nets order ts ((trkU ts).getD i 0) ((trkU ts).getD k 0) := by
  unfold tabOf
  simp only [List.getD_eq_getElem?_getD, List.getElem?_map, List.getElem?_eq_getElem hi, Option.map_some, Option.getD_some, List.getElem?_eq_getElem hk]
theorem tab_row {nets : List (Int × List Int)} {order ts : List Int} {i : Nat} (hi : i < (trkU ts).length) : ((tabOf nets order ts).getD i []).length = (trkU ts).length := by
  unfold tabOf
  simp only [List.getD_eq_getElem?_getD, List.getElem?_map, List.getElem?_eq_getElem hi, Option.map_some, Option.getD_some, List.length_map]
theorem tabF_bd {nets : List (Int × List Int)} {n : Int} {order : List Int} (hE : Bus.bothErr nets n order = 0) (ts : List Int) (a b : Int) : 0 ≤ tabF nets order ts a b ∧ tabF nets order ts a b ≤ 397312 := by
  obtain ⟨e1, e2⟩ := both_iff.1 hE
  obtain ⟨n1, n97, l64, _⟩ := Bus.netsErr_zero e1
  have hT := taps_few (l := mkNets nets) (n := n) (by rw [mkNets_net]; exact e1) (Bus.atUp order order.length)
  have e : (mkNets nets).map NetAt.cols = nets.map Prod.snd := by
    have : (mkNets nets).map NetAt.cols = ((mkNets nets).map NetAt.net).map Prod.snd := by rw [List.map_map]; rfl
    rw [this, mkNets_net]
  rw [e] at hT
  have hxl := extsOf_len nets order
  unfold tabF tabI
  have h1 := isum_bd (fun t => tapI (extsOf nets order) ts t a b (extsOf nets order).length) 64 (fun t => by have := tap_bd (extsOf nets order) ts t a b (extsOf nets order).length; omega) (tapFrom (Bus.atUp order order.length) 0 (nets.map Prod.snd))
  have h2 : (tapFrom (Bus.atUp order order.length) 0 (nets.map Prod.snd)).length * 64 ≤ 6208 * 64 := Nat.mul_le_mul_right _ hT
  omega
theorem trkU_len (ts : List Int) : (trkU ts).length ≤ ts.length := by
  have h1 := Lib.compact_length_le (ts.mergeSort fun x y => decide (x ≤ y))
  rw [List.length_mergeSort] at h1
  exact h1
def bndB (nets : List (Int × List Int)) (n : Int) (order ts : List Int) : Int × Int := if layErr nets n order ts = 0 then (bndP (tabOf nets order ts) (trkU ts).length, 0) else (0, layErr nets n order ts)
theorem lay_n {nets : List (Int × List Int)} {n : Int} {order ts : List Int} (h : layErr nets n order ts = 0) : n = order.length := by
  have := (Bus.orderErr_zero (both_iff.1 (both_of_lay h)).2).1
  omega
theorem lay_len {nets : List (Int × List Int)} {n : Int} {order ts : List Int} (h : layErr nets n order ts = 0) : ts.length = nets.length := by
  have hB := both_of_lay h
  unfold layErr at h
  rw [if_neg (fun g => g hB)] at h
  by_cases g : ts.length ≠ nets.length
  · rw [if_pos g] at h; cases h
  · exact Classical.not_not.1 g
theorem bound_holds (nets : List (Int × List Int)) (n : Int) (order ts : List Int) (h : okLay nets order ts = true) : Holds Tryz.prog true 16 [nv nets, iv n, yv order ts] (.tuple [iv (bndB nets n order ts).1, iv (bndB nets n order ts).2]) := by
  have hS := bd_ok
  refine holds_fl (c := BBd) Tryz.func16 rfl rfl fun w F => ?_
  by_cases hL : layErr nets n order ts = 0
  · have hB := both_of_lay hL
    have en := lay_n hL
    have hts := lay_len hL
    obtain ⟨_, n97, l64, _⟩ := Bus.netsErr_zero (both_iff.1 hB).1
    have hpr : okPr nets order ts = true := by
      unfold okPr
      rw [h, Bool.true_and, decide_eq_true_eq, ← en]; exact hL
    have e : bndB nets n order ts = (bndP (tabOf nets order ts) (trkU ts).length, 0) := by unfold bndB; rw [if_pos hL]
    rw [e]
    have hul := trkU_len ts
    have hlen : (tabOf nets order ts).length = (trkU ts).length := by unfold tabOf; rw [List.length_map]
    have hrow : ∀ i, i < (trkU ts).length → ((tabOf nets order ts).getD i []).length = (trkU ts).length := fun i hi => tab_row hi
    have hbd : ∀ i k, i < (trkU ts).length → k < (trkU ts).length → 0 ≤ ((tabOf nets order ts).getD i []).getD k 0 ∧ ((tabOf nets order ts).getD i []).getD k 0 ≤ 397312 := fun i k hi hk => by rw [tab_at hi hk]; exact tabF_bd hB ts _ _
    refine GoalL.to known mixed hS 7 _ (bb_start nets n order ts h hL hpr) (by kernel_rfl) ?_
    generalize tabOf nets order ts = tab at *
    generalize (trkU ts).length = m at *
    have hrb : ∀ i k, k ≤ i → i < m → 0 ≤ bndPRow tab i k ∧ bndPRow tab i k ≤ k * 397312 := fun i k hk hi => by
      refine sm_bd (L := 397312) fun j hj => ?_
      have g1 := hbd i j hi (by omega)
      have g2 := hbd j i (by omega) hi
      exact mn_bd g1 g2
    have hpb : ∀ i, i ≤ m → 0 ≤ bndP tab i ∧ bndP tab i ≤ i * 25427968 := fun i hi => by
      refine sm_bd (L := 25427968) fun j hj => ?_
      have := hrb j j (Nat.le_refl _) (by omega)
      omega
    refine GoalL.loop (ι := { i : Nat // i ≤ m }) (id := 0) (b := cat BBd dO) (rest := List.drop 8 (fl BBd [])) (by kernel_rfl) (fun i => SBd tab (bndP tab i.1) i.1) (fun i => m - i.1) ⟨0, Nat.zero_le _⟩ (fun _ => rfl) ?_
    rintro ⟨i, hi⟩
    have hb := hpb i hi
    by_cases hlt : i < m
    · refine GoalL.st (s := SBd tab (bndP tab i) i) known mixed hS 2 _ (bb_row tab _ i (by omega)) (by kernel_rfl) ?_
      refine goalL_blk (id := 1) (c := cat BBd dB) (rest := List.drop 3 (fl BBd dO)) (by kernel_rfl) ?_
      refine GoalL.st (s := SBd tab (bndP tab i) i) known mixed hS 2 _ (bb_in tab _ i) (by kernel_rfl) ?_
      rw [show SBk tab (bndP tab i) i 0 = SBk tab (bndP tab i + bndPRow tab i 0) i 0 from by rw [show bndPRow tab i 0 = 0 from rfl, Int.add_zero]]
      refine GoalL.loop (ι := { k : Nat // k ≤ i }) (id := 2) (b := cat BBd dK) (rest := List.drop 3 (fl BBd dB)) (by kernel_rfl) (fun k => SBk tab (bndP tab i + bndPRow tab i k.1) i k.1) (fun k => i - k.1) ⟨0, Nat.zero_le _⟩ (fun _ => rfl) ?_
      rintro ⟨k, hk⟩
      have hr := hrb i k hk hlt
      by_cases hlk : k < i
      · have g1 := hbd i k hlt (by omega)
        have g2 := hbd k i (by omega) hlt
        refine GoalL.all (s := SBk tab (bndP tab i + bndPRow tab i k) i k) known mixed hS _ (bb_add tab _ i k (by omega) (by omega) (by rw [hrow i hlt]; omega) (by omega) (by rw [hrow k (by omega)]; omega) (by split <;> omega) (by omega)) (by kernel_rfl) ?_
        have e2 : bndP tab i + bndPRow tab i (k + 1) = bndP tab i + bndPRow tab i k + mn ((tab.getD i []).getD k 0) ((tab.getD k []).getD i 0) := (Int.add_assoc _ _ _).symm
        exact ⟨⟨k + 1, hlk⟩, by simp; omega, by show _ = (SBk tab (bndP tab i + bndPRow tab i (k + 1)) i (k + 1)).T; rw [e2], by show _ = (SBk tab (bndP tab i + bndPRow tab i (k + 1)) i (k + 1)).H; rw [e2]⟩
      · refine GoalL.all (s := SBk tab (bndP tab i + bndPRow tab i k) i k) known mixed hS _ (bb_end tab _ i k (by omega)) (by kernel_rfl) ?_
        refine onN_exit (inB_exit ?_)
        obtain rfl : k = i := by omega
        refine goalL_nil bdB_end ?_
        refine GoalL.all (s := SBd tab (bndP tab k + bndPRow tab k k) k) known mixed hS _ (bb_next tab _ k (by omega)) (by kernel_rfl) ?_
        exact ⟨⟨k + 1, hlt⟩, by simp; omega, rfl, rfl⟩
    · refine GoalL.st (s := SBd tab (bndP tab i) i) known mixed hS 2 _ (bb_stop tab _ i (by omega)) (by kernel_rfl) ?_
      refine onN_exit (onN_exit (inB_exit ?_))
      obtain rfl : i = m := by omega
      exact GoalL.allRet (s := SBd tab (bndP tab i) i) known mixed hS _ (bb_ret tab _ _) fun T H h => h
  · have e : bndB nets n order ts = (0, layErr nets n order ts) := by unfold bndB; rw [if_neg hL]
    rw [e]
    exact GoalL.ret known mixed hS 4 _ (bb_bad nets n order ts h hL) fun T H h => h
noncomputable def cBoundB : Ctr := { f := 16, ps := [.list false tN, .int .i64, .pair (.list false (.int .i64)) (.list false (.int .i64))], rs := [.int .i64, .int .i64], fresh := true, pre := fun d => okLay d.1 d.2.2.1.1 d.2.2.1.2, fn := fun d => ((bndB d.1 d.2.1 d.2.2.1.1 d.2.2.1.2).1, ((bndB d.1 d.2.1 d.2.2.1.1 d.2.2.1.2).2, ())) }
theorem cBoundB_ok : cBoundB.Ok Tryz.prog := fun ⟨nets, n, ⟨order, ts⟩, _⟩ h => bound_holds nets n order ts h
/-- the bound of both -/
theorem bnd_same {nets : List (Int × List Int)} {n : Int} {order ts : List Int} (hE : Bus.bothErr nets n order = 0) : bndP (tabOf nets order ts) (trkU ts).length = bndR nets order ts (trkU ts) (trkU ts).length := by
  obtain ⟨hu, _⟩ := trkU_ok ts
  refine sm_congr fun i hi => sm_congr fun k hk => ?_
  have hki : k < (trkU ts).length := by omega
  have hne : (trkU ts).getD k 0 < (trkU ts).getD i 0 := (asc_lt hu hi hki).2 hk
  rw [tab_at hi hki, tab_at hki hi]
  unfold tabF
  rw [tab_und hE ts (by omega), tab_und hE ts (by omega)]
  unfold mn
  split <;> split <;> omega
end
end Go.Proofs.YtbldpojkpmafpaaGreatDoor

/- Arguments that lie in a world, as plain data. -/
namespace Go.Proofs.YtbldpojkpmafpaaGreatDoor
open Go.RowKit Sv
def inF (w : World) : Env := ⟨fun i => if i < 64 then some (i, 0) else none, fun b => if 0 ≤ b then cellsOf? w b else none⟩
theorem inF_ok (w : World) : OkF w (inF w) := by
  refine ⟨fun i x h => ?_, fun g hg => ⟨0, if_pos hg⟩, fun b A h => ?_⟩
  · have h : (if i < 64 then some (i, 0) else none) = some x := h
    split at h
    · assumption
    · cases h
  · have h : (if 0 ≤ b then cellsOf? w b else none) = some A := h
    rw [if_pos (Nat.zero_le _)] at h
    exact cellsOf?_some.1 h
theorem row_den {w : World} {t : Ty} {xs : List t.den} {ys : List Value} {A : Option Addr} {c : Nat} (h : Row w w.heap.size A ys) (hd : Dens (inF w) (t.flat xs) ys) (hs : 1 ≤ t.size) (hc : xs.length ≤ c) : Den (inF w) (.lst false t xs) (.slice A xs.length c) := by
  have hlen := hd.length
  rw [t.flat_len] at hlen
  rcases h with h | ⟨b, off, rfl, hlt, hcs⟩
  · subst h
    have h0 : xs.length * t.size = 0 := hlen.symm
    have hx : xs = [] := List.length_eq_zero_iff.1 (by
      rcases Nat.mul_eq_zero.1 h0 with h | h
      · exact h
      · omega)
    subst hx
    exact .lstNil fun e => by cases e
  · by_cases hy : ys = []
    · subst hy
      have h0 : xs.length * t.size = 0 := hlen.symm
      have hx : xs = [] := List.length_eq_zero_iff.1 (by
        rcases Nat.mul_eq_zero.1 h0 with h | h
        · exact h
        · omega)
      subst hx
      exact .lstNil fun e => by cases e
    have hpos : 0 < ys.length := List.length_pos_iff.2 hy
    have h0 := hcs 0 hpos
    cases ho : w.heap[b]? with
    | none => simp [World.cell?, ho] at h0
    | some o =>
      cases o with
      | cells Arr e fr =>
        have hall : ∀ i (hi : i < ys.length), Arr[off + i]? = some ys[i] := fun i hi => by
          have := hcs i hi
          rw [cell_of ho] at this
          rw [this]
          simp [List.getD_eq_getElem?_getD, List.getElem?_eq_getElem hi]
        have hsz : off + ys.length ≤ Arr.size := by
          have := hall (ys.length - 1) (by omega)
          have := (Array.getElem?_eq_some_iff.1 this).1
          omega
        have hfl : (t.flat xs).length = ys.length := hd.length.symm
        have hys : (Arr.toList.drop off).take (t.flat xs).length = ys := by
          rw [hfl]
          apply List.ext_getElem?
          intro i
          rw [List.getElem?_take]
          by_cases hi : i < ys.length
          · rw [if_pos hi, List.getElem?_drop, Array.getElem?_toList, hall i hi, List.getElem?_eq_getElem hi]
          · rw [if_neg hi, List.getElem?_eq_none (by omega)]
        refine .lst (A := Arr) (b := b) (off := off) ?_ (by rw [hfl]; exact hsz) hys hd hc fun e => by cases e
        show (if 0 ≤ b then cellsOf? w b else none) = some Arr
        rw [if_pos (Nat.zero_le _)]; exact cellsOf?_some.2 ⟨e, fr, ho⟩
      | _ => simp [World.cell?, ho] at h0
theorem in_ints {w : World} {xs : List Int} {A : Option Addr} {c : Nat} (h : Row w w.heap.size A (xs.map (Value.int .i64))) (hc : xs.length ≤ c) : Den (inF w) (.lst false tInt xs) (.slice A xs.length c) :=
  row_den h (by rw [flat_ints]; exact Dens.raws _) (Nat.le_refl _) hc
theorem in_nets {w : World} : ∀ {l : List NetAt}, (∀ n ∈ l, Row w w.heap.size n.loc (n.cols.map (Value.int .i64))) → (∀ n ∈ l, n.cols.length ≤ n.cap) → Dens (inF w) (Ty.flat tNet (l.map NetAt.net)) (ncells l)
  | [], _, _ => .nil
  | n :: l, h, hc => by
    have e : Ty.flat tNet ((n :: l).map NetAt.net) = .raw (.int .i64 n.sh) :: .lst false tInt n.cols :: Ty.flat tNet (l.map NetAt.net) := rfl
    rw [e]
    exact .cons (.raw _) (.cons (in_ints (h n List.mem_cons_self) (hc n List.mem_cons_self)) (in_nets (fun m hm => h m (List.mem_cons_of_mem _ hm)) fun m hm => hc m (List.mem_cons_of_mem _ hm)))
end Go.Proofs.YtbldpojkpmafpaaGreatDoor

/- Arguments that lie in a world, as plain data; a law that holds for them. -/
namespace Go.Proofs.YtbldpojkpmafpaaGreatDoor
open Go.RowKit Sv
structure Arg.Nets (w : World) (A : Option Addr) (c : Nat) (l : List NetAt) : Prop where
  good : goodB (l.map NetAt.net) = true
  den : Den (inF w) (nv (l.map NetAt.net)) (.slice A l.length c)
structure Arg.Ints (w : World) (A : Option Addr) (c : Nat) (xs : List Int) : Prop where
  good : ∀ x ∈ xs, I64 x
  den : Den (inF w) (lv xs) (.slice A xs.length c)
structure Arg.Lay (w : World) (A B : Option Addr) (c e : Nat) (xs ys : List Int) : Prop where
  good : ∀ x ∈ xs, I64 x
  good2 : ∀ x ∈ ys, I64 x
  few : xs.length ≤ 140737488355328
  few2 : ys.length ≤ 140737488355328
  den : Den (inF w) (.agg [lv xs, lv ys]) (.agg #[.slice A xs.length c, .slice B ys.length e])
theorem Arg.nets {w : World} {A : Option Addr} {c : Nat} {l : List NetAt} (h : NetsIn w w.heap.size A l) (hcap : ∀ q ∈ l, q.cols.length ≤ q.cap) (hc : l.length ≤ c) : Arg.Nets w A c l := by
  refine ⟨goodB_iff.2 fun x hx => ?_, ?_⟩
  · obtain ⟨q, hq, rfl⟩ := List.mem_map.1 hx
    exact ⟨h.ints q hq, h.few q hq⟩
  · have := row_den (t := tNet) (xs := l.map NetAt.net) h.row (in_nets h.cols hcap) (by decide) (by rw [List.length_map]; exact hc)
    rwa [List.length_map] at this
theorem Arg.ints {w : World} {A : Option Addr} {c : Nat} {xs : List Int} (h : Row w w.heap.size A (xs.map (Value.int .i64))) (hi : ∀ x ∈ xs, I64 x) (hc : xs.length ≤ c) : Arg.Ints w A c xs := ⟨hi, in_ints h hc⟩
theorem Arg.lay {w : World} {A B : Option Addr} {c e : Nat} {xs ys : List Int} (h : Row w w.heap.size A (xs.map (Value.int .i64))) (h2 : Row w w.heap.size B (ys.map (Value.int .i64))) (hi : ∀ x ∈ xs, I64 x) (hj : ∀ x ∈ ys, I64 x) (hc : xs.length ≤ c) (he : ys.length ≤ e)
    (hl : xs.length ≤ 140737488355328) (hm : ys.length ≤ 140737488355328) : Arg.Lay w A B c e xs ys := ⟨hi, hj, hl, hm, .agg (.cons (in_ints h hc) (.cons (in_ints h2 he) .nil))⟩
theorem call_true {f : FuncId} {args : List AV} (h : Holds Tryz.prog true f args (bv true)) {w : World} {vs : List Value} (hd : Dens (inF w) args vs) : Calls Tryz.prog f vs.toArray w fun e w' => e = .returned (.bool true) ∧ Below w.heap.size w w' :=
  (h w (inF w) vs (inF_ok w) hd).mono fun e w' ⟨x, F', h1, h2, _, _, h5⟩ => by
    rw [h2.raw_eq] at h1
    exact ⟨h1, h5⟩
end Go.Proofs.YtbldpojkpmafpaaGreatDoor
