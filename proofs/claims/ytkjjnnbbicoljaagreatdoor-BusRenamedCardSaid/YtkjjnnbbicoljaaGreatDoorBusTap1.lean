/- Package bus: the function that taps() gives: what it does for every loop body. -/
import Derived.Test.YtkjjnnbbicoljaaGreatDoorBusCross
import Derived.RangeFuncNested
import Derived.RangeFuncBound
import Derived.RangeFuncCalls
import Derived.RangeFuncLeaves
import Derived.Shelf.Abstract
import Derived.Shelf.RegionOpen
import Derived.WalkKit
import Derived.OwnWalkIn
import Derived.TacticsInMore
import Derived.LoopNIn
import Derived.LoopIn
namespace Go.Proofs.YtkjjnnbbicoljaaGreatDoor
open Go.RowKit Go.Shelf
attribute [local go_sem] Oper.semAt_some

/-- all taps: the net's number and the position -/
def tapFrom (Fp : Nat → Int) : Nat → List (List Int) → List (Nat × Int)
  | _, [] => []
  | i, c :: r => (c.map fun x => (i, Fp x.toNat)) ++ tapFrom Fp (i + 1) r
def cntTo : List (List Int) → Nat → Nat
  | [], _ => 0
  | _ :: _, 0 => 0
  | c :: r, k + 1 => c.length + cntTo r k
theorem cntTo_zero : ∀ (ls : List (List Int)), cntTo ls 0 = 0
  | [] => rfl
  | _ :: _ => rfl
theorem tap_len (Fp : Nat → Int) : ∀ (ls : List (List Int)) (i : Nat), (tapFrom Fp i ls).length = cntTo ls ls.length
  | [], _ => rfl
  | c :: r, i => by
    unfold tapFrom
    rw [List.length_append, List.length_map, tap_len Fp r]
    rfl
theorem cnt_next : ∀ (ls : List (List Int)) (k : Nat), k < ls.length → cntTo ls (k + 1) = cntTo ls k + (ls.getD k []).length
  | [], k, h => by simp at h
  | c :: r, 0, _ => by simp [cntTo, cntTo_zero]
  | c :: r, k + 1, h => by
    have := cnt_next r k (by simpa using h)
    show c.length + cntTo r (k + 1) = c.length + cntTo r k + _
    rw [this]; simp; omega
theorem tap_at (Fp : Nat → Int) : ∀ (ls : List (List Int)) (i k j : Nat), k < ls.length → j < (ls.getD k []).length → (tapFrom Fp i ls).getD (cntTo ls k + j) (0, 0) = (i + k, Fp ((ls.getD k []).getD j 0).toNat)
  | [], i, k, j, h, _ => by simp at h
  | c :: r, i, 0, j, _, hj => by
    have hj : j < c.length := by simpa using hj
    unfold tapFrom
    rw [cntTo_zero, Nat.zero_add, List.getD_eq_getElem?_getD, List.getElem?_append_left (by simpa using hj)]
    simp [List.getElem?_eq_getElem hj]
  | c :: r, i, k + 1, j, h, hj => by
    have ih := tap_at Fp r (i + 1) k j (by simpa using h) (by simpa using hj)
    unfold tapFrom
    have e : cntTo (c :: r) (k + 1) + j = (c.map fun x => (i, Fp x.toNat)).length + (cntTo r k + j) := by simp [cntTo]; omega
    rw [e, List.getD_eq_getElem?_getD, List.getElem?_append_right (Nat.le_add_right _ _), Nat.add_sub_cancel_left, ← List.getD_eq_getElem?_getD, ih]
    simp; omega
theorem range_prefix {a b : Nat} (h : a ≤ b) : List.range a <+: List.range b := by
  obtain ⟨d, rfl⟩ : ∃ d, b = a + d := ⟨b - a, by omega⟩
  rw [List.range_add]
  exact List.prefix_append _ _
theorem cnt_mono (ls : List (List Int)) : ∀ k, k ≤ ls.length → ∀ j, j ≤ k → cntTo ls j ≤ cntTo ls k
  | 0, _, j, hj => by obtain rfl : j = 0 := by omega
                      exact Nat.le_refl _
  | k + 1, hk, j, hj => by
    by_cases e : j = k + 1
    · subst e; exact Nat.le_refl _
    · have := cnt_mono ls k (by omega) j (by omega)
      rw [cnt_next ls k (by omega)]; omega
theorem AbidesFrom.new {β : Type} {B : Nat} {J : β → World → Prop} (h : AbidesFrom B J) {s : β} {W : World} (o : Obj) (hs : J s W) : J s (W.alloc o) :=
  h s W _ none hs (World.grownBy_alloc W o none) (fun r e => by cases e)

/-- what a round keeps: all below n0, and one block besides -/
def KeepAt (n0 bx : Nat) (W W' : World) : Prop := Below n0 W W' ∧ W'.heap[bx]? = W.heap[bx]?
theorem KeepAt.refl (n0 bx : Nat) (W : World) : KeepAt n0 bx W W := ⟨Below.refl _ _, rfl⟩
theorem KeepAt.trans {n0 bx : Nat} {A B C : World} (h : KeepAt n0 bx A B) (h' : KeepAt n0 bx B C) : KeepAt n0 bx A C := ⟨h.1.trans h'.1, h'.2.trans h.2⟩
theorem KeepAt.new {n0 bx : Nat} {A B : World} (h : KeepAt n0 bx A B) (hn : n0 ≤ A.heap.size) (hb : bx < A.heap.size) (o : Obj) : KeepAt n0 bx A (B.alloc o) :=
  ⟨h.1.alloc (Nat.le_trans hn h.1.size) _, (Below.heap_alloc B o bx (Nat.lt_of_lt_of_le hb h.1.size)).trans h.2⟩

set_option maxRecDepth 100000 in
set_option maxHeartbeats 4000000 in
theorem taps1_in (F : Fence) (n : Nat) (hf : F.fn 142) (hro : F.round = none) (hn : 1 ≤ n) (lp bx n0 g : Nat) (A : Option Addr) (c : Nat) (E : Value) (Fp : Nat → Int) (l : List NetAt) (N : Nat) (J Jx : List Nat → World → Prop) (W : World)
    (hNN : N = cntTo (l.map NetAt.cols) l.length) (hJ : AbidesFrom W.heap.size J)
    (hY : ∀ pre (x : Nat) W1, J pre W1 → pre.length < N → YieldAt F (n - 1) Tryz.prog lp #[.int .i64 (((tapFrom Fp 0 (l.map NetAt.cols)).getD x (0, 0)).1 : Int), .int .i64 ((tapFrom Fp 0 (l.map NetAt.cols)).getD x (0, 0)).2] W1 fun e W' =>
      (e = .returned (.bool true) ∧ J (pre ++ [x]) W' ∧ KeepAt n0 bx W1 W') ∨ (e = .returned (.bool false) ∧ Jx (pre ++ [x]) W'))
    (hbx : W.cell? ⟨bx, 0, none⟩ = some (.pointer (some ⟨g, 0, none⟩))) (hbn : bx < W.heap.size) (hgn : g < n0) (hrow : RowAt W g (.slice A l.length c) Fp E) (hN : NetsIn W n0 A l) (hc97 : ∀ x ∈ l, ∀ c ∈ x.cols, 0 ≤ c ∧ c < 97) (hl : l.length ≤ 1000) (hn0 : n0 ≤ W.heap.size) (h0 : J [] W) :
    CallsIn F n Tryz.prog 142 #[.func (.yield lp) #[] #[], .pointer (some ⟨bx, 0, none⟩)] W fun e W' => (∃ v, e = .returned v) ∧ ((∃ ys, ys = List.range N ∧ J ys W') ∨ (∃ pre, pre <+: List.range N ∧ Jx pre W')) := by
  have HW := Lib.hid (⟨hrow, hN⟩ : RowAt W g (.slice A l.length c) Fp E ∧ NetsIn W n0 A l)
  have HC := Lib.hid hc97
  have HYY := Lib.hid hY
  have HJJ := Lib.hid hJ
  have HNN := Lib.hid hNN
  have x0 := hrow.nets
  clear hY hN hc97 hJ hNN
  refine callsIn_of_wp Tryz.func142 rfl hf ?_ hro
  simp only [Tryz.ntmps142, List.size_toArray, List.length_cons, List.length_nil, Nat.reduceAdd, Nat.reduceSub, Array.replicate_succ, Array.replicate_zero, List.push_toArray, List.append_toArray, List.nil_append, List.cons_append]
  gi_wp2
  gi_loopw [12] (fun i wr => ∃ k : Nat, k ≤ l.length ∧ i = .int .i64 k ∧ J (List.range (cntTo (l.map NetAt.cols) k)) wr ∧ KeepAt n0 bx W wr) (fun i _ => l.length - (intOf i).toNat)
  case atStart => exact ⟨0, Nat.zero_le _, rfl, by rw [cntTo_zero]; exact h0, KeepAt.refl _ _ _⟩
  case round =>
    obtain ⟨k, hk, rfl, hJs, eb⟩ := hrel
    have hsz := eb.1.size
    by_cases hlt : k < l.length
    · obtain ⟨b, off, x, rfl, hbB, hx, hc1, hc2, hrw, hfew, hix, hics⟩ := HW.out.2.net k hlt
      have hk1 := (eb.1.cell (p := ⟨b, off + k * 2, none⟩) (by show b < _; omega)).trans hc1
      have hk2 := (eb.1.cell (p := ⟨b, off + k * 2 + 1, none⟩) (by show b < _; omega)).trans hc2
      have HX := Lib.hid (show (l.map NetAt.cols).getD k [] = x.cols by rw [List.getD_eq_getElem?_getD, List.getElem?_map, hx]; rfl)
      have hin := HC.out x (List.mem_of_getElem? hx)
      clear hx hc1 hc2
      gi_wp2
      generalize hW1 : World.alloc wr _ = W1
      have hJ1 : J (List.range (cntTo (l.map NetAt.cols) k)) W1 := by rw [← hW1]; exact AbidesFrom.new HJJ.out _ hJs
      have eb1 : KeepAt n0 bx W W1 := by rw [← hW1]; exact eb.new hn0 hbn _
      have hsz1 := eb1.1.size
      have hrw1 := Lib.hid hrw
      clear hW1 hJs eb hk1 hk2 hrw
      generalize x.cols = cs at *
      generalize x.loc = loc at *
      generalize x.cap = cap at *
      gi_loopw [20] (fun i wz => ∃ j : Nat, j ≤ cs.length ∧ i = .int .i64 j ∧ J (List.range (cntTo (l.map NetAt.cols) k + j)) wz ∧ KeepAt n0 bx W wz) (fun i _ => cs.length - (intOf i).toNat)
      case atStart => exact ⟨0, Nat.zero_le _, rfl, hJ1, eb1⟩
      case round =>
        obtain ⟨j, hj, rfl, hJz, ez⟩ := hrel
        by_cases hlj : j < cs.length
        · obtain ⟨b2, off2, y, rfl, hbB2, hy, hcy⟩ := hrw1.out.int j hlj
          have hcyw := (ez.1.cell (p := ⟨b2, off2 + j, none⟩) (by show b2 < _; omega)).trans hcy
          obtain ⟨hy0, hy1⟩ := hin y (List.mem_of_getElem? hy)
          obtain ⟨Y, rfl⟩ : ∃ Y : Nat, y = (Y : Int) := ⟨y.toNat, by omega⟩
          have hY : Y < 97 := by omega
          have hY2 : (Y : Int) < 97 := by omega
          have hrowz := HW.out.1.block (ez.1.block g hgn)
          have m1 := hrowz.pos Y hY
          have hbz := (World.cell?_of_block (a := ⟨bx, 0, none⟩) ez.2).trans hbx
          have hcn : cntTo (l.map NetAt.cols) k + j < N := by
            rw [HNN.out]
            have h1 := cnt_mono (l.map NetAt.cols) l.length (by simp) (k + 1) hlt
            rw [cnt_next _ k (by rw [List.length_map]; exact hlt), HX.out] at h1
            omega
          obtain ⟨fn, tmps, assign, body, hy', hR⟩ := HYY.out _ (cntTo (l.map NetAt.cols) k + j) wr hJz (by rw [List.length_range]; exact hcn)
          have ht := tap_at Fp (l.map NetAt.cols) 0 k j (by rw [List.length_map]; exact hlt) (by rw [HX.out]; exact hlj)
          rw [HX.out, List.getD_eq_getElem?_getD (l := cs), hy, Option.getD_some, Int.toNat_natCast, Nat.zero_add] at ht
          rw [ht] at hy'
          dsimp only at hy'
          have e1 : List.range (cntTo (l.map NetAt.cols) k + j) ++ [cntTo (l.map NetAt.cols) k + j] = List.range (cntTo (l.map NetAt.cols) k + (j + 1)) := by rw [← Nat.add_assoc, List.range_succ]
          rw [e1] at hR
          generalize Fp Y = fy at *
          clear ht hy hcy hrowz HYY hY
          gi_wp2
          refine hR.mono ?_
          rintro e W3 (⟨rfl, hJ3, hk3⟩ | ⟨rfl, hJx3⟩)
          · gi_wp2
            go_roundw
            case rel => exact ⟨j + 1, by omega, by go_num, hJ3, ez.trans hk3⟩
            case measure => simp [intOf]; omega
          · gi_wp2
            refine bodyPost_ret (results_none rfl _ _ _) rfl ?_
            exact ⟨⟨_, rfl⟩, .inr ⟨_, range_prefix (by omega), hJx3⟩⟩
        · obtain rfl : j = cs.length := by omega
          gi_wp2
          go_roundw
          case rel => exact ⟨k + 1, by omega, by go_num, by rw [cnt_next _ k (by rw [List.length_map]; exact hlt), HX.out]; exact hJz, ez⟩
          case measure => simp [intOf]; omega
    · obtain rfl : k = l.length := by omega
      gi_wp2
      go_end0
      exact ⟨⟨_, rfl⟩, .inl ⟨_, by rw [HNN.out], hJs⟩⟩
/-- .. as a contract of the loop's law -/
theorem taps_stops (F : Fence) (n : Nat) (hf : F.fn 142) (hro : F.round = none) (hn : 1 ≤ n) (bx n0 g : Nat) (A : Option Addr) (c : Nat) (E : Value) (Fp : Nat → Int) (l : List NetAt) (w : World)
    (hbx : w.cell? ⟨bx, 0, none⟩ = some (.pointer (some ⟨g, 0, none⟩))) (hbn : bx < w.heap.size) (hgn : g < n0) (hrow : RowAt w g (.slice A l.length c) Fp E) (hN : NetsIn w n0 A l) (hc97 : ∀ x ∈ l, ∀ c ∈ x.cols, 0 ≤ c ∧ c < 97) (hl : l.length ≤ 1000) (hn0 : n0 ≤ w.heap.size) :
    SeqStopsK F n Tryz.prog 142 #[.pointer (some ⟨bx, 0, none⟩)] (fun x : Nat => #[.int .i64 (((tapFrom Fp 0 (l.map NetAt.cols)).getD x (0, 0)).1 : Int), .int .i64 ((tapFrom Fp 0 (l.map NetAt.cols)).getD x (0, 0)).2]) (KeepAt n0 bx)
      (fun ys => ys = List.range (tapFrom Fp 0 (l.map NetAt.cols)).length) (fun pre => pre <+: List.range (tapFrom Fp 0 (l.map NetAt.cols)).length) (tapFrom Fp 0 (l.map NetAt.cols)).length w := fun lp J Jx W hW hJ _ hY h0 =>
  taps1_in F n hf hro hn lp bx n0 g A c E Fp l _ J Jx W (by rw [tap_len, List.length_map]) hJ hY ((hW.cell (p := ⟨bx, 0, none⟩) hbn).trans hbx) (Nat.lt_of_lt_of_le hbn hW.size) hgn (hrow.below hW) (hN.below hW hn0) hc97 hl (Nat.le_trans hn0 hW.size) h0
end Go.Proofs.YtkjjnnbbicoljaaGreatDoor
