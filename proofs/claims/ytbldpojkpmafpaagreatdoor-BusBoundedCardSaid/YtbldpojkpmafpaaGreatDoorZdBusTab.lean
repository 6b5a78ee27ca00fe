/- Package bus: the function that taps() gives: what it does for every loop body. -/
import Derived.Test.YtbldpojkpmafpaaGreatDoorZdBusTaps
import Derived.RangeFuncNested
import Derived.RangeFuncBound
import Derived.RangeFuncCalls
import Derived.RangeFuncLeaves
import Derived.Shelf.Abstract
import Derived.Shelf.RegionOpen
import Derived.WalkKit
import Derived.OwnWalkIn
import Derived.TacticsInMore
import Derived.LoopNIn
import Derived.LoopIn
import Derived.RangeFuncFrom
import Derived.Sort.QuietTacIn
import Derived.Lib.Slices
namespace Go.Proofs.YtbldpojkpmafpaaGreatDoor
open Go.RowKit Go.Shelf
attribute [local go_sem] Oper.semAt_some

def tapFrom (Fp : Nat → Int) : Nat → List (List Int) → List (Nat × Int)
  | _, [] => []
  | i, c :: r => (c.map fun x => (i, Fp x.toNat)) ++ tapFrom Fp (i + 1) r
def cntTo : List (List Int) → Nat → Nat
  | [], _ => 0
  | _ :: _, 0 => 0
  | c :: r, k + 1 => c.length + cntTo r k
theorem cntTo_zero : ∀ (ls : List (List Int)), cntTo ls 0 = 0
  | [] => rfl
  | _ :: _ => rfl
theorem tap_len (Fp : Nat → Int) : ∀ (ls : List (List Int)) (i : Nat), (tapFrom Fp i ls).length = cntTo ls ls.length
  | [], _ => rfl
  | c :: r, i => by
    unfold tapFrom
    rw [List.length_append, List.length_map, tap_len Fp r]
    rfl
theorem cnt_next : ∀ (ls : List (List Int)) (k : Nat), k < ls.length → cntTo ls (k + 1) = cntTo ls k + (ls.getD k []).length
  | [], k, h => by simp at h
  | c :: r, 0, _ => by simp [cntTo, cntTo_zero]
  | c :: r, k + 1, h => by
    have := cnt_next r k (by simpa using h)
    show c.length + cntTo r (k + 1) = c.length + cntTo r k + _
    rw [this]; simp; omega
theorem tap_at (Fp : Nat → Int) : ∀ (ls : List (List Int)) (i k j : Nat), k < ls.length → j < (ls.getD k []).length → (tapFrom Fp i ls).getD (cntTo ls k + j) (0, 0) = (i + k, Fp ((ls.getD k []).getD j 0).toNat)
  | [], i, k, j, h, _ => by simp at h
  | c :: r, i, 0, j, _, hj => by
    have hj : j < c.length := by simpa using hj
    unfold tapFrom
    rw [cntTo_zero, Nat.zero_add, List.getD_eq_getElem?_getD, List.getElem?_append_left (by simpa using hj)]
    simp [List.getElem?_eq_getElem hj]
  | c :: r, i, k + 1, j, h, hj => by
    have ih := tap_at Fp r (i + 1) k j (by simpa using h) (by simpa using hj)
    unfold tapFrom
    have e : cntTo (c :: r) (k + 1) + j = (c.map fun x => (i, Fp x.toNat)).length + (cntTo r k + j) := by simp [cntTo]; omega
    rw [e, List.getD_eq_getElem?_getD, List.getElem?_append_right (Nat.le_add_right _ _), Nat.add_sub_cancel_left, ← List.getD_eq_getElem?_getD, ih]
    simp; omega
theorem range_prefix {a b : Nat} (h : a ≤ b) : List.range a <+: List.range b := by
  obtain ⟨d, rfl⟩ : ∃ d, b = a + d := ⟨b - a, by omega⟩
  rw [List.range_add]
  exact List.prefix_append _ _
theorem cnt_mono (ls : List (List Int)) : ∀ k, k ≤ ls.length → ∀ j, j ≤ k → cntTo ls j ≤ cntTo ls k
  | 0, _, j, hj => by obtain rfl : j = 0 := by omega
                      exact Nat.le_refl _
  | k + 1, hk, j, hj => by
    by_cases e : j = k + 1
    · subst e; exact Nat.le_refl _
    · have := cnt_mono ls k (by omega) j (by omega)
      rw [cnt_next ls k (by omega)]; omega
theorem AbidesFrom.new {β : Type} {B : Nat} {J : β → World → Prop} (h : AbidesFrom B J) {s : β} {W : World} (o : Obj) (hs : J s W) : J s (W.alloc o) :=
  h s W _ none hs (World.grownBy_alloc W o none) (fun r e => by cases e)

def KeepAt (n0 bx : Nat) (W W' : World) : Prop := Below n0 W W' ∧ W'.heap[bx]? = W.heap[bx]?
theorem KeepAt.refl (n0 bx : Nat) (W : World) : KeepAt n0 bx W W := ⟨Below.refl _ _, rfl⟩
theorem KeepAt.trans {n0 bx : Nat} {A B C : World} (h : KeepAt n0 bx A B) (h' : KeepAt n0 bx B C) : KeepAt n0 bx A C := ⟨h.1.trans h'.1, h'.2.trans h.2⟩
theorem KeepAt.new {n0 bx : Nat} {A B : World} (h : KeepAt n0 bx A B) (hn : n0 ≤ A.heap.size) (hb : bx < A.heap.size) (o : Obj) : KeepAt n0 bx A (B.alloc o) :=
  ⟨h.1.alloc (Nat.le_trans hn h.1.size) _, (Below.heap_alloc B o bx (Nat.lt_of_lt_of_le hb h.1.size)).trans h.2⟩

set_option maxRecDepth 100000 in
set_option maxHeartbeats 4000000 in
theorem taps1_in (F : Fence) (n : Nat) (hf : F.fn 133) (hro : F.round = none) (hn : 1 ≤ n) (lp bx n0 g : Nat) (A : Option Addr) (c : Nat) (E : Value) (Fp : Nat → Int) (l : List NetAt) (N : Nat) (J Jx : List Nat → World → Prop) (W : World)
    (hNN : N = cntTo (l.map NetAt.cols) l.length) (hJ : AbidesFrom W.heap.size J)
    (hY : ∀ pre (x : Nat) W1, J pre W1 → pre.length < N → YieldAt F (n - 1) Tryz.prog lp #[.int .i64 (((tapFrom Fp 0 (l.map NetAt.cols)).getD x (0, 0)).1 : Int), .int .i64 ((tapFrom Fp 0 (l.map NetAt.cols)).getD x (0, 0)).2] W1 fun e W' =>
      (e = .returned (.bool true) ∧ J (pre ++ [x]) W' ∧ KeepAt n0 bx W1 W') ∨ (e = .returned (.bool false) ∧ Jx (pre ++ [x]) W'))
    (hbx : W.cell? ⟨bx, 0, none⟩ = some (.pointer (some ⟨g, 0, none⟩))) (hbn : bx < W.heap.size) (hgn : g < n0) (hrow : RowAt W g (.slice A l.length c) Fp E) (hN : NetsIn W n0 A l) (hc97 : ∀ x ∈ l, ∀ c ∈ x.cols, 0 ≤ c ∧ c < 97) (hl : l.length ≤ 1000) (hn0 : n0 ≤ W.heap.size) (h0 : J [] W) :
    CallsIn F n Tryz.prog 133 #[.func (.yield lp) #[] #[], .pointer (some ⟨bx, 0, none⟩)] W fun e W' => (∃ v, e = .returned v) ∧ ((∃ ys, ys = List.range N ∧ J ys W') ∨ (∃ pre, pre <+: List.range N ∧ Jx pre W')) := by
  have HW := Lib.hid (⟨hrow, hN⟩ : RowAt W g (.slice A l.length c) Fp E ∧ NetsIn W n0 A l)
  have HC := Lib.hid hc97
  have HYY := Lib.hid hY
  have HJJ := Lib.hid hJ
  have HNN := Lib.hid hNN
  have x0 := hrow.nets
  clear hY hN hc97 hJ hNN
  refine callsIn_of_wp Tryz.func133 rfl hf ?_ hro
  simp only [Tryz.ntmps133, List.size_toArray, List.length_cons, List.length_nil, Nat.reduceAdd, Nat.reduceSub, Array.replicate_succ, Array.replicate_zero, List.push_toArray, List.append_toArray, List.nil_append, List.cons_append]
  gi_wp2
  gi_loopw [12] (fun i wr => ∃ k : Nat, k ≤ l.length ∧ i = .int .i64 k ∧ J (List.range (cntTo (l.map NetAt.cols) k)) wr ∧ KeepAt n0 bx W wr) (fun i _ => l.length - (intOf i).toNat)
  case atStart => exact ⟨0, Nat.zero_le _, rfl, by rw [cntTo_zero]; exact h0, KeepAt.refl _ _ _⟩
  case round =>
    obtain ⟨k, hk, rfl, hJs, eb⟩ := hrel
    have hsz := eb.1.size
    by_cases hlt : k < l.length
    · obtain ⟨b, off, x, rfl, hbB, hx, hc1, hc2, hrw, hfew, hix, hics⟩ := HW.out.2.net k hlt
      have hk1 := (eb.1.cell (p := ⟨b, off + k * 2, none⟩) (by show b < _; omega)).trans hc1
      have hk2 := (eb.1.cell (p := ⟨b, off + k * 2 + 1, none⟩) (by show b < _; omega)).trans hc2
      have HX := Lib.hid (show (l.map NetAt.cols).getD k [] = x.cols by rw [List.getD_eq_getElem?_getD, List.getElem?_map, hx]; rfl)
      have hin := HC.out x (List.mem_of_getElem? hx)
      clear hx hc1 hc2
      gi_wp2
      generalize hW1 : World.alloc wr _ = W1
      have hJ1 : J (List.range (cntTo (l.map NetAt.cols) k)) W1 := by rw [← hW1]; exact AbidesFrom.new HJJ.out _ hJs
      have eb1 : KeepAt n0 bx W W1 := by rw [← hW1]; exact eb.new hn0 hbn _
      have hsz1 := eb1.1.size
      have hrw1 := Lib.hid hrw
      clear hW1 hJs eb hk1 hk2 hrw
      generalize x.cols = cs at *
      generalize x.loc = loc at *
      generalize x.cap = cap at *
      gi_loopw [20] (fun i wz => ∃ j : Nat, j ≤ cs.length ∧ i = .int .i64 j ∧ J (List.range (cntTo (l.map NetAt.cols) k + j)) wz ∧ KeepAt n0 bx W wz) (fun i _ => cs.length - (intOf i).toNat)
      case atStart => exact ⟨0, Nat.zero_le _, rfl, hJ1, eb1⟩
      case round =>
        obtain ⟨j, hj, rfl, hJz, ez⟩ := hrel
        by_cases hlj : j < cs.length
        · obtain ⟨b2, off2, y, rfl, hbB2, hy, hcy⟩ := hrw1.out.int j hlj
          have hcyw := (ez.1.cell (p := ⟨b2, off2 + j, none⟩) (by show b2 < _; omega)).trans hcy
          obtain ⟨hy0, hy1⟩ := hin y (List.mem_of_getElem? hy)
          obtain ⟨Y, rfl⟩ : ∃ Y : Nat, y = (Y : Int) := ⟨y.toNat, by omega⟩
          have hY : Y < 97 := by omega
          have hY2 : (Y : Int) < 97 := by omega
          have hrowz := HW.out.1.block (ez.1.block g hgn)
          have m1 := hrowz.pos Y hY
          have hbz := (World.cell?_of_block (a := ⟨bx, 0, none⟩) ez.2).trans hbx
          have hcn : cntTo (l.map NetAt.cols) k + j < N := by
            rw [HNN.out]
            have h1 := cnt_mono (l.map NetAt.cols) l.length (by simp) (k + 1) hlt
            rw [cnt_next _ k (by rw [List.length_map]; exact hlt), HX.out] at h1
            omega
          obtain ⟨fn, tmps, assign, body, hy', hR⟩ := HYY.out _ (cntTo (l.map NetAt.cols) k + j) wr hJz (by rw [List.length_range]; exact hcn)
          have ht := tap_at Fp (l.map NetAt.cols) 0 k j (by rw [List.length_map]; exact hlt) (by rw [HX.out]; exact hlj)
          rw [HX.out, List.getD_eq_getElem?_getD (l := cs), hy, Option.getD_some, Int.toNat_natCast, Nat.zero_add] at ht
          rw [ht] at hy'
          dsimp only at hy'
          have e1 : List.range (cntTo (l.map NetAt.cols) k + j) ++ [cntTo (l.map NetAt.cols) k + j] = List.range (cntTo (l.map NetAt.cols) k + (j + 1)) := by rw [← Nat.add_assoc, List.range_succ]
          rw [e1] at hR
          generalize Fp Y = fy at *
          clear ht hy hcy hrowz HYY hY
          gi_wp2
          refine hR.mono ?_
          rintro e W3 (⟨rfl, hJ3, hk3⟩ | ⟨rfl, hJx3⟩)
          · gi_wp2
            go_roundw
            case rel => exact ⟨j + 1, by omega, by go_num, hJ3, ez.trans hk3⟩
            case measure => simp [intOf]; omega
          · gi_wp2
            refine bodyPost_ret (results_none rfl _ _ _) rfl ?_
            exact ⟨⟨_, rfl⟩, .inr ⟨_, range_prefix (by omega), hJx3⟩⟩
        · obtain rfl : j = cs.length := by omega
          gi_wp2
          go_roundw
          case rel => exact ⟨k + 1, by omega, by go_num, by rw [cnt_next _ k (by rw [List.length_map]; exact hlt), HX.out]; exact hJz, ez⟩
          case measure => simp [intOf]; omega
    · obtain rfl : k = l.length := by omega
      gi_wp2
      go_end0
      exact ⟨⟨_, rfl⟩, .inl ⟨_, by rw [HNN.out], hJs⟩⟩
theorem taps_stops (F : Fence) (n : Nat) (hf : F.fn 133) (hro : F.round = none) (hn : 1 ≤ n) (bx n0 g : Nat) (A : Option Addr) (c : Nat) (E : Value) (Fp : Nat → Int) (l : List NetAt) (w : World)
    (hbx : w.cell? ⟨bx, 0, none⟩ = some (.pointer (some ⟨g, 0, none⟩))) (hbn : bx < w.heap.size) (hgn : g < n0) (hrow : RowAt w g (.slice A l.length c) Fp E) (hN : NetsIn w n0 A l) (hc97 : ∀ x ∈ l, ∀ c ∈ x.cols, 0 ≤ c ∧ c < 97) (hl : l.length ≤ 1000) (hn0 : n0 ≤ w.heap.size) :
    SeqStopsK F n Tryz.prog 133 #[.pointer (some ⟨bx, 0, none⟩)] (fun x : Nat => #[.int .i64 (((tapFrom Fp 0 (l.map NetAt.cols)).getD x (0, 0)).1 : Int), .int .i64 ((tapFrom Fp 0 (l.map NetAt.cols)).getD x (0, 0)).2]) (KeepAt n0 bx)
      (fun ys => ys = List.range (tapFrom Fp 0 (l.map NetAt.cols)).length) (fun pre => pre <+: List.range (tapFrom Fp 0 (l.map NetAt.cols)).length) (tapFrom Fp 0 (l.map NetAt.cols)).length w := fun lp J Jx W hW hJ _ hY h0 =>
  taps1_in F n hf hro hn lp bx n0 g A c E Fp l _ J Jx W (by rw [tap_len, List.length_map]) hJ hY ((hW.cell (p := ⟨bx, 0, none⟩) hbn).trans hbx) (Nat.lt_of_lt_of_le hbn hW.size) hgn (hrow.below hW) (hN.below hW hn0) hc97 hl (Nat.le_trans hn0 hW.size) h0
end Go.Proofs.YtbldpojkpmafpaaGreatDoor

/- Package bus: the crossings of a row with tracks; they may stop beyond a number. -/
namespace Go.Proofs.YtbldpojkpmafpaaGreatDoor
open Go.RowKit Go.Shelf
attribute [local go_sem] Oper.semAt_some

def tapF (xs : List (Int × Int)) (ts : List Int) (taps : List (Nat × Int)) (x : Nat) : Int := crossUp xs ts (taps.getD x (0, 0)).1 (taps.getD x (0, 0)).2 xs.length
def crossRun (f : Nat → Int) (most : Int) : Int → List Nat → Int × Bool
  | s, [] => (s, false)
  | s, x :: r => if most < s + f x then (s + f x, true) else crossRun f most (s + f x) r
theorem run_snoc (f : Nat → Int) (most : Int) (x : Nat) : ∀ (pre : List Nat) (s0 s : Int), crossRun f most s0 pre = (s, false) → crossRun f most s0 (pre ++ [x]) = if most < s + f x then (s + f x, true) else (s + f x, false)
  | [], s0, s, h => by
    have : s0 = s := by simpa [crossRun] using h
    subst this
    simp [crossRun]
  | y :: r, s0, s, h => by
    unfold crossRun at h
    show crossRun f most s0 (y :: (r ++ [x])) = _
    unfold crossRun
    split at h
    · simp at h
    · rename_i hh
      rw [if_neg hh]
      exact run_snoc f most x r _ s h
theorem run_stop (f : Nat → Int) (most : Int) (t : List Nat) : ∀ (pre : List Nat) (s0 s : Int), crossRun f most s0 pre = (s, true) → crossRun f most s0 (pre ++ t) = (s, true)
  | [], s0, s, h => by simp [crossRun] at h
  | y :: r, s0, s, h => by
    unfold crossRun at h
    show crossRun f most s0 (y :: (r ++ t)) = _
    unfold crossRun
    split at h
    · rename_i hh
      rw [if_pos hh]; exact h
    · rename_i hh
      rw [if_neg hh]
      exact run_stop f most t r _ s h
theorem run_bd (f : Nat → Int) (most : Int) (L : Nat) (hf : ∀ x, 0 ≤ f x ∧ f x ≤ L) : ∀ (pre : List Nat) (s0 s : Int) (q : Bool), crossRun f most s0 pre = (s, q) → s0 ≤ s ∧ s ≤ s0 + (pre.length * L : Nat)
  | [], s0, s, q, h => by
    have : s0 = s := by simpa [crossRun] using (Prod.mk.inj h).1
    subst this; simp
  | y :: r, s0, s, q, h => by
    unfold crossRun at h
    have h1 := hf y
    have e : ((y :: r).length * L : Nat) = r.length * L + L := by rw [List.length_cons, Nat.add_mul, Nat.one_mul]
    rw [e]
    split at h
    · have := (Prod.mk.inj h).1
      omega
    · have := run_bd f most L hf r _ s q h
      omega

theorem tap_fst (Fp : Nat → Int) : ∀ (ls : List (List Int)) (i : Nat) (t : Nat × Int), t ∈ tapFrom Fp i ls → t.1 < i + ls.length
  | [], _, t, h => by cases h
  | c :: r, i, t, h => by
    unfold tapFrom at h
    rcases List.mem_append.1 h with h | h
    · obtain ⟨y, _, rfl⟩ := List.mem_map.1 h
      simp
    · have := tap_fst Fp r (i + 1) t h
      simp; omega
theorem tap_ok (Fp : Nat → Int) (ls : List (List Int)) (x : Nat) (h : 0 < (tapFrom Fp 0 ls).length) : ((tapFrom Fp 0 ls).getD x (0, 0)).1 < ls.length := by
  rw [List.getD_eq_getElem?_getD]
  by_cases hx : x < (tapFrom Fp 0 ls).length
  · rw [List.getElem?_eq_getElem hx]
    have := tap_fst Fp ls 0 _ (List.getElem_mem hx)
    simpa using this
  · rw [List.getElem?_eq_none (by omega)]
    cases ls with
    | nil => simp [tapFrom] at h
    | cons _ _ => simp
theorem Blk.grown {W W' : World} {row : Option Nat} {b : Nat} {t : TypeId} {cs : Array Value} (h : Blk W b t cs) (hg : W.grownBy W' row) (hr : ∀ r, row = some r → ∃ o : Obj, W.heap[r]? = some o ∧ o.isCells = false) : Blk W' b t cs := by
  refine (hg.block b h.lt fun e => ?_).trans h
  obtain ⟨o, h1, h2⟩ := hr b e.symm
  rw [show W.heap[b]? = some (.cells cs t (0, 0)) from h] at h1
  cases h1
  cases h2
theorem KeepAt.set {n0 bx : Nat} {A B : World} (h : KeepAt n0 bx A B) {b : Nat} (hb : n0 ≤ b) (hx : bx ≠ b) (i : Nat) (v : Value) : KeepAt n0 bx A (B.setCell ⟨b, i, none⟩ v) :=
  ⟨h.1.setCell (p := ⟨b, i, none⟩) hb _, (Below.heap_setCell B ⟨b, i, none⟩ v bx hx).trans h.2⟩

theorem below_drewN {B : Nat} {w w' : World} (h : Below B w w') (n : Nat) : Below B w (w'.drewN n) := ⟨h.os, h.tape, h.output, h.size, h.block⟩
theorem KeepAt.drewN {n0 bx : Nat} {A B : World} (h : KeepAt n0 bx A B) (n : Nat) : KeepAt n0 bx A (B.drewN n) := ⟨below_drewN h.1 n, h.2⟩
theorem others_drewN (W : World) (n : Nat) : KeepsOthers W (W.drewN n) := ⟨Nat.le_refl _, fun _ _ h _ => h⟩
def noDefer (l : List Oper) : Bool := l.all fun o => match o.op with | .defer _ => false | _ => true
theorem noDefer_at {l : List Oper} (h : noDefer l = true) {o : Oper} (ho : o ∈ l) (c : Call) : o.op ≠ .defer c := by
  intro e
  have := List.all_eq_true.1 h o ho
  simp only [e] at this
  cases this
section
variable {F : Fence} {n lp : Nat} {P : Program} {ops : Array Oper} {C : World → Prop}
theorem quietR_op {o : Oper} {a : Act} {K : Act → Prop} {K' : Act → World → Prop} {Q' : Exit → Act → World → Prop} {w : World} (hro : F.round = some lp) (hnd : ∀ c, o.op ≠ .defer c) (hw : C w) (h : ∀ a w', C w' → K a → K' a w')
    (ha : o.askedIn F P a C) (hh : o.quietIn F n P a C K) : o.wpIn F n P a w K' Q' := by
  obtain ⟨v, h1, h2⟩ := hh
  have h3 := h1 w hw
  unfold Oper.quietAtIn at h3
  unfold Oper.wpIn
  refine ⟨ha w hw, ?_⟩
  rw [hro, Oper.semAt_some _ _ _ hnd]
  generalize (execOp a.eval o).run P w = r at *
  cases r with
  | ok x w' =>
    cases x <;> simp only [Oper.quietUponIn] at h3 <;> simp only [Oper.uponIn]
    case value u =>
      obtain ⟨e1, e2⟩ := h3
      rw [e1, e2]
      exact h _ _ hw h2
    case skip =>
      obtain ⟨e1, e2⟩ := h3
      rw [e1, ← e2]
      exact h _ _ hw h2
    case enter f args =>
      obtain ⟨e1, hd, hc⟩ := h3
      rw [e1]
      exact ⟨hd, hc.mono fun e w'' ⟨he, hw''⟩ => by subst he; exact h _ _ hw'' h2⟩
  | halt x w' => simp only [Oper.quietUponIn] at h3
theorem quietR_at {i : Nat} {a : Act} {K : Act → Prop} {K' : Act → World → Prop} {Q' : Exit → Act → World → Prop} {w : World} (hro : F.round = some lp) (hnd : noDefer ops.toList = true) (hC : C w) (h : ∀ a w', C w' → K a → K' a w')
    (hh : qOpIn F n P ops C i K a) : wpOpIn F n P ops Q' i K' a w := by
  unfold qOpIn at hh
  unfold wpOpIn
  split
  · rename_i ho; simp only [ho] at hh; exact h _ _ hC hh
  · rename_i o ho
    simp only [ho] at hh
    obtain ⟨ha, hh⟩ := hh
    have hm : o ∈ ops.toList := by
      rw [← Array.mem_def]
      exact Array.mem_of_getElem? ho
    split
    · rename_i hw; simp only [hw, if_true] at hh; exact quietR_op hro (noDefer_at hnd hm) hC h ha hh
    · rename_i hw; simp only [hw] at hh; exact ⟨ha w hC, h _ _ hC hh⟩
theorem quietR_any {md : Region.Mode} {Q : Act → Prop} {Q' : Exit → Act → World → Prop} (hro : F.round = some lp) (hnd : noDefer ops.toList = true) (hQ : ∀ a w, C w → Q a → Q' .normal a w) : ∀ (fuel : Nat) (listed : Array Bool) (a : Act) (w : World), C w →
    wpAnyQIn F n P md ops C Q fuel listed a → wpAnyIn F n P md ops Q' fuel listed a w
  | 0, _, _, _, hw, h => ⟨h.1, hQ _ _ hw h.2⟩
  | fuel + 1, _, _, _, hw, h => ⟨fun h0 => hQ _ _ hw (h.1 h0), fun i hi => quietR_at hro hnd hw (fun a' w' hw' => quietR_any hro hnd hQ fuel _ a' w' hw') (h.2 i hi)⟩
theorem quietR_region {id : Nat} {Q : Exit → Act → World → Prop} {a : Act} {w : World} {l : List Oper} (hro : F.round = some lp) (hnd : noDefer l = true) (hm : P.follows .mixedOrders = true) (hB : Region.lexB .any l.toArray = true)
    (h : wpQuietIn F n P l.toArray (fun w' => ∃ n, w' = w.drewN n) (fun a' => ∀ w', (∃ n, w' = w.drewN n) → Q .normal a' w') l a) : (Code.region id l.toArray true).wpIn F n P Q a w := by
  simp only [Region.lexB, Bool.and_eq_true] at hB
  refine wpIn_region_any hm (quietR_any (C := fun w' => ∃ n, w' = w.drewN n) (Q := fun a' => ∀ w', (∃ n, w' = w.drewN n) → Q .normal a' w') hro hnd (fun _ w' hw' h => h w' hw') _ _ _ _ ⟨1, rfl⟩ ?_)
  have := wpAnyQIn_lex (F := F) (n := n) (C := fun w' => ∃ n, w' = w.drewN n) (md := .any) hB.1 l 0 (Array.replicate l.toArray.size false) a (by simp) (by simpa using hB.2) h
  simpa using this
end

set_option maxRecDepth 100000 in
set_option maxHeartbeats 8000000 in
theorem crossings_any (g : Nat) (A Ax A3 : Option Addr) (c cx c3 : Nat) (xs : List (Int × Int)) (ts : List Int) (Fp : Nat → Int) (l : List NetAt) (most : Int) (w : World) (h : RowAt w g (.slice A l.length c) Fp (.slice Ax xs.length cx)) (hr : Row w w.heap.size Ax (xcells xs)) (hN : NetsIn w w.heap.size A l)
    (hts : Row w w.heap.size A3 (ts.map (Value.int .i64))) (hxl : xs.length = l.length) (htl : ts.length = l.length) (hl : l.length ≤ 1000) (hc97 : ∀ x ∈ l, ∀ c ∈ x.cols, 0 ≤ c ∧ c < 97) (hT : (tapFrom Fp 0 (l.map NetAt.cols)).length ≤ 1000000) :
    Calls Tryz.prog 44 #[.pointer (some ⟨g, 0, none⟩), .slice A3 ts.length c3, .int .i64 most] w fun e w' =>
      e = .returned (.int .i64 (crossRun (tapF xs ts (tapFrom Fp 0 (l.map NetAt.cols))) most 0 (List.range (tapFrom Fp 0 (l.map NetAt.cols)).length)).1) ∧ Below w.heap.size w w' := by
  have HW := Lib.hid (⟨h, hr, hN, hts⟩ : RowAt w g (.slice A l.length c) Fp (.slice Ax xs.length cx) ∧ Row w w.heap.size Ax (xcells xs) ∧ NetsIn w w.heap.size A l ∧ Row w w.heap.size A3 (ts.map (Value.int .i64)))
  have hg := h.lt
  have HC := Lib.hid hc97
  obtain ⟨taps, htaps⟩ : ∃ taps, tapFrom Fp 0 (l.map NetAt.cols) = taps := ⟨_, rfl⟩
  rw [htaps] at hT ⊢
  have hok : ∀ x, 0 < taps.length → (taps.getD x (0, 0)).1 < l.length := fun x hx => by
    have := tap_ok Fp (l.map NetAt.cols) x (by rw [htaps]; exact hx)
    rw [htaps] at this
    simpa using this
  have hfb : ∀ x, 0 ≤ tapF xs ts taps x ∧ tapF xs ts taps x ≤ (l.length : Nat) := fun x => by
    have := crossUp_lo xs ts (taps.getD x (0, 0)).1 (taps.getD x (0, 0)).2 xs.length
    unfold tapF; omega
  obtain ⟨r, hr0⟩ : ∃ r, (crossRun (tapF xs ts taps) most 0 (List.range taps.length)).1 = r := ⟨_, rfl⟩
  rw [hr0]
  have HT := Lib.hid (⟨htaps, hr0, hok, hfb⟩ : tapFrom Fp 0 (l.map NetAt.cols) = taps ∧ (crossRun (tapF xs ts taps) most 0 (List.range taps.length)).1 = r ∧ (∀ x, 0 < taps.length → (taps.getD x (0, 0)).1 < l.length) ∧ ∀ x, 0 ≤ tapF xs ts taps x ∧ tapF xs ts taps x ≤ (l.length : Nat))
  clear htaps hr0 hok hfb
  clear h hr hN hts hc97
  have hmix : Tryz.prog.follows .mixedOrders = true := by kernel_rfl
  refine (callsIn_wide (n := 9)).1 ?_
  refine callsIn_of_wp_marks Tryz.func44 rfl trivial ?_ rfl
  simp only [Tryz.ntmps44, List.size_toArray, List.length_cons, List.length_nil, Nat.reduceAdd, Nat.reduceSub, Array.replicate_succ, Array.replicate_zero, List.push_toArray, List.append_toArray, List.nil_append, List.cons_append]
  gi_wp2_with (refine ⟨trivial, ?_⟩; gi_at_call 93; refine (callsIn_wide.2 (taps_any g _)).mono ?_; rintro e w5 ⟨bx, rfl, hb1, hb2, hb3, hb5⟩)
  obtain ⟨W4, hW4⟩ : ∃ W4, ((((w.alloc (.cells #[.pointer (some ⟨g, 0, none⟩)] 73)).alloc (.cells #[.slice A3 l.length c3] 24)).alloc (.cells #[.int .i64 most] 3)).alloc (.cells #[.int .i64 0] 3)) = W4 := ⟨_, rfl⟩
  have d3 : Blk W4 w.heap.size 73 #[.pointer (some ⟨g, 0, none⟩)] := by rw [← hW4]; exact (((Blk.new _ _ _).alloc _).alloc _).alloc _
  have d4 : Blk W4 (w.heap.size + 1) 24 #[.slice A3 l.length c3] := by rw [← hW4]; exact ((Blk.new' _ _ _ _ (by simp)).alloc _).alloc _
  have d5 : Blk W4 (w.heap.size + 1 + 1) 3 #[.int .i64 most] := by rw [← hW4]; exact (Blk.new' _ _ _ _ (by simp)).alloc _
  have d7 : Blk W4 (w.heap.size + 1 + 1 + 1) 3 #[.int .i64 0] := by rw [← hW4]; exact Blk.new' _ _ _ _ (by simp)
  have hB4 : Below w.heap.size w W4 := by rw [← hW4]; exact ((((Below.refl _ w).alloc (Nat.le_refl _) _).alloc (by simp) _).alloc (by simp; omega) _).alloc (by simp; omega) _
  have hs4 : W4.heap.size = w.heap.size + 1 + 1 + 1 + 1 := by rw [← hW4]; simp
  rw [hW4] at hb1 hb5
  clear hW4
  have e3 := d3.below hb5 (by omega)
  have e4 := d4.below hb5 (by omega)
  have e5 := d5.below hb5 (by omega)
  have e7 := d7.below hb5 (by omega)
  have hB5 : Below w.heap.size w w5 := below_after hB4 hb5 (by omega)
  clear d3 d4 d5 d7 hB4 hb5
  have hst := taps_stops Fence.wide (9 - 1) trivial rfl (by omega) bx w.heap.size g A c (.slice Ax xs.length cx) Fp l w5 hb3 hb2 hg (HW.out.1.below hB5) (HW.out.2.2.1.below hB5 (Nat.le_refl _)) HC.out hl hB5.size
  rw [HT.out.1] at hst
  refine wpIn_rangeFunc_ownF rfl (by omega) (gf := 133) (lb := #[.pointer (some ⟨bx, 0, none⟩)]) rfl trivial (enters_of Tryz.func133 (by kernel_rfl) rfl)
    hst (fun h1 h2 => h1.trans h2) (fun W lp o o' hl' h1 h2 h3 => ⟨belowK_b (w := w) (Nat.le_refl _) W lp o o' (by have := hB5.size; omega) h1 h2 h3, World.putObj_heap_other (by omega)⟩) (Below.refl _ _) (fun _ => rfl)
    (fun pre W => (∃ s, crossRun (tapF xs ts taps) most 0 pre = (s, false) ∧ Blk W w.heap.size 73 #[.pointer (some ⟨g, 0, none⟩)] ∧ Blk W (w.heap.size + 1) 24 #[.slice A3 l.length c3] ∧ Blk W (w.heap.size + 1 + 1) 3 #[.int .i64 most] ∧ Blk W (w.heap.size + 1 + 1 + 1) 3 #[.int .i64 s]) ∧ Below w.heap.size w W)
    (fun q pre W => (q = .exit 0 ∧ ∃ s, crossRun (tapF xs ts taps) most 0 pre = (s, true) ∧ Blk W (w.heap.size + 1 + 1 + 1) 3 #[.int .i64 s]) ∧ Below w.heap.size w W)
    (OwnFrom.and (Own.from (fun pre A B row hs hg hr => by obtain ⟨s, h1, h2, h3, h4, h5⟩ := hs; exact ⟨s, h1, h2.grown hg hr, h3.grown hg hr, h4.grown hg hr, h5.grown hg hr⟩) _) (ownFrom_below (Nat.le_refl _) hB5.size))
    (fun q => OwnFrom.and (Own.from (fun pre A B row hs hg hr => by obtain ⟨h0, s, h1, h2⟩ := hs; exact ⟨h0, s, h1, h2.grown hg hr⟩) _) (ownFrom_below (Nat.le_refl _) hB5.size))
    ⟨⟨0, rfl, e3, e4, e5, e7⟩, hB5⟩
    (fun x => { tmps := #[.pointer (some ⟨g, 0, none⟩), .slice A3 l.length c3, .int .i64 most, .pointer (some ⟨w.heap.size, 0, none⟩), .pointer (some ⟨w.heap.size + 1, 0, none⟩), .pointer (some ⟨w.heap.size + 1 + 1, 0, none⟩), .int .i64 0, .pointer (some ⟨w.heap.size + 1 + 1 + 1, 0, none⟩),
      .int .i64 ((taps.getD x (0, 0)).1 : Int), .int .i64 (taps.getD x (0, 0)).2, undef, .pointer (some ⟨g, 0, none⟩), .func (.func 133) #[] #[.pointer (some ⟨bx, 0, none⟩)], .int .i64 ((taps.getD x (0, 0)).1 : Int), .int .i64 (taps.getD x (0, 0)).2,
      undef, undef, undef, undef, undef, undef, undef, undef, undef, undef, undef, undef, undef, undef, undef, undef, undef, undef, undef, undef, undef, undef, undef, undef, undef, undef, undef, undef, undef, undef], defers := [] }) ?assign ?body ?done ?stop
  case assign =>
    intro lp x W K hK
    gi_wp2
    exact hK
  case body =>
    rintro lp pre x W ⟨⟨s, hs, f3, f4, f5, f7⟩, hB⟩ hlt
    have hsz := hB.size
    have hti := HT.out.2.2.1 x (by omega)
    have hbd := run_bd _ most l.length HT.out.2.2.2 pre 0 s false hs
    have hbd2 : pre.length * l.length ≤ 1000000 * 1000 := Nat.mul_le_mul (by omega) hl
    have hsn := Lib.hid (run_snoc (tapF xs ts taps) most x pre 0 s hs)
    have hfx := HT.out.2.2.2 x
    have htf : tapF xs ts taps x = crossUp xs ts (taps.getD x (0, 0)).1 (taps.getD x (0, 0)).2 xs.length := rfl
    rw [htf] at hsn hfx
    clear htf hs
    generalize taps.getD x (0, 0) = tp at *
    obtain ⟨ti, ta⟩ := tp
    simp only at hti hsn hfx ⊢
    have hrowW := HW.out.1.below hB
    obtain ⟨b2, off2, yi, hA3, hbB2, hyi, hci⟩ := HW.out.2.2.2.int ti (by omega)
    subst hA3
    have hciW := (hB.cell (p := ⟨b2, off2 + ti, none⟩) hbB2).trans hci
    have g0 := hrowW.nets
    have x3 := f3.cell 0
    have x4 := f4.cell 0
    have x5 := f5.cell 0
    have HCV := Lib.hid (fun (i : Nat) w' (hb : Below w.heap.size w w') (hi : i < xs.length) => covers_any g _ Fp Ax cx w.heap.size i ta xs w' (HW.out.1.below hb) (HW.out.2.1.below hb (Nat.le_refl _)) hi (by omega))
    gi_wp2
    gi_loopw [20] (fun i wr => ∃ k : Nat, k ≤ xs.length ∧ i = .int .i64 k ∧ Blk wr w.heap.size 73 #[.pointer (some ⟨g, 0, none⟩)] ∧ Blk wr (w.heap.size + 1) 24 #[.slice (some ⟨b2, off2, none⟩) l.length c3] ∧ Blk wr (w.heap.size + 1 + 1) 3 #[.int .i64 most] ∧
      Blk wr (w.heap.size + 1 + 1 + 1) 3 #[.int .i64 (s + crossUp xs ts ti ta k)] ∧ Below w.heap.size w wr ∧ KeepAt w.heap.size bx W wr ∧ KeepsOthers W wr) (fun i _ => xs.length - (intOf i).toNat)
    case atStart => exact ⟨0, Nat.zero_le _, rfl, f3, f4, f5, by show Blk W _ _ #[.int .i64 (s + 0)]; rw [Int.add_zero]; exact f7, hB, KeepAt.refl _ _ _, KeepsOthers.refl _⟩
    case round =>
      obtain ⟨k, hk, rfl, k3, k4, k5, k7, eb, ek, eo⟩ := hrel
      have hszr := eb.size
      have hu := crossUp_lo xs ts ti ta k
      by_cases hlk : k < xs.length
      · obtain ⟨b4, off4, yk, hA4, hbB4, hyk, hck⟩ := HW.out.2.2.2.int k (by omega)
        obtain ⟨rfl, rfl⟩ : b2 = b4 ∧ off2 = off4 := by injection hA4 with e; injection e with e1 e2; exact ⟨e1, e2⟩
        have hkk : (k : Int) < (l.length : Int) := by omega
        have hckr := (eb.cell (p := ⟨b2, off2 + k, none⟩) hbB4).trans hck
        have hcir := (eb.cell (p := ⟨b2, off2 + ti, none⟩) hbB2).trans hci
        have HS := Lib.hid (show crossUp xs ts ti ta (k + 1) = crossUp xs ts ti ta k + if decide (yk < yi) && covB xs k ta then 1 else 0 by
          show crossUp xs ts ti ta k + (if decide (ts.getD k 0 < ts.getD ti 0) && covB xs k ta then 1 else 0) = _
          rw [List.getD_eq_getElem?_getD, List.getD_eq_getElem?_getD, hyk, hyi]; rfl)
        have hcv := Lib.hid (fun j => HCV.out k (wr.drewN j) (below_drewN eb j) hlk)
        have m3 := k3.cell 0
        have m4 := k4.cell 0
        have m7 := k7.cell 0
        have n7 := k7.frozen 0
        clear hyk hck
        by_cases hlt2 : yk < yi
        · have hd2 : decide (yk < yi) = true := decide_eq_true hlt2
          rw [hd2, Bool.true_and] at HS
          generalize hcb : covB xs k ta = cb at *
          clear hcb
          have hcv2 : ∀ j, Calls Tryz.prog 63 #[.pointer (some ⟨g, 0, none⟩), .int .i64 (k : Int), .int .i64 ta] (wr.drewN j) fun e w' => e = .returned (.bool cb) ∧ w' = wr.drewN j := fun j => (hcv.out j).mono fun e w' h => ⟨h.1, h.2.symm⟩
          clear hcv
          gi_wp2
          refine quietR_region (lp := lp) rfl (by kernel_rfl) hmix (by kernel_rfl) ?_
          repeat (refine wpQuietIn_step (fun _ _ _ _ => True.intro) (fun K hK => ?_); go_simp; first | (refine hK _ ?_; clear hK K) | (apply Exists.intro; refine ⟨fun _ => ?_, hK _ ?_⟩; exact CallsIn.quiet_of_same (CallsIn.inRound lp (callsIn_wide.2 (hcv2 _))); clear hK K))
          refine wpQuietIn_nil ?_
          rintro _ ⟨nq, rfl⟩
          generalize hW2 : wr.drewN nq = W2
          have k3' : Blk W2 w.heap.size 73 #[.pointer (some ⟨g, 0, none⟩)] := by rw [← hW2]; exact k3.drewN nq
          have k4' : Blk W2 (w.heap.size + 1) 24 #[.slice (some ⟨b2, off2, none⟩) l.length c3] := by rw [← hW2]; exact k4.drewN nq
          have k5' : Blk W2 (w.heap.size + 1 + 1) 3 #[.int .i64 most] := by rw [← hW2]; exact k5.drewN nq
          have k7' : Blk W2 (w.heap.size + 1 + 1 + 1) 3 #[.int .i64 (s + crossUp xs ts ti ta k)] := by rw [← hW2]; exact k7.drewN nq
          have eb' : Below w.heap.size w W2 := by rw [← hW2]; exact below_drewN eb nq
          have ek' : KeepAt w.heap.size bx W W2 := by rw [← hW2]; exact ek.drewN nq
          have eo' : KeepsOthers W W2 := by rw [← hW2]; exact eo.trans (others_drewN wr nq)
          have m7 := k7'.cell 0
          have n7 := k7'.frozen 0
          clear hW2 k3 k4 k5 k7 eb ek eo hcv2 hckr hcir m3 m4
          cases cb
          · gi_wp2
            go_roundw
            case rel => exact ⟨k + 1, by omega, by go_num, k3', k4', k5', by rw [HS.out, if_neg Bool.false_ne_true, Int.add_zero]; exact k7', eb', ek', eo'⟩
            case measure => simp [intOf]; omega
          · gi_wp2
            go_roundw
            case rel => exact ⟨k + 1, by omega, by go_num, k3'.far (by show w.heap.size ≠ w.heap.size + 1 + 1 + 1; omega) _, k4'.far (by show w.heap.size + 1 ≠ w.heap.size + 1 + 1 + 1; omega) _, k5'.far (by show w.heap.size + 1 + 1 ≠ w.heap.size + 1 + 1 + 1; omega) _,
              by rw [HS.out, if_pos rfl, ← Int.add_assoc]; exact k7'.set 0 _, eb'.setCell (p := ⟨w.heap.size + 1 + 1 + 1, 0, none⟩) (by show w.heap.size ≤ w.heap.size + 1 + 1 + 1; omega) _, ek'.set (by omega) (by omega) 0 _, eo'.trans (KeepsOthers.setCell _ _ _)⟩
            case measure => simp [intOf]; omega
        · have hd2 : decide (yk < yi) = false := decide_eq_false hlt2
          rw [hd2, Bool.false_and] at HS
          gi_wp2
          refine quietR_region (lp := lp) rfl (by kernel_rfl) hmix (by kernel_rfl) ?_
          repeat (refine wpQuietIn_step (fun _ _ _ _ => True.intro) (fun K hK => ?_); go_simp; refine hK _ ?_; clear hK K)
          refine wpQuietIn_nil ?_
          rintro _ ⟨nq, rfl⟩
          gi_wp2
          go_roundw
          case rel => exact ⟨k + 1, by omega, by go_num, k3.drewN nq, k4.drewN nq, k5.drewN nq, by rw [HS.out, if_neg Bool.false_ne_true, Int.add_zero]; exact k7.drewN nq, below_drewN eb nq, ek.drewN nq, eo.trans (others_drewN wr nq)⟩
          case measure => simp [intOf]; omega
      · obtain rfl : k = xs.length := by omega
        have m5 := k5.cell 0
        have m7 := k7.cell 0
        rw [hxl] at m7
        have hfx2 := crossUp_lo xs ts ti ta l.length
        by_cases hmost : most < s + crossUp xs ts ti ta l.length
        · have hdm : decide (most < s + crossUp xs ts ti ta l.length) = true := decide_eq_true hmost
          gi_wp2
          exact ⟨eo, ⟨rfl, s + crossUp xs ts ti ta l.length, by rw [hsn.out, hxl, if_pos hmost], by rw [← hxl]; exact k7⟩, eb⟩
        · have hdm : decide (most < s + crossUp xs ts ti ta l.length) = false := decide_eq_false hmost
          gi_wp2
          exact ⟨eo, ek, ⟨s + crossUp xs ts ti ta l.length, by rw [hsn.out, hxl, if_neg (by omega)], k3, k4, k5, by rw [← hxl]; exact k7⟩, eb⟩
  case done =>
    rintro D ys W hD rfl ⟨⟨s, hs, f3, f4, f5, f7⟩, hB⟩ hK
    have e := HT.out.2.1
    rw [hs] at e
    obtain rfl : s = r := e
    have x7 := f7.cell 0
    gi_wp2
    refine ⟨by simp, .inl ⟨_, _, rfl, run_takeDeferred hK, ?_⟩⟩
    exact ⟨_, results_tmp rfl _ _ _, rfl, hB.trans (belowK_b (w := w) (Nat.le_refl _) W D _ _ (by have := hB5.size; omega) hK rfl rfl)⟩
  case stop =>
    rintro D q pre W hD hpre ⟨⟨rfl, s, hs, f7⟩, hB⟩ hK
    have e := HT.out.2.1
    obtain ⟨t, ht⟩ := hpre
    rw [← ht, run_stop _ _ t pre 0 s hs] at e
    obtain rfl : s = r := e
    have x7 := f7.cell 0
    gi_wp2
    refine ⟨by simp, .inl ⟨_, _, rfl, run_takeDeferred hK, ?_⟩⟩
    exact ⟨_, results_tmp rfl _ _ _, rfl, hB.trans (belowK_b (w := w) (Nat.le_refl _) W D _ _ (by have := hB5.size; omega) hK rfl rfl)⟩
end Go.Proofs.YtbldpojkpmafpaaGreatDoor

/- Package bus: the function that taps() gives, where the row that it reads lies behind what the rounds write. -/
namespace Go.Proofs.YtbldpojkpmafpaaGreatDoor
open Go.RowKit Go.Shelf
attribute [local go_sem] Oper.semAt_some

def KeepTwo (n0 bx g : Nat) (W W' : World) : Prop := Below n0 W W' ∧ W'.heap[bx]? = W.heap[bx]? ∧ W'.heap[g]? = W.heap[g]?
theorem KeepTwo.refl (n0 bx g : Nat) (W : World) : KeepTwo n0 bx g W W := ⟨Below.refl _ _, rfl, rfl⟩
theorem KeepTwo.trans {n0 bx g : Nat} {A B C : World} (h : KeepTwo n0 bx g A B) (h' : KeepTwo n0 bx g B C) : KeepTwo n0 bx g A C := ⟨h.1.trans h'.1, h'.2.1.trans h.2.1, h'.2.2.trans h.2.2⟩
theorem KeepTwo.new {n0 bx g : Nat} {A B : World} (h : KeepTwo n0 bx g A B) (hn : n0 ≤ A.heap.size) (hb : bx < A.heap.size) (hg : g < A.heap.size) (o : Obj) : KeepTwo n0 bx g A (B.alloc o) :=
  ⟨h.1.alloc (Nat.le_trans hn h.1.size) _, (Below.heap_alloc B o bx (Nat.lt_of_lt_of_le hb h.1.size)).trans h.2.1, (Below.heap_alloc B o g (Nat.lt_of_lt_of_le hg h.1.size)).trans h.2.2⟩

set_option maxRecDepth 100000 in
set_option maxHeartbeats 4000000 in
theorem taps2_in (F : Fence) (n : Nat) (hf : F.fn 133) (hro : F.round = none) (hn : 1 ≤ n) (lp bx n0 g : Nat) (A : Option Addr) (c : Nat) (E : Value) (Fp : Nat → Int) (l : List NetAt) (N : Nat) (J Jx : List Nat → World → Prop) (W : World)
    (hNN : N = cntTo (l.map NetAt.cols) l.length) (hJ : AbidesFrom W.heap.size J)
    (hY : ∀ pre (x : Nat) W1, J pre W1 → pre.length < N → YieldAt F (n - 1) Tryz.prog lp #[.int .i64 (((tapFrom Fp 0 (l.map NetAt.cols)).getD x (0, 0)).1 : Int), .int .i64 ((tapFrom Fp 0 (l.map NetAt.cols)).getD x (0, 0)).2] W1 fun e W' =>
      (e = .returned (.bool true) ∧ J (pre ++ [x]) W' ∧ KeepTwo n0 bx g W1 W') ∨ (e = .returned (.bool false) ∧ Jx (pre ++ [x]) W'))
    (hbx : W.cell? ⟨bx, 0, none⟩ = some (.pointer (some ⟨g, 0, none⟩))) (hbn : bx < W.heap.size) (hrow : RowAt W g (.slice A l.length c) Fp E) (hN : NetsIn W n0 A l) (hc97 : ∀ x ∈ l, ∀ c ∈ x.cols, 0 ≤ c ∧ c < 97) (hl : l.length ≤ 1000) (hn0 : n0 ≤ W.heap.size) (h0 : J [] W) :
    CallsIn F n Tryz.prog 133 #[.func (.yield lp) #[] #[], .pointer (some ⟨bx, 0, none⟩)] W fun e W' => (∃ v, e = .returned v) ∧ ((∃ ys, ys = List.range N ∧ J ys W') ∨ (∃ pre, pre <+: List.range N ∧ Jx pre W')) := by
  have HW := Lib.hid (⟨hrow, hN⟩ : RowAt W g (.slice A l.length c) Fp E ∧ NetsIn W n0 A l)
  have HC := Lib.hid hc97
  have HYY := Lib.hid hY
  have HJJ := Lib.hid hJ
  have HNN := Lib.hid hNN
  have x0 := hrow.nets
  clear hY hN hc97 hJ hNN
  refine callsIn_of_wp Tryz.func133 rfl hf ?_ hro
  simp only [Tryz.ntmps133, List.size_toArray, List.length_cons, List.length_nil, Nat.reduceAdd, Nat.reduceSub, Array.replicate_succ, Array.replicate_zero, List.push_toArray, List.append_toArray, List.nil_append, List.cons_append]
  gi_wp2
  gi_loopw [12] (fun i wr => ∃ k : Nat, k ≤ l.length ∧ i = .int .i64 k ∧ J (List.range (cntTo (l.map NetAt.cols) k)) wr ∧ KeepTwo n0 bx g W wr) (fun i _ => l.length - (intOf i).toNat)
  case atStart => exact ⟨0, Nat.zero_le _, rfl, by rw [cntTo_zero]; exact h0, KeepTwo.refl _ _ _ _⟩
  case round =>
    obtain ⟨k, hk, rfl, hJs, eb⟩ := hrel
    have hsz := eb.1.size
    by_cases hlt : k < l.length
    · obtain ⟨b, off, x, rfl, hbB, hx, hc1, hc2, hrw, hfew, hix, hics⟩ := HW.out.2.net k hlt
      have hk1 := (eb.1.cell (p := ⟨b, off + k * 2, none⟩) (by show b < _; omega)).trans hc1
      have hk2 := (eb.1.cell (p := ⟨b, off + k * 2 + 1, none⟩) (by show b < _; omega)).trans hc2
      have HX := Lib.hid (show (l.map NetAt.cols).getD k [] = x.cols by rw [List.getD_eq_getElem?_getD, List.getElem?_map, hx]; rfl)
      have hin := HC.out x (List.mem_of_getElem? hx)
      clear hx hc1 hc2
      gi_wp2
      generalize hW1 : World.alloc wr _ = W1
      have hJ1 : J (List.range (cntTo (l.map NetAt.cols) k)) W1 := by rw [← hW1]; exact AbidesFrom.new HJJ.out _ hJs
      have eb1 : KeepTwo n0 bx g W W1 := by rw [← hW1]; exact eb.new hn0 hbn hrow.lt _
      have hsz1 := eb1.1.size
      have hrw1 := Lib.hid hrw
      clear hW1 hJs eb hk1 hk2 hrw
      generalize x.cols = cs at *
      generalize x.loc = loc at *
      generalize x.cap = cap at *
      gi_loopw [20] (fun i wz => ∃ j : Nat, j ≤ cs.length ∧ i = .int .i64 j ∧ J (List.range (cntTo (l.map NetAt.cols) k + j)) wz ∧ KeepTwo n0 bx g W wz) (fun i _ => cs.length - (intOf i).toNat)
      case atStart => exact ⟨0, Nat.zero_le _, rfl, hJ1, eb1⟩
      case round =>
        obtain ⟨j, hj, rfl, hJz, ez⟩ := hrel
        by_cases hlj : j < cs.length
        · obtain ⟨b2, off2, y, rfl, hbB2, hy, hcy⟩ := hrw1.out.int j hlj
          have hcyw := (ez.1.cell (p := ⟨b2, off2 + j, none⟩) (by show b2 < _; omega)).trans hcy
          obtain ⟨hy0, hy1⟩ := hin y (List.mem_of_getElem? hy)
          obtain ⟨Y, rfl⟩ : ∃ Y : Nat, y = (Y : Int) := ⟨y.toNat, by omega⟩
          have hY : Y < 97 := by omega
          have hY2 : (Y : Int) < 97 := by omega
          have hrowz := HW.out.1.block ez.2.2
          have m1 := hrowz.pos Y hY
          have hbz := (World.cell?_of_block (a := ⟨bx, 0, none⟩) ez.2.1).trans hbx
          have hcn : cntTo (l.map NetAt.cols) k + j < N := by
            rw [HNN.out]
            have h1 := cnt_mono (l.map NetAt.cols) l.length (by simp) (k + 1) hlt
            rw [cnt_next _ k (by rw [List.length_map]; exact hlt), HX.out] at h1
            omega
          obtain ⟨fn, tmps, assign, body, hy', hR⟩ := HYY.out _ (cntTo (l.map NetAt.cols) k + j) wr hJz (by rw [List.length_range]; exact hcn)
          have ht := tap_at Fp (l.map NetAt.cols) 0 k j (by rw [List.length_map]; exact hlt) (by rw [HX.out]; exact hlj)
          rw [HX.out, List.getD_eq_getElem?_getD (l := cs), hy, Option.getD_some, Int.toNat_natCast, Nat.zero_add] at ht
          rw [ht] at hy'
          dsimp only at hy'
          have e1 : List.range (cntTo (l.map NetAt.cols) k + j) ++ [cntTo (l.map NetAt.cols) k + j] = List.range (cntTo (l.map NetAt.cols) k + (j + 1)) := by rw [← Nat.add_assoc, List.range_succ]
          rw [e1] at hR
          generalize Fp Y = fy at *
          clear ht hy hcy hrowz HYY hY
          gi_wp2
          refine hR.mono ?_
          rintro e W3 (⟨rfl, hJ3, hk3⟩ | ⟨rfl, hJx3⟩)
          · gi_wp2
            go_roundw
            case rel => exact ⟨j + 1, by omega, by go_num, hJ3, ez.trans hk3⟩
            case measure => simp [intOf]; omega
          · gi_wp2
            refine bodyPost_ret (results_none rfl _ _ _) rfl ?_
            exact ⟨⟨_, rfl⟩, .inr ⟨_, range_prefix (by omega), hJx3⟩⟩
        · obtain rfl : j = cs.length := by omega
          gi_wp2
          go_roundw
          case rel => exact ⟨k + 1, by omega, by go_num, by rw [cnt_next _ k (by rw [List.length_map]; exact hlt), HX.out]; exact hJz, ez⟩
          case measure => simp [intOf]; omega
    · obtain rfl : k = l.length := by omega
      gi_wp2
      go_end0
      exact ⟨⟨_, rfl⟩, .inl ⟨_, by rw [HNN.out], hJs⟩⟩
theorem taps2_stops (F : Fence) (n : Nat) (hf : F.fn 133) (hro : F.round = none) (hn : 1 ≤ n) (bx n0 g : Nat) (A : Option Addr) (c : Nat) (E : Value) (Fp : Nat → Int) (l : List NetAt) (w : World)
    (hbx : w.cell? ⟨bx, 0, none⟩ = some (.pointer (some ⟨g, 0, none⟩))) (hbn : bx < w.heap.size) (hrow : RowAt w g (.slice A l.length c) Fp E) (hN : NetsIn w n0 A l) (hc97 : ∀ x ∈ l, ∀ c ∈ x.cols, 0 ≤ c ∧ c < 97) (hl : l.length ≤ 1000) (hn0 : n0 ≤ w.heap.size) :
    SeqStopsK F n Tryz.prog 133 #[.pointer (some ⟨bx, 0, none⟩)] (fun x : Nat => #[.int .i64 (((tapFrom Fp 0 (l.map NetAt.cols)).getD x (0, 0)).1 : Int), .int .i64 ((tapFrom Fp 0 (l.map NetAt.cols)).getD x (0, 0)).2]) (KeepTwo n0 bx g)
      (fun ys => ys = List.range (tapFrom Fp 0 (l.map NetAt.cols)).length) (fun pre => pre <+: List.range (tapFrom Fp 0 (l.map NetAt.cols)).length) (tapFrom Fp 0 (l.map NetAt.cols)).length w := fun lp J Jx W hW hJ _ hY h0 =>
  taps2_in F n hf hro hn lp bx n0 g A c E Fp l _ J Jx W (by rw [tap_len, List.length_map]) hJ hY ((hW.cell (p := ⟨bx, 0, none⟩) hbn).trans hbx) (Nat.lt_of_lt_of_le hbn hW.size) (hrow.below hW) (hN.below hW hn0) hc97 hl (Nat.le_trans hn0 hW.size) h0
end Go.Proofs.YtbldpojkpmafpaaGreatDoor

/- Package bus: a table of rows in memory, and worlds in which its rows alone have turned. -/
namespace Go.Proofs.YtbldpojkpmafpaaGreatDoor
open Go.RowKit Go.Shelf

structure SameBut (S m : Nat) (rb : Nat → Nat) (W0 W : World) : Prop where
  os : W.os = W0.os
  tape : W.tape = W0.tape
  output : W.output = W0.output
  size : W0.heap.size ≤ W.heap.size
  block : ∀ b, b < S → (∀ j, j < m → b ≠ rb j) → W.heap[b]? = W0.heap[b]?
theorem SameBut.refl (S m : Nat) (rb : Nat → Nat) (W : World) : SameBut S m rb W W := ⟨rfl, rfl, rfl, Nat.le_refl _, fun _ _ _ => rfl⟩
theorem SameBut.drewN {S m : Nat} {rb : Nat → Nat} {W0 W : World} (h : SameBut S m rb W0 W) (n : Nat) : SameBut S m rb W0 (W.drewN n) := ⟨h.os, h.tape, h.output, h.size, h.block⟩
theorem SameBut.put {S m : Nat} {rb : Nat → Nat} {W0 W : World} (h : SameBut S m rb W0 W) {i : Nat} (hi : i < m) (j : Nat) (v : Value) : SameBut S m rb W0 (W.setCell ⟨rb i, j, none⟩ v) := by
  have hb := (Below.refl 0 W).setCell (p := ⟨rb i, j, none⟩) (Nat.zero_le _) v
  exact ⟨hb.os.trans h.os, hb.tape.trans h.tape, hb.output.trans h.output, Nat.le_trans h.size hb.size, fun b hS hn => (Below.heap_setCell W ⟨rb i, j, none⟩ v b (hn i hi)).trans (h.block b hS hn)⟩
theorem SameBut.grown {S m : Nat} {rb : Nat → Nat} {W0 W W' : World} {row : Option Nat} (h : SameBut S m rb W0 W) (hS : S ≤ W0.heap.size) (hg : W.grownBy W' row) (hr : ∀ r, row = some r → S ≤ r) : SameBut S m rb W0 W' :=
  ⟨hg.os.trans h.os, hg.tape.trans h.tape, hg.output.trans h.output, Nat.le_trans h.size hg.size, fun b hb hn => (hg.block b (by have := h.size; omega) (fun e => by have := hr b e.symm; omega)).trans (h.block b hb hn)⟩
theorem SameBut.below {S m : Nat} {rb : Nat → Nat} {W0 W : World} (h : SameBut S m rb W0 W) {B : Nat} (hB : B ≤ S) (hrb : ∀ j, j < m → B ≤ rb j) : Below B W0 W :=
  ⟨h.os, h.tape, h.output, h.size, fun k hk => h.block k (by omega) fun j hj => by have := hrb j hj; omega⟩
theorem SameBut.two {S m : Nat} {rb : Nat → Nat} {W0 A B : World} (h : SameBut S m rb W0 A) (k : SameBut S m rb W0 B) (hs : A.heap.size ≤ B.heap.size) {n bx g : Nat} (hn : n ≤ S) (hrb : ∀ j, j < m → n ≤ rb j) (hx : bx < S) (hxr : ∀ j, j < m → bx ≠ rb j) (hg : g < S) (hgr : ∀ j, j < m → g ≠ rb j) : KeepTwo n bx g A B :=
  ⟨⟨k.os.trans h.os.symm, k.tape.trans h.tape.symm, k.output.trans h.output.symm, hs, fun b hb => (k.block b (by omega) fun j hj => by have := hrb j hj; omega).trans (h.block b (by omega) fun j hj => by have := hrb j hj; omega).symm⟩,
    (k.block bx hx hxr).trans (h.block bx hx hxr).symm, (k.block g hg hgr).trans (h.block g hg hgr).symm⟩
theorem Blk.same {S m : Nat} {rb : Nat → Nat} {W0 W : World} (h : SameBut S m rb W0 W) {b : Nat} {t : TypeId} {cs : Array Value} (hb : Blk W0 b t cs) (hS : b < S) (hn : ∀ j, j < m → b ≠ rb j) : Blk W b t cs := (h.block b hS hn).trans hb

theorem nodup_at {u : List Int} (h : u.Nodup) {i j : Nat} (hi : i < u.length) (hj : j < u.length) (e : u[i] = u[j]) : i = j := by
  rcases Nat.lt_trichotomy i j with g | g | g
  · exact absurd e (List.pairwise_iff_getElem.1 h i j hi hj g)
  · exact g
  · exact absurd e.symm (List.pairwise_iff_getElem.1 h j i hj hi g)
def TabIs (W : World) (us : List Int) (rb : Nat → Nat) (f : Int → Int → Int) : Prop :=
  ∀ j, j < us.length → Blk W (rb j) 3 (us.map fun b => Value.int .i64 (f (us.getD j 0) b)).toArray
theorem TabIs.drewN {W : World} {us : List Int} {rb : Nat → Nat} {f : Int → Int → Int} (h : TabIs W us rb f) (n : Nat) : TabIs (W.drewN n) us rb f := fun j hj => (h j hj).drewN n
theorem TabIs.grown {W W' : World} {us : List Int} {rb : Nat → Nat} {f : Int → Int → Int} {row : Option Nat} (h : TabIs W us rb f) (hg : W.grownBy W' row) (hr : ∀ r, row = some r → ∃ o : Obj, W.heap[r]? = some o ∧ o.isCells = false) : TabIs W' us rb f := fun j hj => (h j hj).grown hg hr
theorem TabIs.congr {W : World} {us : List Int} {rb : Nat → Nat} {f g : Int → Int → Int} (h : TabIs W us rb f) (e : ∀ a, a ∈ us → ∀ b, b ∈ us → f a b = g a b) : TabIs W us rb g := fun j hj => by
  have := h j hj
  have e2 : (us.map fun b => Value.int .i64 (f (us.getD j 0) b)) = us.map fun b => Value.int .i64 (g (us.getD j 0) b) := List.map_congr_left fun b hb => by
    rw [e _ (by simp only [List.getD_eq_getElem?_getD, List.getElem?_eq_getElem hj, Option.getD_some]; exact List.getElem_mem _) b hb]
  rw [e2] at this
  exact this
theorem TabIs.cell {W : World} {us : List Int} {rb : Nat → Nat} {f : Int → Int → Int} (h : TabIs W us rb f) {i j : Nat} (hi : i < us.length) (hj : j < us.length) : W.cell? ⟨rb i, j, none⟩ = some (.int .i64 (f (us.getD i 0) (us.getD j 0))) := by
  rw [(h i hi).cell j]
  simp [List.getD_eq_getElem?_getD, hi, hj]
theorem TabIs.inc {W : World} {us : List Int} {rb : Nat → Nat} {f : Int → Int → Int} (h : TabIs W us rb f) (hu : us.Nodup) (hinj : ∀ i j, i < us.length → j < us.length → rb i = rb j → i = j) {A B : Nat} (hA : A < us.length) (hB : B < us.length) :
    TabIs (W.setCell ⟨rb A, B, none⟩ (.int .i64 (f (us.getD A 0) (us.getD B 0) + 1))) us rb (fun a b => f a b + if a = us.getD A 0 ∧ b = us.getD B 0 then 1 else 0) := by
  have hne : ∀ i j, i < us.length → j < us.length → us.getD i 0 = us.getD j 0 → i = j := fun i j hi hj e => by
    simp only [List.getD_eq_getElem?_getD, List.getElem?_eq_getElem hi, List.getElem?_eq_getElem hj, Option.getD_some] at e
    exact nodup_at hu hi hj e
  intro j hj
  by_cases e : j = A
  · subst e
    have h1 := (h j hj).set B (.int .i64 (f (us.getD j 0) (us.getD B 0) + 1))
    have e2 : (us.map fun b => Value.int .i64 (f (us.getD j 0) b)).toArray.setIfInBounds B (.int .i64 (f (us.getD j 0) (us.getD B 0) + 1)) = (us.map fun b => Value.int .i64 (f (us.getD j 0) b + if us.getD j 0 = us.getD j 0 ∧ b = us.getD B 0 then 1 else 0)).toArray := by
      apply Array.ext'
      simp only [Array.toList_setIfInBounds]
      apply List.ext_getElem
      · simp
      · intro i h1 h2
        have hi : i < us.length := by simpa using h1
        simp only [List.getElem_set, List.getElem_map]
        have hg : us[i] = us.getD i 0 := by simp [List.getD_eq_getElem?_getD, hi]
        by_cases hib : B = i
        · subst hib; rw [if_pos rfl, hg, if_pos ⟨trivial, rfl⟩]
        · rw [if_neg hib, if_neg, Int.add_zero]
          rintro ⟨_, g⟩
          rw [hg] at g
          exact hib (hne i B hi hB g).symm
    rw [e2] at h1
    exact h1
  · have h1 := (h j hj).far (p := ⟨rb A, B, none⟩) (fun g => e (hinj j A hj hA g)) (.int .i64 (f (us.getD A 0) (us.getD B 0) + 1))
    have e2 : (us.map fun b => Value.int .i64 (f (us.getD j 0) b)) = us.map fun b => Value.int .i64 (f (us.getD j 0) b + if us.getD j 0 = us.getD A 0 ∧ b = us.getD B 0 then 1 else 0) := List.map_congr_left fun b hb => by
      rw [if_neg (fun g => e (hne j A hj hA g.1)), Int.add_zero]
    rw [e2] at h1
    exact h1
theorem idx_at {us : List Int} (hu : us.Nodup) {x : Int} (hx : x ∈ us) : ∃ A : Nat, A < us.length ∧ us.getD A 0 = x ∧ Lib.idxOf us x = (A : Int) := by
  obtain ⟨A, hA, e⟩ := List.mem_iff_getElem.1 hx
  have e2 : us.getD A 0 = x := by simp [List.getD_eq_getElem?_getD, hA, e]
  refine ⟨A, hA, e2, ?_⟩
  have := Lib.idxFrom_hit x us A 0 hA e2 fun j hj h => by
    have hjl : j < us.length := by omega
    have e3 : us[j] = us[A] := by rw [e, ← h]; simp [List.getD_eq_getElem?_getD, hjl]
    have := nodup_at hu hjl hA e3
    omega
  rw [Nat.zero_add] at this
  exact this
end Go.Proofs.YtbldpojkpmafpaaGreatDoor
