/- Package bus: the crossings of a row with tracks; they may stop beyond a number. -/
import Derived.Test.YtbldpojkpmafpaaGreatDoorZaBusTap1
import Derived.RangeFuncFrom
import Derived.Sort.QuietTacIn
import Derived.Lib.Slices
import Derived.Shelf.Small.Utf8
import Derived.Shelf.Small.Bits
import Derived.Shelf.Small.Strs
import Derived.Shelf.Small.Wraps
import Derived.Shelf.Strconv.Atoi
import Derived.Shelf.Strconv.Itoa0
import Derived.Shelf.Strconv.Itoa1
import Derived.Shelf.LaysM
import Derived.Shelf.Strconv.Itoa2
import Derived.Shelf.Strconv.Itoa3
import Derived.Shelf.Strconv.AtoiErrFast
import Derived.Shelf.Strconv.ParseIntEmpty
import Derived.Shelf.Strconv.AtoiFail
import Derived.Shelf.Strconv.Clone
import Derived.Shelf.Strconv.SyntaxError
import Derived.Shelf.LaysC
import Derived.Shelf.Strconv.ToError
import Derived.Shelf.Strconv.AtoiErr
import Derived.Shelf.Strconv.ErrVar
import Derived.Shelf.Strconv.Lower
import Derived.Shelf.Strconv.ParseUint10
import Derived.Shelf.Strconv.ParseUint10Empty
import Derived.Shelf.Strconv.ParseUint10Any
import Derived.Shelf.Strconv.ParseInt10
import Derived.Shelf.Strconv.AtoiLong
import Derived.Shelf.Strconv.AtoiInnerAll
import Derived.Shelf.Strconv.RangeError
import Derived.Shelf.Strconv.ToErrorRange
import Derived.Shelf.Strconv.AtoiAll
import Derived.Shelf.Strconv.ErrVarAll
import Derived.Shelf.Strconv.ParseUintEmpty
import Derived.Shelf.Strconv.ParseUint10b64
import Derived.Shelf.Strconv.ParseUint10b32
import Derived.Shelf.Strconv.ParseUint10b16
import Derived.Shelf.Strconv.ParseUint10b8
import Derived.Shelf.Strconv.ParseUint10At
import Derived.Shelf.Strings.Search1
import Derived.Shelf.Strings.Search2
import Derived.Shelf.Strings.Search3
import Derived.Shelf.Strings.Cut
import Derived.Shelf.Strings.Count
import Derived.Shelf.Strings.Shaped
import Derived.Shelf.Sort.Plain
import Derived.Shelf.Strings.Prefix
import Derived.Shelf.Strings.Runes
import Derived.Shelf.Strings.AsciiSet
import Derived.Shelf.Bits.Mul64
import Derived.Shelf.Unicode.DecodeSlow
import Derived.Shelf.Unicode.DecodeAny
import Derived.Shelf.Slices.Turned
import Derived.Shelf.Slices.Reverse
import Derived.Ground.Names2Prog
import Derived.Shelf.Slices.Clone
import Derived.Shelf.Slices.CompactI
import Derived.Shelf.Slices.SearchI
import Derived.Shelf.Slices.Cells
import Derived.Shelf.Slices.In.SortNone
import Derived.Ground.SlgnProg
import Derived.Shelf.SlicesE.Clone
import Derived.Test.YtbldpojkpmafpaaGreatDoorProg
import Derived.Lib.RowBridge
import Derived.StillTail
namespace Go.Proofs.YtbldpojkpmafpaaGreatDoor
open Go.RowKit Go.Shelf
attribute [local go_sem] Oper.semAt_some

def tapF (xs : List (Int × Int)) (ts : List Int) (taps : List (Nat × Int)) (x : Nat) : Int := crossUp xs ts (taps.getD x (0, 0)).1 (taps.getD x (0, 0)).2 xs.length
def crossRun (f : Nat → Int) (most : Int) : Int → List Nat → Int × Bool
  | s, [] => (s, false)
  | s, x :: r => if most < s + f x then (s + f x, true) else crossRun f most (s + f x) r
theorem tap_fst (Fp : Nat → Int) : ∀ (ls : List (List Int)) (i : Nat) (t : Nat × Int), t ∈ tapFrom Fp i ls → t.1 < i + ls.length
  | [], _, t, h => by cases h
  | c :: r, i, t, h => by
    unfold tapFrom at h
    rcases List.mem_append.1 h with h | h
    · obtain ⟨y, _, rfl⟩ := List.mem_map.1 h
      simp
    · have := tap_fst Fp r (i + 1) t h
      simp; omega
theorem tap_ok (Fp : Nat → Int) (ls : List (List Int)) (x : Nat) (h : 0 < (tapFrom Fp 0 ls).length) : ((tapFrom Fp 0 ls).getD x (0, 0)).1 < ls.length := by
  rw [List.getD_eq_getElem?_getD]
  by_cases hx : x < (tapFrom Fp 0 ls).length
  · rw [List.getElem?_eq_getElem hx]
    have := tap_fst Fp ls 0 _ (List.getElem_mem hx)
    simpa using this
  · rw [List.getElem?_eq_none (by omega)]
    cases ls with
    | nil => simp [tapFrom] at h
    | cons _ _ => simp
theorem Blk.grown {W W' : World} {row : Option Nat} {b : Nat} {t : TypeId} {cs : Array Value} (h : Blk W b t cs) (hg : W.grownBy W' row) (hr : ∀ r, row = some r → ∃ o : Obj, W.heap[r]? = some o ∧ o.isCells = false) : Blk W' b t cs := by
  refine (hg.block b h.lt fun e => ?_).trans h
  obtain ⟨o, h1, h2⟩ := hr b e.symm
  rw [show W.heap[b]? = some (.cells cs t (0, 0)) from h] at h1
  cases h1
  cases h2
theorem KeepAt.set {n0 bx : Nat} {A B : World} (h : KeepAt n0 bx A B) {b : Nat} (hb : n0 ≤ b) (hx : bx ≠ b) (i : Nat) (v : Value) : KeepAt n0 bx A (B.setCell ⟨b, i, none⟩ v) :=
  ⟨h.1.setCell (p := ⟨b, i, none⟩) hb _, (Below.heap_setCell B ⟨b, i, none⟩ v bx hx).trans h.2⟩

theorem below_drewN {B : Nat} {w w' : World} (h : Below B w w') (n : Nat) : Below B w (w'.drewN n) := ⟨h.os, h.tape, h.output, h.size, h.block⟩
theorem KeepAt.drewN {n0 bx : Nat} {A B : World} (h : KeepAt n0 bx A B) (n : Nat) : KeepAt n0 bx A (B.drewN n) := ⟨below_drewN h.1 n, h.2⟩
theorem others_drewN (W : World) (n : Nat) : KeepsOthers W (W.drewN n) := ⟨Nat.le_refl _, fun _ _ h _ => h⟩
def noDefer (l : List Oper) : Bool := l.all fun o => match o.op with | .defer _ => false | _ => true
theorem noDefer_at {l : List Oper} (h : noDefer l = true) {o : Oper} (ho : o ∈ l) (c : Call) : o.op ≠ .defer c := by
  intro e
  have := List.all_eq_true.1 h o ho
  simp only [e] at this
  cases this
section
variable {F : Fence} {n lp : Nat} {P : Program} {ops : Array Oper} {C : World → Prop}
theorem quietR_op {o : Oper} {a : Act} {K : Act → Prop} {K' : Act → World → Prop} {Q' : Exit → Act → World → Prop} {w : World} (hro : F.round = some lp) (hnd : ∀ c, o.op ≠ .defer c) (hw : C w) (h : ∀ a w', C w' → K a → K' a w')
    (ha : o.askedIn F P a C) (hh : o.quietIn F n P a C K) : o.wpIn F n P a w K' Q' := by
  obtain ⟨v, h1, h2⟩ := hh
  have h3 := h1 w hw
  unfold Oper.quietAtIn at h3
  unfold Oper.wpIn
  refine ⟨ha w hw, ?_⟩
  rw [hro, Oper.semAt_some _ _ _ hnd]
  generalize (execOp a.eval o).run P w = r at *
  cases r with
  | ok x w' =>
    cases x <;> simp only [Oper.quietUponIn] at h3 <;> simp only [Oper.uponIn]
    case value u =>
      obtain ⟨e1, e2⟩ := h3
      rw [e1, e2]
      exact h _ _ hw h2
    case skip =>
      obtain ⟨e1, e2⟩ := h3
      rw [e1, ← e2]
      exact h _ _ hw h2
    case enter f args =>
      obtain ⟨e1, hd, hc⟩ := h3
      rw [e1]
      exact ⟨hd, hc.mono fun e w'' ⟨he, hw''⟩ => by subst he; exact h _ _ hw'' h2⟩
  | halt x w' => simp only [Oper.quietUponIn] at h3
theorem quietR_at {i : Nat} {a : Act} {K : Act → Prop} {K' : Act → World → Prop} {Q' : Exit → Act → World → Prop} {w : World} (hro : F.round = some lp) (hnd : noDefer ops.toList = true) (hC : C w) (h : ∀ a w', C w' → K a → K' a w')
    (hh : qOpIn F n P ops C i K a) : wpOpIn F n P ops Q' i K' a w := by
  unfold qOpIn at hh
  unfold wpOpIn
  split
  · rename_i ho; simp only [ho] at hh; exact h _ _ hC hh
  · rename_i o ho
    simp only [ho] at hh
    obtain ⟨ha, hh⟩ := hh
    have hm : o ∈ ops.toList := by
      rw [← Array.mem_def]
      exact Array.mem_of_getElem? ho
    split
    · rename_i hw; simp only [hw, if_true] at hh; exact quietR_op hro (noDefer_at hnd hm) hC h ha hh
    · rename_i hw; simp only [hw] at hh; exact ⟨ha w hC, h _ _ hC hh⟩
theorem quietR_any {md : Region.Mode} {Q : Act → Prop} {Q' : Exit → Act → World → Prop} (hro : F.round = some lp) (hnd : noDefer ops.toList = true) (hQ : ∀ a w, C w → Q a → Q' .normal a w) : ∀ (fuel : Nat) (listed : Array Bool) (a : Act) (w : World), C w →
    wpAnyQIn F n P md ops C Q fuel listed a → wpAnyIn F n P md ops Q' fuel listed a w
  | 0, _, _, _, hw, h => ⟨h.1, hQ _ _ hw h.2⟩
  | fuel + 1, _, _, _, hw, h => ⟨fun h0 => hQ _ _ hw (h.1 h0), fun i hi => quietR_at hro hnd hw (fun a' w' hw' => quietR_any hro hnd hQ fuel _ a' w' hw') (h.2 i hi)⟩
theorem quietR_region {id : Nat} {Q : Exit → Act → World → Prop} {a : Act} {w : World} {l : List Oper} (hro : F.round = some lp) (hnd : noDefer l = true) (hm : P.follows .mixedOrders = true) (hB : Region.lexB .any l.toArray = true)
    (h : wpQuietIn F n P l.toArray (fun w' => ∃ n, w' = w.drewN n) (fun a' => ∀ w', (∃ n, w' = w.drewN n) → Q .normal a' w') l a) : (Code.region id l.toArray true).wpIn F n P Q a w := by
  simp only [Region.lexB, Bool.and_eq_true] at hB
  refine wpIn_region_any hm (quietR_any (C := fun w' => ∃ n, w' = w.drewN n) (Q := fun a' => ∀ w', (∃ n, w' = w.drewN n) → Q .normal a' w') hro hnd (fun _ w' hw' h => h w' hw') _ _ _ _ ⟨1, rfl⟩ ?_)
  have := wpAnyQIn_lex (F := F) (n := n) (C := fun w' => ∃ n, w' = w.drewN n) (md := .any) hB.1 l 0 (Array.replicate l.toArray.size false) a (by simp) (by simpa using hB.2) h
  simpa using this
end

end Go.Proofs.YtbldpojkpmafpaaGreatDoor

/- Package bus: the function that taps() gives, where the row that it reads lies behind what the rounds write. -/
namespace Go.Proofs.YtbldpojkpmafpaaGreatDoor
open Go.RowKit Go.Shelf
attribute [local go_sem] Oper.semAt_some

def KeepTwo (n0 bx g : Nat) (W W' : World) : Prop := Below n0 W W' ∧ W'.heap[bx]? = W.heap[bx]? ∧ W'.heap[g]? = W.heap[g]?
theorem KeepTwo.refl (n0 bx g : Nat) (W : World) : KeepTwo n0 bx g W W := ⟨Below.refl _ _, rfl, rfl⟩
theorem KeepTwo.trans {n0 bx g : Nat} {A B C : World} (h : KeepTwo n0 bx g A B) (h' : KeepTwo n0 bx g B C) : KeepTwo n0 bx g A C := ⟨h.1.trans h'.1, h'.2.1.trans h.2.1, h'.2.2.trans h.2.2⟩
theorem KeepTwo.new {n0 bx g : Nat} {A B : World} (h : KeepTwo n0 bx g A B) (hn : n0 ≤ A.heap.size) (hb : bx < A.heap.size) (hg : g < A.heap.size) (o : Obj) : KeepTwo n0 bx g A (B.alloc o) :=
  ⟨h.1.alloc (Nat.le_trans hn h.1.size) _, (Below.heap_alloc B o bx (Nat.lt_of_lt_of_le hb h.1.size)).trans h.2.1, (Below.heap_alloc B o g (Nat.lt_of_lt_of_le hg h.1.size)).trans h.2.2⟩

set_option maxRecDepth 100000 in
set_option maxHeartbeats 4000000 in
theorem taps2_in (F : Fence) (n : Nat) (hf : F.fn 133) (hro : F.round = none) (hn : 1 ≤ n) (lp bx n0 g : Nat) (A : Option Addr) (c : Nat) (E : Value) (Fp : Nat → Int) (l : List NetAt) (N : Nat) (J Jx : List Nat → World → Prop) (W : World)
    (hNN : N = cntTo (l.map NetAt.cols) l.length) (hJ : AbidesFrom W.heap.size J)
    (hY : ∀ pre (x : Nat) W1, J pre W1 → pre.length < N → YieldAt F (n - 1) Tryz.prog lp #[.int .i64 (((tapFrom Fp 0 (l.map NetAt.cols)).getD x (0, 0)).1 : Int), .int .i64 ((tapFrom Fp 0 (l.map NetAt.cols)).getD x (0, 0)).2] W1 fun e W' =>
      (e = .returned (.bool true) ∧ J (pre ++ [x]) W' ∧ KeepTwo n0 bx g W1 W') ∨ (e = .returned (.bool false) ∧ Jx (pre ++ [x]) W'))
    (hbx : W.cell? ⟨bx, 0, none⟩ = some (.pointer (some ⟨g, 0, none⟩))) (hbn : bx < W.heap.size) (hrow : RowAt W g (.slice A l.length c) Fp E) (hN : NetsIn W n0 A l) (hc97 : ∀ x ∈ l, ∀ c ∈ x.cols, 0 ≤ c ∧ c < 97) (hl : l.length ≤ 1000) (hn0 : n0 ≤ W.heap.size) (h0 : J [] W) :
    CallsIn F n Tryz.prog 133 #[.func (.yield lp) #[] #[], .pointer (some ⟨bx, 0, none⟩)] W fun e W' => (∃ v, e = .returned v) ∧ ((∃ ys, ys = List.range N ∧ J ys W') ∨ (∃ pre, pre <+: List.range N ∧ Jx pre W')) := by
  have HW := Lib.hid (⟨hrow, hN⟩ : RowAt W g (.slice A l.length c) Fp E ∧ NetsIn W n0 A l)
  have HC := Lib.hid hc97
  have HYY := Lib.hid hY
  have HJJ := Lib.hid hJ
  have HNN := Lib.hid hNN
  have x0 := hrow.nets
  clear hY hN hc97 hJ hNN
  refine callsIn_of_wp Tryz.func133 rfl hf ?_ hro
  simp only [Tryz.ntmps133, List.size_toArray, List.length_cons, List.length_nil, Nat.reduceAdd, Nat.reduceSub, Array.replicate_succ, Array.replicate_zero, List.push_toArray, List.append_toArray, List.nil_append, List.cons_append]
  gi_wp2
  gi_loopw [12] (fun i wr => ∃ k : Nat, k ≤ l.length ∧ i = .int .i64 k ∧ J (List.range (cntTo (l.map NetAt.cols) k)) wr ∧ KeepTwo n0 bx g W wr) (fun i _ => l.length - (intOf i).toNat)
  case atStart => exact ⟨0, Nat.zero_le _, rfl, by rw [cntTo_zero]; exact h0, KeepTwo.refl _ _ _ _⟩
  case round =>
    obtain ⟨k, hk, rfl, hJs, eb⟩ := hrel
    have hsz := eb.1.size
    by_cases hlt : k < l.length
    · obtain ⟨b, off, x, rfl, hbB, hx, hc1, hc2, hrw, hfew, hix, hics⟩ := HW.out.2.net k hlt
      have hk1 := (eb.1.cell (p := ⟨b, off + k * 2, none⟩) (by show b < _; omega)).trans hc1
      have hk2 := (eb.1.cell (p := ⟨b, off + k * 2 + 1, none⟩) (by show b < _; omega)).trans hc2
      have HX := Lib.hid (show (l.map NetAt.cols).getD k [] = x.cols by rw [List.getD_eq_getElem?_getD, List.getElem?_map, hx]; rfl)
      have hin := HC.out x (List.mem_of_getElem? hx)
      clear hx hc1 hc2
      gi_wp2
      generalize hW1 : World.alloc wr _ = W1
      have hJ1 : J (List.range (cntTo (l.map NetAt.cols) k)) W1 := by rw [← hW1]; exact AbidesFrom.new HJJ.out _ hJs
      have eb1 : KeepTwo n0 bx g W W1 := by rw [← hW1]; exact eb.new hn0 hbn hrow.lt _
      have hsz1 := eb1.1.size
      have hrw1 := Lib.hid hrw
      clear hW1 hJs eb hk1 hk2 hrw
      generalize x.cols = cs at *
      generalize x.loc = loc at *
      generalize x.cap = cap at *
      gi_loopw [20] (fun i wz => ∃ j : Nat, j ≤ cs.length ∧ i = .int .i64 j ∧ J (List.range (cntTo (l.map NetAt.cols) k + j)) wz ∧ KeepTwo n0 bx g W wz) (fun i _ => cs.length - (intOf i).toNat)
      case atStart => exact ⟨0, Nat.zero_le _, rfl, hJ1, eb1⟩
      case round =>
        obtain ⟨j, hj, rfl, hJz, ez⟩ := hrel
        by_cases hlj : j < cs.length
        · obtain ⟨b2, off2, y, rfl, hbB2, hy, hcy⟩ := hrw1.out.int j hlj
          have hcyw := (ez.1.cell (p := ⟨b2, off2 + j, none⟩) (by show b2 < _; omega)).trans hcy
          obtain ⟨hy0, hy1⟩ := hin y (List.mem_of_getElem? hy)
          obtain ⟨Y, rfl⟩ : ∃ Y : Nat, y = (Y : Int) := ⟨y.toNat, by omega⟩
          have hY : Y < 97 := by omega
          have hY2 : (Y : Int) < 97 := by omega
          have hrowz := HW.out.1.block ez.2.2
          have m1 := hrowz.pos Y hY
          have hbz := (World.cell?_of_block (a := ⟨bx, 0, none⟩) ez.2.1).trans hbx
          have hcn : cntTo (l.map NetAt.cols) k + j < N := by
            rw [HNN.out]
            have h1 := cnt_mono (l.map NetAt.cols) l.length (by simp) (k + 1) hlt
            rw [cnt_next _ k (by rw [List.length_map]; exact hlt), HX.out] at h1
            omega
          obtain ⟨fn, tmps, assign, body, hy', hR⟩ := HYY.out _ (cntTo (l.map NetAt.cols) k + j) wr hJz (by rw [List.length_range]; exact hcn)
          have ht := tap_at Fp (l.map NetAt.cols) 0 k j (by rw [List.length_map]; exact hlt) (by rw [HX.out]; exact hlj)
          rw [HX.out, List.getD_eq_getElem?_getD (l := cs), hy, Option.getD_some, Int.toNat_natCast, Nat.zero_add] at ht
          rw [ht] at hy'
          dsimp only at hy'
          have e1 : List.range (cntTo (l.map NetAt.cols) k + j) ++ [cntTo (l.map NetAt.cols) k + j] = List.range (cntTo (l.map NetAt.cols) k + (j + 1)) := by rw [← Nat.add_assoc, List.range_succ]
          rw [e1] at hR
          generalize Fp Y = fy at *
          clear ht hy hcy hrowz HYY hY
          gi_wp2
          refine hR.mono ?_
          rintro e W3 (⟨rfl, hJ3, hk3⟩ | ⟨rfl, hJx3⟩)
          · gi_wp2
            go_roundw
            case rel => exact ⟨j + 1, by omega, by go_num, hJ3, ez.trans hk3⟩
            case measure => simp [intOf]; omega
          · gi_wp2
            refine bodyPost_ret (results_none rfl _ _ _) rfl ?_
            exact ⟨⟨_, rfl⟩, .inr ⟨_, range_prefix (by omega), hJx3⟩⟩
        · obtain rfl : j = cs.length := by omega
          gi_wp2
          go_roundw
          case rel => exact ⟨k + 1, by omega, by go_num, by rw [cnt_next _ k (by rw [List.length_map]; exact hlt), HX.out]; exact hJz, ez⟩
          case measure => simp [intOf]; omega
    · obtain rfl : k = l.length := by omega
      gi_wp2
      go_end0
      exact ⟨⟨_, rfl⟩, .inl ⟨_, by rw [HNN.out], hJs⟩⟩
theorem taps2_stops (F : Fence) (n : Nat) (hf : F.fn 133) (hro : F.round = none) (hn : 1 ≤ n) (bx n0 g : Nat) (A : Option Addr) (c : Nat) (E : Value) (Fp : Nat → Int) (l : List NetAt) (w : World)
    (hbx : w.cell? ⟨bx, 0, none⟩ = some (.pointer (some ⟨g, 0, none⟩))) (hbn : bx < w.heap.size) (hrow : RowAt w g (.slice A l.length c) Fp E) (hN : NetsIn w n0 A l) (hc97 : ∀ x ∈ l, ∀ c ∈ x.cols, 0 ≤ c ∧ c < 97) (hl : l.length ≤ 1000) (hn0 : n0 ≤ w.heap.size) :
    SeqStopsK F n Tryz.prog 133 #[.pointer (some ⟨bx, 0, none⟩)] (fun x : Nat => #[.int .i64 (((tapFrom Fp 0 (l.map NetAt.cols)).getD x (0, 0)).1 : Int), .int .i64 ((tapFrom Fp 0 (l.map NetAt.cols)).getD x (0, 0)).2]) (KeepTwo n0 bx g)
      (fun ys => ys = List.range (tapFrom Fp 0 (l.map NetAt.cols)).length) (fun pre => pre <+: List.range (tapFrom Fp 0 (l.map NetAt.cols)).length) (tapFrom Fp 0 (l.map NetAt.cols)).length w := fun lp J Jx W hW hJ _ hY h0 =>
  taps2_in F n hf hro hn lp bx n0 g A c E Fp l _ J Jx W (by rw [tap_len, List.length_map]) hJ hY ((hW.cell (p := ⟨bx, 0, none⟩) hbn).trans hbx) (Nat.lt_of_lt_of_le hbn hW.size) (hrow.below hW) (hN.below hW hn0) hc97 hl (Nat.le_trans hn0 hW.size) h0
end Go.Proofs.YtbldpojkpmafpaaGreatDoor

/- Package bus: a table of rows in memory, and worlds in which its rows alone have turned. -/
namespace Go.Proofs.YtbldpojkpmafpaaGreatDoor
open Go.RowKit Go.Shelf

structure SameBut (S m : Nat) (rb : Nat → Nat) (W0 W : World) : Prop where
  os : W.os = W0.os
  tape : W.tape = W0.tape
  output : W.output = W0.output
  size : W0.heap.size ≤ W.heap.size
  block : ∀ b, b < S → (∀ j, j < m → b ≠ rb j) → W.heap[b]? = W0.heap[b]?
theorem SameBut.refl (S m : Nat) (rb : Nat → Nat) (W : World) : SameBut S m rb W W := ⟨rfl, rfl, rfl, Nat.le_refl _, fun _ _ _ => rfl⟩
theorem SameBut.drewN {S m : Nat} {rb : Nat → Nat} {W0 W : World} (h : SameBut S m rb W0 W) (n : Nat) : SameBut S m rb W0 (W.drewN n) := ⟨h.os, h.tape, h.output, h.size, h.block⟩
theorem SameBut.put {S m : Nat} {rb : Nat → Nat} {W0 W : World} (h : SameBut S m rb W0 W) {i : Nat} (hi : i < m) (j : Nat) (v : Value) : SameBut S m rb W0 (W.setCell ⟨rb i, j, none⟩ v) := by
  have hb := (Below.refl 0 W).setCell (p := ⟨rb i, j, none⟩) (Nat.zero_le _) v
  exact ⟨hb.os.trans h.os, hb.tape.trans h.tape, hb.output.trans h.output, Nat.le_trans h.size hb.size, fun b hS hn => (Below.heap_setCell W ⟨rb i, j, none⟩ v b (hn i hi)).trans (h.block b hS hn)⟩
theorem SameBut.grown {S m : Nat} {rb : Nat → Nat} {W0 W W' : World} {row : Option Nat} (h : SameBut S m rb W0 W) (hS : S ≤ W0.heap.size) (hg : W.grownBy W' row) (hr : ∀ r, row = some r → S ≤ r) : SameBut S m rb W0 W' :=
  ⟨hg.os.trans h.os, hg.tape.trans h.tape, hg.output.trans h.output, Nat.le_trans h.size hg.size, fun b hb hn => (hg.block b (by have := h.size; omega) (fun e => by have := hr b e.symm; omega)).trans (h.block b hb hn)⟩
theorem SameBut.below {S m : Nat} {rb : Nat → Nat} {W0 W : World} (h : SameBut S m rb W0 W) {B : Nat} (hB : B ≤ S) (hrb : ∀ j, j < m → B ≤ rb j) : Below B W0 W :=
  ⟨h.os, h.tape, h.output, h.size, fun k hk => h.block k (by omega) fun j hj => by have := hrb j hj; omega⟩
theorem SameBut.two {S m : Nat} {rb : Nat → Nat} {W0 A B : World} (h : SameBut S m rb W0 A) (k : SameBut S m rb W0 B) (hs : A.heap.size ≤ B.heap.size) {n bx g : Nat} (hn : n ≤ S) (hrb : ∀ j, j < m → n ≤ rb j) (hx : bx < S) (hxr : ∀ j, j < m → bx ≠ rb j) (hg : g < S) (hgr : ∀ j, j < m → g ≠ rb j) : KeepTwo n bx g A B :=
  ⟨⟨k.os.trans h.os.symm, k.tape.trans h.tape.symm, k.output.trans h.output.symm, hs, fun b hb => (k.block b (by omega) fun j hj => by have := hrb j hj; omega).trans (h.block b (by omega) fun j hj => by have := hrb j hj; omega).symm⟩,
    (k.block bx hx hxr).trans (h.block bx hx hxr).symm, (k.block g hg hgr).trans (h.block g hg hgr).symm⟩
theorem Blk.same {S m : Nat} {rb : Nat → Nat} {W0 W : World} (h : SameBut S m rb W0 W) {b : Nat} {t : TypeId} {cs : Array Value} (hb : Blk W0 b t cs) (hS : b < S) (hn : ∀ j, j < m → b ≠ rb j) : Blk W b t cs := (h.block b hS hn).trans hb

theorem nodup_at {u : List Int} (h : u.Nodup) {i j : Nat} (hi : i < u.length) (hj : j < u.length) (e : u[i] = u[j]) : i = j := by
  rcases Nat.lt_trichotomy i j with g | g | g
  · exact absurd e (List.pairwise_iff_getElem.1 h i j hi hj g)
  · exact g
  · exact absurd e.symm (List.pairwise_iff_getElem.1 h j i hj hi g)
def TabIs (W : World) (us : List Int) (rb : Nat → Nat) (f : Int → Int → Int) : Prop :=
  ∀ j, j < us.length → Blk W (rb j) 3 (us.map fun b => Value.int .i64 (f (us.getD j 0) b)).toArray
theorem TabIs.drewN {W : World} {us : List Int} {rb : Nat → Nat} {f : Int → Int → Int} (h : TabIs W us rb f) (n : Nat) : TabIs (W.drewN n) us rb f := fun j hj => (h j hj).drewN n
theorem TabIs.grown {W W' : World} {us : List Int} {rb : Nat → Nat} {f : Int → Int → Int} {row : Option Nat} (h : TabIs W us rb f) (hg : W.grownBy W' row) (hr : ∀ r, row = some r → ∃ o : Obj, W.heap[r]? = some o ∧ o.isCells = false) : TabIs W' us rb f := fun j hj => (h j hj).grown hg hr
theorem TabIs.congr {W : World} {us : List Int} {rb : Nat → Nat} {f g : Int → Int → Int} (h : TabIs W us rb f) (e : ∀ a, a ∈ us → ∀ b, b ∈ us → f a b = g a b) : TabIs W us rb g := fun j hj => by
  have := h j hj
  have e2 : (us.map fun b => Value.int .i64 (f (us.getD j 0) b)) = us.map fun b => Value.int .i64 (g (us.getD j 0) b) := List.map_congr_left fun b hb => by
    rw [e _ (by simp only [List.getD_eq_getElem?_getD, List.getElem?_eq_getElem hj, Option.getD_some]; exact List.getElem_mem _) b hb]
  rw [e2] at this
  exact this
theorem TabIs.cell {W : World} {us : List Int} {rb : Nat → Nat} {f : Int → Int → Int} (h : TabIs W us rb f) {i j : Nat} (hi : i < us.length) (hj : j < us.length) : W.cell? ⟨rb i, j, none⟩ = some (.int .i64 (f (us.getD i 0) (us.getD j 0))) := by
  rw [(h i hi).cell j]
  simp [List.getD_eq_getElem?_getD, hi, hj]
theorem TabIs.inc {W : World} {us : List Int} {rb : Nat → Nat} {f : Int → Int → Int} (h : TabIs W us rb f) (hu : us.Nodup) (hinj : ∀ i j, i < us.length → j < us.length → rb i = rb j → i = j) {A B : Nat} (hA : A < us.length) (hB : B < us.length) :
    TabIs (W.setCell ⟨rb A, B, none⟩ (.int .i64 (f (us.getD A 0) (us.getD B 0) + 1))) us rb (fun a b => f a b + if a = us.getD A 0 ∧ b = us.getD B 0 then 1 else 0) := by
  have hne : ∀ i j, i < us.length → j < us.length → us.getD i 0 = us.getD j 0 → i = j := fun i j hi hj e => by
    simp only [List.getD_eq_getElem?_getD, List.getElem?_eq_getElem hi, List.getElem?_eq_getElem hj, Option.getD_some] at e
    exact nodup_at hu hi hj e
  intro j hj
  by_cases e : j = A
  · subst e
    have h1 := (h j hj).set B (.int .i64 (f (us.getD j 0) (us.getD B 0) + 1))
    have e2 : (us.map fun b => Value.int .i64 (f (us.getD j 0) b)).toArray.setIfInBounds B (.int .i64 (f (us.getD j 0) (us.getD B 0) + 1)) = (us.map fun b => Value.int .i64 (f (us.getD j 0) b + if us.getD j 0 = us.getD j 0 ∧ b = us.getD B 0 then 1 else 0)).toArray := by
      apply Array.ext'
      simp only [Array.toList_setIfInBounds]
      apply List.ext_getElem
      · simp
      · intro i h1 h2
        have hi : i < us.length := by simpa using h1
        simp only [List.getElem_set, List.getElem_map]
        have hg : us[i] = us.getD i 0 := by simp [List.getD_eq_getElem?_getD, hi]
        by_cases hib : B = i
        · subst hib; rw [if_pos rfl, hg, if_pos ⟨trivial, rfl⟩]
        · rw [if_neg hib, if_neg, Int.add_zero]
          rintro ⟨_, g⟩
          rw [hg] at g
          exact hib (hne i B hi hB g).symm
    rw [e2] at h1
    exact h1
  · have h1 := (h j hj).far (p := ⟨rb A, B, none⟩) (fun g => e (hinj j A hj hA g)) (.int .i64 (f (us.getD A 0) (us.getD B 0) + 1))
    have e2 : (us.map fun b => Value.int .i64 (f (us.getD j 0) b)) = us.map fun b => Value.int .i64 (f (us.getD j 0) b + if us.getD j 0 = us.getD A 0 ∧ b = us.getD B 0 then 1 else 0) := List.map_congr_left fun b hb => by
      rw [if_neg (fun g => e (hne j A hj hA g.1)), Int.add_zero]
    rw [e2] at h1
    exact h1
theorem idx_at {us : List Int} (hu : us.Nodup) {x : Int} (hx : x ∈ us) : ∃ A : Nat, A < us.length ∧ us.getD A 0 = x ∧ Lib.idxOf us x = (A : Int) := by
  obtain ⟨A, hA, e⟩ := List.mem_iff_getElem.1 hx
  have e2 : us.getD A 0 = x := by simp [List.getD_eq_getElem?_getD, hA, e]
  refine ⟨A, hA, e2, ?_⟩
  have := Lib.idxFrom_hit x us A 0 hA e2 fun j hj h => by
    have hjl : j < us.length := by omega
    have e3 : us[j] = us[A] := by rw [e, ← h]; simp [List.getD_eq_getElem?_getD, hjl]
    have := nodup_at hu hjl hA e3
    omega
  rw [Nat.zero_add] at this
  exact this
end Go.Proofs.YtbldpojkpmafpaaGreatDoor

/-
  DERIVED: THE SHELF's CONTRACTS AT THIS DUMP, IN PLAIN WORDS (tools/lay-plain.mjs out of 'TryzShelf.lean', which tools/lay-shelf.mjs wrote): THE SAME DECLARATIONS UNDER THE SAME NAMES: 'import', 'namespace', 'open', 'def', 'theorem' AND NOTHING ELSE: no command of the shelf's: FOR A HAND-IN. Each laying: the table of numbers ('.._ren') and one theorem, a field a fact of the dump's own or the kernel's comparison; each contract: ONE APPLICATION.
-/
namespace Go.Proofs
open Go.Shelf
def Tryz.lays189_ren : Go.Shelf.Ren := ⟨fun | 189 => 66 | 125 => 116 | 257 => 115 | 128 => 159 | 129 => 160 | 294 => 150 | 295 => 151 | 296 => 152 | 297 => 153 | 298 => 154 | 299 => 155 | 216 => 156 | 300 => 157 | 301 => 158 | 328 => 199 | 329 => 200 | 330 => 201 | 331 => 202 | 332 => 203 | 215 => 132 | 343 => 242 | n => n, fun | 28 => 24 | 3 => 3 | 46 => 173 | 0 => 0 | 51 => 223 | 53 => 225 | 4 => 4 | 183 => 216 | 182 => 215 | 131 => 220 | 5 => 5 | 9 => 9 | 218 => 253 | 222 => 257 | 228 => 292 | 229 => 147 | n => n, fun | n => n⟩
theorem Tryz.lays189 : Go.Proofs.Lays.n189 Tryz.prog Tryz.lays189_ren := {
  mixed := by kernel_rfl
  f125 := Tryz.func116.trans (congrArg some (by kernel_rfl))
  f128 := Tryz.func159.trans (congrArg some (by kernel_rfl))
  f129 := Tryz.func160.trans (congrArg some (by kernel_rfl))
  f189 := Tryz.func66.trans (congrArg some (by kernel_rfl))
  f215 := Tryz.func132.trans (congrArg some (by kernel_rfl))
  f216 := Tryz.func156.trans (congrArg some (by kernel_rfl))
  f257 := Tryz.func115.trans (congrArg some (by kernel_rfl))
  f294 := Tryz.func150.trans (congrArg some (by kernel_rfl))
  f295 := Tryz.func151.trans (congrArg some (by kernel_rfl))
  f296 := Tryz.func152.trans (congrArg some (by kernel_rfl))
  f297 := Tryz.func153.trans (congrArg some (by kernel_rfl))
  f298 := Tryz.func154.trans (congrArg some (by kernel_rfl))
  f299 := Tryz.func155.trans (congrArg some (by kernel_rfl))
  f300 := Tryz.func157.trans (congrArg some (by kernel_rfl))
  f301 := Tryz.func158.trans (congrArg some (by kernel_rfl))
  f328 := Tryz.func199.trans (congrArg some (by kernel_rfl))
  f329 := Tryz.func200.trans (congrArg some (by kernel_rfl))
  f330 := Tryz.func201.trans (congrArg some (by kernel_rfl))
  f331 := Tryz.func202.trans (congrArg some (by kernel_rfl))
  f332 := Tryz.func203.trans (congrArg some (by kernel_rfl))
  f343 := Tryz.func242.trans (congrArg some (by kernel_rfl))
  t0 := Tryz.underlying0
  a0 := Tryz.isAgg0
  z0 := Tryz.sizeOf0
  v0 := Tryz.zeroValue0
  t3 := Tryz.underlying3
  a3 := Tryz.isAgg3
  z3 := Tryz.sizeOf3
  v3 := Tryz.zeroValue3
  t4 := Tryz.underlying4
  a4 := Tryz.isAgg4
  z4 := Tryz.sizeOf4
  v4 := Tryz.zeroValue4
  t5 := Tryz.underlying5
  a5 := Tryz.isAgg5
  z5 := Tryz.sizeOf5
  v5 := Tryz.zeroValue5
  t9 := Tryz.underlying9
  a9 := Tryz.isAgg9
  z9 := Tryz.sizeOf9
  v9 := Tryz.zeroValue9
  t28 := Tryz.underlying24
  a28 := Tryz.isAgg24
  z28 := Tryz.sizeOf24
  v28 := Tryz.zeroValue24
  t46 := Tryz.underlying173
  a46 := Tryz.isAgg173
  z46 := Tryz.sizeOf173
  v46 := Tryz.zeroValue173
  t51 := Tryz.underlying223
  a51 := Tryz.isAgg223
  z51 := Tryz.sizeOf223
  v51 := Tryz.zeroValue223
  t53 := Tryz.underlying225
  a53 := Tryz.isAgg225
  z53 := Tryz.sizeOf225
  v53 := Tryz.zeroValue225
  t131 := Tryz.underlying220
  a131 := Tryz.isAgg220
  z131 := Tryz.sizeOf220
  v131 := Tryz.zeroValue220
  t182 := Tryz.underlying215
  a182 := Tryz.isAgg215
  z182 := Tryz.sizeOf215
  v182 := Tryz.zeroValue215
  t183 := Tryz.underlying216
  a183 := Tryz.isAgg216
  z183 := Tryz.sizeOf216
  v183 := Tryz.zeroValue216
  t218 := Tryz.underlying253
  a218 := Tryz.isAgg253
  z218 := Tryz.sizeOf253
  v218 := Tryz.zeroValue253
  t222 := Tryz.underlying257
  a222 := Tryz.isAgg257
  z222 := Tryz.sizeOf257
  v222 := Tryz.zeroValue257
  t228 := Tryz.underlying292
  a228 := Tryz.isAgg292
  z228 := Tryz.sizeOf292
  v228 := Tryz.zeroValue292
  t229 := Tryz.underlying147
  a229 := Tryz.isAgg147
  z229 := Tryz.sizeOf147
  v229 := Tryz.zeroValue147 }
open Go.Sort Go.RowKit in
theorem Tryz.slices_Sort_int (blk off cap : Nat) (zs : List Int) (w : World) (hH : Holds (Value.int .i64) w blk off zs.toArray) (hblk : blk < w.heap.size) (hsz : zs.length < 4611686018427387904) :
    Calls Tryz.prog 66 #[.slice (some ⟨blk, off, none⟩) zs.length cap] w fun e w' =>
      e = .returned (.tuple #[]) ∧ ∃ n os, w' = grow (putRow (Value.int .i64) (Sort.ahead w n) blk off (zs.mergeSort fun x y => decide (x ≤ y)).toArray) os := Any.slices_Sort_int Tryz.lays189 blk off cap zs w hH hblk hsz
def Tryz.lays108_ren : Go.Shelf.Ren := ⟨fun | 108 => 61 | n => n, fun | 28 => 24 | 3 => 3 | 0 => 0 | 4 => 4 | n => n, fun | n => n⟩
theorem Tryz.lays108 : Go.Proofs.Lays.n108 Tryz.prog Tryz.lays108_ren := {
  mixed := by kernel_rfl
  f108 := Tryz.func61.trans (congrArg some (by kernel_rfl))
  t0 := Tryz.underlying0
  a0 := Tryz.isAgg0
  z0 := Tryz.sizeOf0
  v0 := Tryz.zeroValue0
  t3 := Tryz.underlying3
  a3 := Tryz.isAgg3
  z3 := Tryz.sizeOf3
  v3 := Tryz.zeroValue3
  t4 := Tryz.underlying4
  a4 := Tryz.isAgg4
  z4 := Tryz.sizeOf4
  v4 := Tryz.zeroValue4
  t28 := Tryz.underlying24
  a28 := Tryz.isAgg24
  z28 := Tryz.sizeOf24
  v28 := Tryz.zeroValue24 }
open Go.Lib in
theorem Tryz.slices_Index_int (b off n c : Nat) (zs : List Int) (x : Int) (w : World) (hz : n ≤ zs.length) (hbig : n ≤ 9223372036854775807) (hc : ∀ j, j < zs.length → w.cell? ⟨b, off + j, none⟩ = some (.int .i64 (zs.getD j 0))) :
    Calls Tryz.prog 61 #[.slice (some ⟨b, off, none⟩) n c, .int .i64 x] w fun e w' => e = .returned (.int .i64 (Lib.idxOf (zs.take n) x)) ∧ w' = w := Any.slices_Index_int Tryz.lays108 b off n c zs x w hz hbig hc
open Go.Lib in
theorem Tryz.slices_Index_int_empty (a : Option Addr) (c : Nat) (x : Int) (w : World) :
    Calls Tryz.prog 61 #[.slice a 0 c, .int .i64 x] w fun e w' => e = .returned (.int .i64 (Lib.idxOf [] x)) ∧ w' = w := Any.slices_Index_int_empty Tryz.lays108 a c x w
def Tryz.laysNm215_ren : Go.Shelf.Ren := ⟨fun | 15 => 53 | n => n, fun | 22 => 24 | 3 => 3 | 4 => 4 | n => n, fun | n => n⟩
theorem Tryz.laysNm215 : Go.Proofs.Lays2.n15 Tryz.prog Tryz.laysNm215_ren := {
  mixed := by kernel_rfl
  f15 := Tryz.func53.trans (congrArg some (by kernel_rfl))
  t3 := Tryz.underlying3
  a3 := Tryz.isAgg3
  z3 := Tryz.sizeOf3
  v3 := Tryz.zeroValue3
  t4 := Tryz.underlying4
  a4 := Tryz.isAgg4
  z4 := Tryz.sizeOf4
  v4 := Tryz.zeroValue4
  t22 := Tryz.underlying24
  a22 := Tryz.isAgg24
  z22 := Tryz.sizeOf24
  v22 := Tryz.zeroValue24
  i3 := by kernel_rfl }
open Go.RowKit Go.Lib in
theorem Tryz.slices_Clone_int (b off n c : Nat) (zs : List Int) (w : World) (hz : n ≤ zs.length) (hbig : n * 8 ≤ 140737488355328) (hc : ∀ j, j < zs.length → w.cell? ⟨b, off + j, none⟩ = some (.int .i64 (zs.getD j 0))) :
    Calls Tryz.prog 53 #[.slice (some ⟨b, off, none⟩) n c] w fun e w' => ∃ v', e = .returned v' ∧ w'.ownsRow w.heap.size 3 1 v' n ((zs.take n).map (Value.int .i64)) ∧ v' ≠ .slice none 0 0 ∧ Below w.heap.size w w' := Any.slices_Clone_int Tryz.laysNm215 b off n c zs w hz hbig hc
open Go.RowKit Go.Lib in
theorem Tryz.slices_Clone_int_nil (n c : Nat) (w : World) :
    Calls Tryz.prog 53 #[.slice none n c] w fun e w' => e = .returned (.slice none 0 0) ∧ w' = w := Any.slices_Clone_int_nil Tryz.laysNm215 n c w
open Go.RowKit Go.Lib in
theorem Tryz.slices_Clone_int_zero (a : Addr) (c : Nat) (w : World) :
    Calls Tryz.prog 53 #[.slice (some a) 0 c] w fun e w' => ∃ v', e = .returned v' ∧ w'.ownsRow w.heap.size 3 1 v' 0 [] ∧ v' ≠ .slice none 0 0 ∧ Below w.heap.size w w' := Any.slices_Clone_int_zero Tryz.laysNm215 a c w
def Tryz.laysNm220_ren : Go.Shelf.Ren := ⟨fun | 20 => 67 | n => n, fun | 22 => 24 | 3 => 3 | 4 => 4 | 0 => 0 | n => n, fun | n => n⟩
theorem Tryz.laysNm220 : Go.Proofs.Lays2.n20 Tryz.prog Tryz.laysNm220_ren := {
  mixed := by kernel_rfl
  f20 := Tryz.func67.trans (congrArg some (by kernel_rfl))
  t0 := Tryz.underlying0
  a0 := Tryz.isAgg0
  z0 := Tryz.sizeOf0
  v0 := Tryz.zeroValue0
  t3 := Tryz.underlying3
  a3 := Tryz.isAgg3
  z3 := Tryz.sizeOf3
  v3 := Tryz.zeroValue3
  t4 := Tryz.underlying4
  a4 := Tryz.isAgg4
  z4 := Tryz.sizeOf4
  v4 := Tryz.zeroValue4
  t22 := Tryz.underlying24
  a22 := Tryz.isAgg24
  z22 := Tryz.sizeOf24
  v22 := Tryz.zeroValue24
  i3 := by kernel_rfl }
open Go.RowKit Go.Lib Go.Sort in
theorem Tryz.slices_Compact_int (blk off cap : Nat) (zs : List Int) (w : World) (hH : Holds (Value.int .i64) w blk off zs.toArray) (hsz : zs.length ≤ 9223372036854775807) (hcap : zs.length ≤ cap) :
    Calls Tryz.prog 67 #[.slice (some ⟨blk, off, none⟩) zs.length cap] w fun e w' => e = .returned (.slice (some ⟨blk, off, none⟩) (Lib.compact zs).length cap) ∧ ∃ q, w' = putRow (Value.int .i64) (Sort.ahead w q) blk off (Lib.compact zs ++ List.replicate (zs.length - (Lib.compact zs).length) 0).toArray := Any.slices_Compact_int Tryz.laysNm220 blk off cap zs w hH hsz hcap
open Go.RowKit Go.Lib Go.Sort in
theorem Tryz.slices_Compact_int_empty (a : Option Addr) (cap : Nat) (w : World) :
    Calls Tryz.prog 67 #[.slice a 0 cap] w fun e w' => e = .returned (.slice a 0 cap) ∧ w' = w := Any.slices_Compact_int_empty Tryz.laysNm220 a cap w
open Go.RowKit Go.Sort in
theorem Tryz.slices_Sort_int_none (p : Option Addr) (cap : Nat) (w : World) :
    Calls Tryz.prog 66 #[.slice p 0 cap] w fun e w' => e = .returned (.tuple #[]) ∧ w' = w := Any.slices_Sort_int_none Tryz.lays189 p cap w
end Go.Proofs

/- Go's library on rows of integers, at nil too: Clone, Sort, Compact, Index, Reverse. -/
namespace Go.Proofs.YtbldpojkpmafpaaGreatDoor
open Go.RowKit

abbrev ic (l : List Int) : List Value := l.map (Value.int .i64)
theorem ownI_some {w : World} {base n : Nat} {v : Value} {xs : List Int} (h : w.ownsRow base 3 1 v n (ic xs)) : xs.length = n ∧ ((v = .slice none 0 0 ∧ n = 0) ∨ ∃ g cap cur, v = .slice (some ⟨g, 0, none⟩) n cap ∧ base ≤ g ∧ w.heap[g]? = some (.cells cur 3 (0, 0)) ∧ n ≤ cap ∧ cap ≤ maxLen ∧ cur.size = cap ∧ cur.toList.take n = ic xs) := by
  obtain ⟨h1, h2⟩ := h
  simp only [Nat.mul_one, List.length_map] at h1 h2
  exact ⟨h1, h2⟩
theorem own_holds {w : World} {g n : Nat} {cur : Array Value} {xs : List Int} (hg : w.heap[g]? = some (.cells cur 3 (0, 0))) (ht : cur.toList.take n = ic xs) : Sort.Holds (Value.int .i64) w g 0 xs.toArray := fun j hj => by
  have hj : j < xs.length := by simpa using hj
  refine ⟨?_, ?_⟩
  · rw [Nat.zero_add, cell_of_row w g j cur _ _ hg]
    have h1 : (cur.toList.take n)[j]? = some (Value.int .i64 xs[j]) := by rw [ht]; simp [hj]
    rw [List.getElem?_take] at h1
    split at h1
    · simpa [hj] using h1
    · cases h1
  · simp [World.frozen?, hg]
theorem putRow_at {w : World} {g n : Nat} {cur : Array Value} {xs ys : List Int} (hg : w.heap[g]? = some (.cells cur 3 (0, 0))) (ht : cur.toList.take n = ic xs) (hl : ys.length = xs.length) (q : Nat) :
    (Sort.putRow (Value.int .i64) (Sort.ahead w q) g 0 ys.toArray).heap[g]? = some (.cells (Sort.putCells (Value.int .i64) 0 ys.toArray cur) 3 (0, 0)) ∧ (Sort.putCells (Value.int .i64) 0 ys.toArray cur).size = cur.size ∧ (Sort.putCells (Value.int .i64) 0 ys.toArray cur).toList.take ys.length = ic ys := by
  refine ⟨?_, by simp [Sort.putCells], ?_⟩
  · show (w.heap.modify g (Sort.onCells _))[g]? = _
    rw [Array.getElem?_modify, if_pos rfl, hg]; rfl
  · have hlen : ys.length ≤ cur.size := by
      have h1 := congrArg List.length ht
      simp at h1; omega
    apply List.ext_getElem?
    intro j
    rw [List.getElem?_take]
    by_cases hj : j < ys.length
    · rw [if_pos hj, Array.getElem?_toList]
      have hc : j < cur.size := by omega
      simp [Sort.putCells, hj, hc]
    · rw [if_neg hj, List.getElem?_eq_none (by simpa using hj)]
theorem putRow_grown {w : World} {g q : Nat} {d : Array Int} : w.grownBy (Sort.putRow (Value.int .i64) (Sort.ahead w q) g 0 d) (some g) :=
  ⟨rfl, rfl, rfl, Nat.le_of_eq (by simp), fun k _ hk => by
    show (w.heap.modify g (Sort.onCells _))[k]? = _
    rw [Array.getElem?_modify, if_neg (fun e => hk (by rw [e]))]⟩
theorem grown_refl (w : World) (r : Option Nat) : w.grownBy w r := ⟨rfl, rfl, rfl, Nat.le_refl _, fun _ _ _ => rfl⟩
theorem grown_grow {w w' : World} {r : Option Nat} (h : w.grownBy w' r) (os : Array Obj) : w.grownBy (Sort.grow w' os) r :=
  ⟨h.os, h.tape, h.output, Nat.le_trans h.size (by simp), fun k hk hn => (Sort.heap_grow_old w' os (Nat.lt_of_lt_of_le hk h.size)).trans (h.block k hk hn)⟩
theorem clone_any (A : Option Addr) (c B : Nat) (xs : List Int) (w : World) (h : Row w B A (ic xs)) (hl : xs.length ≤ 1000000) :
    Calls Tryz.prog 53 #[.slice A xs.length c] w fun e w' => ∃ v, e = .returned v ∧ w'.ownsRow w.heap.size 3 1 v xs.length (ic xs) ∧ Below w.heap.size w w' := by
  rcases h with h | ⟨b, off, rfl, _, hc⟩
  · obtain rfl : xs = [] := List.map_eq_nil_iff.1 h
    cases A with
    | none => exact (Tryz.slices_Clone_int_nil 0 c w).mono fun e w' ⟨h1, h2⟩ => by subst h2; exact ⟨_, h1, ⟨rfl, .inl ⟨rfl, rfl⟩⟩, Below.refl _ _⟩
    | some a => exact (Tryz.slices_Clone_int_zero a c w).mono fun e w' ⟨v, h1, h2, _, h3⟩ => ⟨v, h1, h2, h3⟩
  · refine (Tryz.slices_Clone_int b off xs.length c xs w (Nat.le_refl _) (by omega) fun j hj => ?_).mono fun e w' ⟨v, h1, h2, _, h3⟩ => ⟨v, h1, ?_, h3⟩
    · rw [hc j (by simpa using hj)]
      simp [List.getD_eq_getElem?_getD, hj]
    · rw [List.take_length] at h2; exact h2
theorem sort_any (base n : Nat) (v : Value) (xs : List Int) (w : World) (h : w.ownsRow base 3 1 v n (ic xs)) (hl : xs.length ≤ 1000000) :
    Calls Tryz.prog 66 #[v] w fun e w' => e = .returned (.tuple #[]) ∧ w'.ownsRow base 3 1 v n (ic (xs.mergeSort fun x y => decide (x ≤ y))) ∧ w.grownBy w' v.ownBlock := by
  obtain ⟨h0, h1⟩ := ownI_some h
  rcases h1 with ⟨rfl, rfl⟩ | ⟨g, cap, cur, rfl, hbg, hg, hn, hcap, hcs, ht⟩
  · obtain rfl : xs = [] := List.length_eq_zero_iff.1 h0
    exact (Tryz.slices_Sort_int_none none 0 w).mono fun e w' ⟨h1, h2⟩ => by subst h2; exact ⟨h1, by simpa using h, grown_refl _ _⟩
  · subst h0
    have hgl : g < w.heap.size := (Array.getElem?_eq_some_iff.1 hg).1
    refine (Tryz.slices_Sort_int g 0 cap xs w (own_holds hg ht) hgl (by omega)).mono fun e w' ⟨h1, q, os, h2⟩ => ?_
    subst h2
    have hl2 : (xs.mergeSort fun x y => decide (x ≤ y)).length = xs.length := List.length_mergeSort _
    obtain ⟨p1, p2, p3⟩ := putRow_at hg ht hl2 q
    refine ⟨h1, ⟨by simp [hl2], .inr ⟨g, cap, _, rfl, hbg, (Sort.heap_grow_old _ os (by simpa using hgl)).trans p1, hn, hcap, by rw [p2, hcs, Nat.mul_one], ?_⟩⟩, grown_grow putRow_grown os⟩
    rw [Nat.mul_one, ← hl2]; exact p3
theorem compact_any (base n : Nat) (v : Value) (xs : List Int) (w : World) (h : w.ownsRow base 3 1 v n (ic xs)) (hl : xs.length ≤ 1000000) :
    Calls Tryz.prog 67 #[v] w fun e w' => ∃ v', e = .returned v' ∧ w'.ownsRow base 3 1 v' (Lib.compact xs).length (ic (Lib.compact xs)) ∧ w.grownBy w' v.ownBlock := by
  obtain ⟨h0, h1⟩ := ownI_some h
  rcases h1 with ⟨rfl, rfl⟩ | ⟨g, cap, cur, rfl, hbg, hg, hn, hcap, hcs, ht⟩
  · obtain rfl : xs = [] := List.length_eq_zero_iff.1 h0
    exact (Tryz.slices_Compact_int_empty none 0 w).mono fun e w' ⟨h1, h2⟩ => by subst h2; exact ⟨_, h1, ⟨rfl, .inl ⟨rfl, rfl⟩⟩, grown_refl _ _⟩
  · subst h0
    have hcl : (Lib.compact xs).length ≤ xs.length := Lib.compact_length_le xs
    refine (Tryz.slices_Compact_int g 0 cap xs w (own_holds hg ht) (by omega) hn).mono fun e w' ⟨h1, q, h2⟩ => ?_
    subst h2
    obtain ⟨p1, p2, p3⟩ := putRow_at (ys := Lib.compact xs ++ List.replicate (xs.length - (Lib.compact xs).length) 0) hg ht (by simp; omega) q
    refine ⟨_, h1, ⟨by simp, .inr ⟨g, cap, _, rfl, hbg, p1, by omega, hcap, by rw [p2, hcs, Nat.mul_one], ?_⟩⟩, putRow_grown⟩
    have h3 := congrArg (List.take (Lib.compact xs).length) p3
    rw [List.take_take, Nat.min_eq_left (by simp)] at h3
    rw [Nat.mul_one, h3]
    simp [ic]
theorem index_any (A : Option Addr) (c B : Nat) (xs : List Int) (x : Int) (w : World) (h : Row w B A (ic xs)) (hl : xs.length ≤ 1000000) :
    Calls Tryz.prog 61 #[.slice A xs.length c, .int .i64 x] w fun e w' => e = .returned (.int .i64 (Lib.idxOf xs x)) ∧ w' = w := by
  rcases h with h | ⟨b, off, rfl, _, hc⟩
  · obtain rfl : xs = [] := List.map_eq_nil_iff.1 h
    exact Tryz.slices_Index_int_empty A c x w
  · have := Tryz.slices_Index_int b off xs.length c xs x w (Nat.le_refl _) (by omega) fun j hj => by
      rw [hc j (by simpa using hj)]
      simp [List.getD_eq_getElem?_getD, hj]
    rw [List.take_length] at this
    exact this
end Go.Proofs.YtbldpojkpmafpaaGreatDoor

/- A region that draws its order in a round, whose last operation writes: once, in the order of the text. -/
namespace Go.Proofs.YtbldpojkpmafpaaGreatDoor
open Go.RowKit Go.Shelf

def backB (md : Region.Mode) (ops : Array Oper) : Bool := (List.range ops.size).all fun j => match ops[j]? with | some o => o.after.all fun e => !Region.binds md e || decide (e.on < j) | none => true
section
variable {F : Fence} {n lp : Nat} {P : Program} {ops ops' : Array Oper} {C : World → Prop} {md : Region.Mode} {m : Nat} {o o' : Oper}
structure LastOf (md : Region.Mode) (ops ops' : Array Oper) (m : Nat) (o o' : Oper) : Prop where
  sz : ops.size = m + 1
  sz' : ops'.size = m + 1
  eq : ∀ i, i < m → ops'[i]? = ops[i]?
  at' : ops[m]? = some o
  at2 : ops'[m]? = some o'
  after : o'.after = o.after
  dst : o.dst = none
  dst' : o'.dst = none
  guard : o.guard = none
  sink : Region.sinkB md ops m = true
  chain : Region.chainB md ops m = true
  back : backB md ops = true
theorem LastOf.ready (h : LastOf md ops ops' m o o') (listed : Array Bool) : Region.ready md ops' listed = Region.ready md ops listed := by
  unfold Region.ready
  rw [h.sz, h.sz']
  refine List.filter_congr fun i hi => ?_
  have hi := List.mem_range.1 hi
  by_cases e : i = m
  · subst e
    rw [h.at', h.at2]
    simp only [Option.map_some, h.after]
  · rw [h.eq i (by omega)]
theorem LastOf.yields (h : LastOf md ops ops' m o o') (tmps : Array Value) : yielded ops' tmps = yielded ops tmps := by
  funext j
  unfold yielded
  rcases Nat.lt_trichotomy j m with g | g | g
  · rw [h.eq j g]
  · subst g
    rw [h.at', h.at2]
    simp only [Option.bind_some, h.dst, h.dst']
  · rw [Array.getElem?_eq_none (by rw [h.sz']; omega), Array.getElem?_eq_none (by rw [h.sz]; omega)]
theorem LastOf.goes (h : LastOf md ops ops' m o o') {listed : Array Bool} (inv : HeadInv md ops m listed) : Region.ready md ops listed ≠ [] := by
  have hex : ∃ j, j ≤ m ∧ listed.getD j true = false := ⟨m, Nat.le_refl _, inv.tail m (Nat.le_refl _) (by rw [h.sz]; omega)⟩
  have key : ∀ d j, j = d → j ≤ m → listed.getD j true = false → ∃ k, k ∈ Region.ready md ops listed := by
    intro d
    induction d using Nat.strongRecOn with
    | _ d ih =>
      rintro j rfl hj hun
      by_cases hall : ∀ i, i < j → listed.getD i true = true
      · have hjs : j < ops.size := by rw [h.sz]; omega
        refine ⟨j, mem_ready.2 ⟨hun, ops[j], Array.getElem?_eq_getElem hjs, fun e he hb => ?_⟩⟩
        have h1 := List.all_eq_true.1 h.back j (List.mem_range.2 hjs)
        rw [Array.getElem?_eq_getElem hjs] at h1
        have h2 := Array.all_eq_true_iff_forall_mem.1 h1 e he
        rw [hb] at h2
        have h3 : e.on < j := by simpa using h2
        have h4 := hall e.on h3
        have h5 : e.on < listed.size := by rw [inv.size]; omega
        simp [h5] at h4 ⊢; exact h4
      · obtain ⟨i, hi⟩ := Classical.not_forall.1 hall
        obtain ⟨hij, hi⟩ := Classical.not_imp.1 hi
        exact ih i hij i rfl (by omega) (by simpa using hi)
  obtain ⟨j, hj, hun⟩ := hex
  obtain ⟨k, hk⟩ := key j j rfl hj hun
  exact List.ne_nil_of_mem hk
theorem LastOf.done (h : LastOf md ops ops' m o o') {listed : Array Bool} (inv : HeadInv md ops m listed) (hm : m ∈ Region.ready md ops listed) : Region.ready md ops (listed.setIfInBounds m true) = [] := by
  refine List.eq_nil_iff_forall_not_mem.2 fun k hk => ?_
  obtain ⟨h1, ok, hok, _⟩ := mem_ready.1 hk
  have hkm : k < m + 1 := by have := (Array.getElem?_eq_some_iff.1 hok).1; rw [h.sz] at this; exact this
  by_cases e : k = m
  · subst e
    have hs : k < listed.size := by rw [inv.size, h.sz]; omega
    simp [hs] at h1
  · rw [getD_set_ne true (fun g => e g.symm)] at h1
    exact tail_waits h.sink h.chain (by rw [h.sz]; omega) inv (m - k) k rfl (by omega) h1 m (Nat.le_refl _) hm
theorem any_done {Q' : Exit → Act → World → Prop} {listed : Array Bool} (hr : Region.ready md ops listed = []) {a : Act} {w : World} (h : Q' .normal a w) : ∀ fuel, wpAnyIn F n P md ops Q' fuel listed a w
  | 0 => ⟨hr, h⟩
  | fuel + 1 => ⟨fun _ => h, fun i hi => by rw [hr] at hi; cases hi⟩
theorem quietT_any {Q : Act → Prop} {Q' : Exit → Act → World → Prop} (hro : F.round = some lp) (hnd : noDefer ops.toList = true) (h : LastOf md ops ops' m o o') (hQ : ∀ a w, C w → Q a → o.wpIn F n P a w (fun a' w' => Q' .normal a' w') Q') :
    ∀ (fuel : Nat) (listed : Array Bool) (a : Act) (w : World), HeadInv md ops m listed → C w → wpAnyQIn F n P md ops' C Q fuel listed a → wpAnyIn F n P md ops Q' fuel listed a w
  | 0, listed, a, w, inv, hw, hh => by
    have h1 := hh.1
    rw [h.ready] at h1
    exact absurd h1 (h.goes inv)
  | fuel + 1, listed, a, w, inv, hw, hh => by
    refine ⟨fun h0 => absurd h0 (h.goes inv), fun i hi => ?_⟩
    have h2 := hh.2 i (by rw [h.ready]; exact hi)
    have him : i < m + 1 := by
      obtain ⟨_, oi, hoi, _⟩ := mem_ready.1 hi
      have := (Array.getElem?_eq_some_iff.1 hoi).1; rw [h.sz] at this; exact this
    by_cases e : i = m
    · subst e
      have hQa : Q a := by
        unfold qOpIn at h2
        simp only [h.at2] at h2
        obtain ⟨_, h2⟩ := h2
        have fin : ∀ a' : Act, a' = a → wpAnyQIn F n P md ops' C Q fuel (listed.setIfInBounds i true) a' → Q a := fun a' ea hf => by
          subst ea
          cases fuel with
          | zero => exact hf.2
          | succ f => exact hf.1 (by rw [h.ready]; exact h.done inv hi)
        split at h2
        · obtain ⟨v, _, h3⟩ := h2
          exact fin _ (by rw [h.dst']; rfl) h3
        · exact fin _ (by rw [h.dst']; rfl) h2
      unfold wpOpIn
      simp only [h.at']
      have hwant : Region.wanted o (yielded ops a.tmps) = true := by unfold Region.wanted; rw [h.guard]
      rw [hwant]
      exact Oper.wpIn_mono (fun a' w' g => any_done (h.done inv hi) g fuel) (hQ a w hw hQa)
    · have h3 : qOpIn F n P ops C i (wpAnyQIn F n P md ops' C Q fuel (listed.setIfInBounds i true)) a := by
        unfold qOpIn at h2 ⊢
        rw [h.eq i (by omega), h.yields] at h2
        exact h2
      exact quietR_at hro hnd hw (fun a' w' hw' hk => quietT_any hro hnd h hQ fuel _ a' w' (inv.set hi (by omega)) hw' hk) h3
theorem head_start (md : Region.Mode) (ops : Array Oper) (m : Nat) : HeadInv md ops m (Array.replicate ops.size false) :=
  ⟨by simp, fun j oj _ hl => (by rw [getD_replicate_false] at hl; cases hl), fun t _ ht => (by simp [ht])⟩
theorem quietT_region {id : Nat} {Q : Exit → Act → World → Prop} {a : Act} {w : World} {l l' : List Oper} (hro : F.round = some lp) (hnd : noDefer l = true) (hm : P.follows .mixedOrders = true) (hB : Region.lexB .any l'.toArray = true) (hl : LastOf .any l.toArray l'.toArray m o o')
    (h : wpQuietIn F n P l'.toArray (fun w' => ∃ n, w' = w.drewN n) (fun a' => ∀ w', (∃ n, w' = w.drewN n) → o.wpIn F n P a' w' (fun a'' w'' => Q .normal a'' w'') Q) l' a) : (Code.region id l.toArray true).wpIn F n P Q a w := by
  simp only [Region.lexB, Bool.and_eq_true] at hB
  refine wpIn_region_any hm (quietT_any (C := fun w' => ∃ n, w' = w.drewN n) (Q := fun a' => ∀ w', (∃ n, w' = w.drewN n) → o.wpIn F n P a' w' (fun a'' w'' => Q .normal a'' w'') Q) hro hnd hl (fun _ w' hw' h => h w' hw') _ _ _ _ (head_start _ _ _) ⟨1, rfl⟩ ?_)
  have := wpAnyQIn_lex (F := F) (n := n) (C := fun w' => ∃ n, w' = w.drewN n) (md := .any) hB.1 l' 0 (Array.replicate l'.toArray.size false) a (by simp) (by simpa using hB.2) h
  have hs : l.toArray.size = l'.length := by have := hl.sz; have h2 := hl.sz'; simp at this h2 ⊢; omega
  rw [hs]
  simpa using this
def noop (o : Oper) : Oper := { o with op := .move (.const undef) }
theorem quietT_lit {id : Nat} {Q : Exit → Act → World → Prop} {a : Act} {w : World} {l : List Oper} (ho : l[m]? = some o) (hsz : l.length = m + 1) (hd : o.dst = none) (hg : o.guard = none) (hro : F.round = some lp) (hnd : noDefer l = true) (hm : P.follows .mixedOrders = true)
    (hB : Region.lexB .any (l.take m ++ [noop o]).toArray = true) (hs : Region.sinkB .any l.toArray m = true) (hc : Region.chainB .any l.toArray m = true) (hb : backB .any l.toArray = true)
    (h : wpQuietIn F n P (l.take m ++ [noop o]).toArray (fun w' => ∃ n, w' = w.drewN n) (fun a' => ∀ w', (∃ n, w' = w.drewN n) → o.wpIn F n P a' w' (fun a'' w'' => Q .normal a'' w'') Q) (l.take m ++ [noop o]) a) : (Code.region id l.toArray true).wpIn F n P Q a w := by
  have hlt : (l.take m).length = m := by rw [List.length_take, hsz]; omega
  refine quietT_region (m := m) (o := o) (o' := noop o) hro hnd hm hB ⟨by simp [hsz], by simp [hlt], fun i hi => ?_, by simpa using ho, ?_, rfl, hd, hd, hg, hs, hc, hb⟩ h
  · rw [List.getElem?_toArray, List.getElem?_toArray, List.getElem?_append_left (by rw [hlt]; exact hi), List.getElem?_take, if_pos hi]
  · rw [List.getElem?_toArray, List.getElem?_append_right (by rw [hlt]; exact Nat.le_refl _), hlt, Nat.sub_self]; rfl
end
end Go.Proofs.YtbldpojkpmafpaaGreatDoor

/- Rows of the walk's own: facts. -/
namespace Go.Proofs.YtbldpojkpmafpaaGreatDoor
open Go.RowKit
theorem own_apart {w : World} {base size n c : Nat} {e : TypeId} {U : Option Addr} {vs : List Value} (h : w.ownsRow base e size (.slice U n c) n vs) {b : Nat} (hb : b < base ∨ w.heap.size ≤ b) : some b ≠ (Value.slice U n c).ownBlock := by
  rcases h.2 with ⟨hv, _⟩ | ⟨g, cap, cur, hv, hbg, hg, _⟩
  · cases hv; intro h; cases h
  · cases hv
    have hgl : g < w.heap.size := (Array.getElem?_eq_some_iff.1 hg).1
    intro h
    have h : some b = some g := h
    injection h with h
    omega
theorem own_keep {w w' : World} {base size n : Nat} {e : TypeId} {v : Value} {vs : List Value} (h : w.ownsRow base e size v n vs) (hk : ∀ b, some b = v.ownBlock → w'.heap[b]? = w.heap[b]?) : w'.ownsRow base e size v n vs := by
  refine ⟨h.1, ?_⟩
  rcases h.2 with hn | ⟨g, cap, cur, rfl, hbg, hg, rest⟩
  · exact .inl hn
  · exact .inr ⟨g, cap, cur, rfl, hbg, (hk g rfl).trans hg, rest⟩
theorem own_base {w : World} {base base' size n : Nat} {e : TypeId} {v : Value} {vs : List Value} (h : w.ownsRow base e size v n vs) (hb : base' ≤ base) : w.ownsRow base' e size v n vs := by
  refine ⟨h.1, ?_⟩
  rcases h.2 with hn | ⟨g, cap, cur, rfl, hbg, hg, rest⟩
  · exact .inl hn
  · exact .inr ⟨g, cap, cur, rfl, by omega, hg, rest⟩
theorem own_alloc {w : World} {base size n : Nat} {e : TypeId} {v : Value} {vs : List Value} (h : w.ownsRow base e size v n vs) (o : Obj) : (w.alloc o).ownsRow base e size v n vs := by
  refine ⟨h.1, ?_⟩
  rcases h.2 with hn | ⟨g, cap, cur, rfl, hbg, hg, rest⟩
  · exact .inl hn
  · exact .inr ⟨g, cap, cur, rfl, hbg, (Below.heap_alloc w o g (Array.getElem?_eq_some_iff.1 hg).1).trans hg, rest⟩
theorem own_low {W : World} {base size n c : Nat} {e : TypeId} {A : Option Addr} {vs : List Value} (h : W.ownsRow base e size (.slice A n c) n vs) {b : Nat} (hb : some b = (Value.slice A n c).ownBlock) : base ≤ b ∧ b < W.heap.size := by
  constructor
  · rcases Nat.lt_or_ge b base with g | g
    · exact absurd hb (own_apart h (.inl g))
    · exact g
  · rcases Nat.lt_or_ge b W.heap.size with g | g
    · exact g
    · exact absurd hb (own_apart h (.inr g))
end Go.Proofs.YtbldpojkpmafpaaGreatDoor
