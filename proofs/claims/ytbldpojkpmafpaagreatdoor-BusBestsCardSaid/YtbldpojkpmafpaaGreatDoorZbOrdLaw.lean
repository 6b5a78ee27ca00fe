/- Package bus: the crossings of a row with tracks; they may stop beyond a number. -/
import Derived.Test.YtbldpojkpmafpaaGreatDoorZbBusTap1
import Derived.RangeFuncFrom
import Derived.Sort.QuietTacIn
import Derived.Lib.Slices
import Derived.Shelf.Small.Utf8
import Derived.Shelf.Small.Bits
import Derived.Shelf.Small.Strs
import Derived.Shelf.Small.Wraps
import Derived.Shelf.Strconv.Atoi
import Derived.Shelf.Strconv.Itoa0
import Derived.Shelf.Strconv.Itoa1
import Derived.Shelf.LaysM
import Derived.Shelf.Strconv.Itoa2
import Derived.Shelf.Strconv.Itoa3
import Derived.Shelf.Strconv.AtoiErrFast
import Derived.Shelf.Strconv.ParseIntEmpty
import Derived.Shelf.Strconv.AtoiFail
import Derived.Shelf.Strconv.Clone
import Derived.Shelf.Strconv.SyntaxError
import Derived.Shelf.LaysC
import Derived.Shelf.Strconv.ToError
import Derived.Shelf.Strconv.AtoiErr
import Derived.Shelf.Strconv.ErrVar
import Derived.Shelf.Strconv.Lower
import Derived.Shelf.Strconv.ParseUint10
import Derived.Shelf.Strconv.ParseUint10Empty
import Derived.Shelf.Strconv.ParseUint10Any
import Derived.Shelf.Strconv.ParseInt10
import Derived.Shelf.Strconv.AtoiLong
import Derived.Shelf.Strconv.AtoiInnerAll
import Derived.Shelf.Strconv.RangeError
import Derived.Shelf.Strconv.ToErrorRange
import Derived.Shelf.Strconv.AtoiAll
import Derived.Shelf.Strconv.ErrVarAll
import Derived.Shelf.Strconv.ParseUintEmpty
import Derived.Shelf.Strconv.ParseUint10b64
import Derived.Shelf.Strconv.ParseUint10b32
import Derived.Shelf.Strconv.ParseUint10b16
import Derived.Shelf.Strconv.ParseUint10b8
import Derived.Shelf.Strconv.ParseUint10At
import Derived.Shelf.Strings.Search1
import Derived.Shelf.Strings.Search2
import Derived.Shelf.Strings.Search3
import Derived.Shelf.Strings.Cut
import Derived.Shelf.Strings.Count
import Derived.Shelf.Strings.Shaped
import Derived.Shelf.Sort.Plain
import Derived.Shelf.Strings.Prefix
import Derived.Shelf.Strings.Runes
import Derived.Shelf.Strings.AsciiSet
import Derived.Shelf.Bits.Mul64
import Derived.Shelf.Unicode.DecodeSlow
import Derived.Shelf.Unicode.DecodeAny
import Derived.Shelf.Slices.Turned
import Derived.Shelf.Slices.Reverse
import Derived.Ground.Names2Prog
import Derived.Shelf.Slices.Clone
import Derived.Shelf.Slices.CompactI
import Derived.Shelf.Slices.SearchI
import Derived.Shelf.Slices.Cells
import Derived.Shelf.Slices.In.SortNone
import Derived.Ground.SlgnProg
import Derived.Shelf.SlicesE.Clone
import Derived.Test.YtbldpojkpmafpaaGreatDoorProg
import Derived.Lib.RowBridge
import Derived.StillTail
namespace Go.Proofs.YtbldpojkpmafpaaGreatDoor
open Go.RowKit Go.Shelf
attribute [local go_sem] Oper.semAt_some

def tapF (xs : List (Int × Int)) (ts : List Int) (taps : List (Nat × Int)) (x : Nat) : Int := crossUp xs ts (taps.getD x (0, 0)).1 (taps.getD x (0, 0)).2 xs.length
def crossRun (f : Nat → Int) (most : Int) : Int → List Nat → Int × Bool
  | s, [] => (s, false)
  | s, x :: r => if most < s + f x then (s + f x, true) else crossRun f most (s + f x) r
theorem run_snoc (f : Nat → Int) (most : Int) (x : Nat) : ∀ (pre : List Nat) (s0 s : Int), crossRun f most s0 pre = (s, false) → crossRun f most s0 (pre ++ [x]) = if most < s + f x then (s + f x, true) else (s + f x, false)
  | [], s0, s, h => by
    have : s0 = s := by simpa [crossRun] using h
    subst this
    simp [crossRun]
  | y :: r, s0, s, h => by
    unfold crossRun at h
    show crossRun f most s0 (y :: (r ++ [x])) = _
    unfold crossRun
    split at h
    · simp at h
    · rename_i hh
      rw [if_neg hh]
      exact run_snoc f most x r _ s h
theorem run_stop (f : Nat → Int) (most : Int) (t : List Nat) : ∀ (pre : List Nat) (s0 s : Int), crossRun f most s0 pre = (s, true) → crossRun f most s0 (pre ++ t) = (s, true)
  | [], s0, s, h => by simp [crossRun] at h
  | y :: r, s0, s, h => by
    unfold crossRun at h
    show crossRun f most s0 (y :: (r ++ t)) = _
    unfold crossRun
    split at h
    · rename_i hh
      rw [if_pos hh]; exact h
    · rename_i hh
      rw [if_neg hh]
      exact run_stop f most t r _ s h
theorem run_bd (f : Nat → Int) (most : Int) (L : Nat) (hf : ∀ x, 0 ≤ f x ∧ f x ≤ L) : ∀ (pre : List Nat) (s0 s : Int) (q : Bool), crossRun f most s0 pre = (s, q) → s0 ≤ s ∧ s ≤ s0 + (pre.length * L : Nat)
  | [], s0, s, q, h => by
    have : s0 = s := by simpa [crossRun] using (Prod.mk.inj h).1
    subst this; simp
  | y :: r, s0, s, q, h => by
    unfold crossRun at h
    have h1 := hf y
    have e : ((y :: r).length * L : Nat) = r.length * L + L := by rw [List.length_cons, Nat.add_mul, Nat.one_mul]
    rw [e]
    split at h
    · have := (Prod.mk.inj h).1
      omega
    · have := run_bd f most L hf r _ s q h
      omega

theorem tap_fst (Fp : Nat → Int) : ∀ (ls : List (List Int)) (i : Nat) (t : Nat × Int), t ∈ tapFrom Fp i ls → t.1 < i + ls.length
  | [], _, t, h => by cases h
  | c :: r, i, t, h => by
    unfold tapFrom at h
    rcases List.mem_append.1 h with h | h
    · obtain ⟨y, _, rfl⟩ := List.mem_map.1 h
      simp
    · have := tap_fst Fp r (i + 1) t h
      simp; omega
theorem tap_ok (Fp : Nat → Int) (ls : List (List Int)) (x : Nat) (h : 0 < (tapFrom Fp 0 ls).length) : ((tapFrom Fp 0 ls).getD x (0, 0)).1 < ls.length := by
  rw [List.getD_eq_getElem?_getD]
  by_cases hx : x < (tapFrom Fp 0 ls).length
  · rw [List.getElem?_eq_getElem hx]
    have := tap_fst Fp ls 0 _ (List.getElem_mem hx)
    simpa using this
  · rw [List.getElem?_eq_none (by omega)]
    cases ls with
    | nil => simp [tapFrom] at h
    | cons _ _ => simp
theorem Blk.grown {W W' : World} {row : Option Nat} {b : Nat} {t : TypeId} {cs : Array Value} (h : Blk W b t cs) (hg : W.grownBy W' row) (hr : ∀ r, row = some r → ∃ o : Obj, W.heap[r]? = some o ∧ o.isCells = false) : Blk W' b t cs := by
  refine (hg.block b h.lt fun e => ?_).trans h
  obtain ⟨o, h1, h2⟩ := hr b e.symm
  rw [show W.heap[b]? = some (.cells cs t (0, 0)) from h] at h1
  cases h1
  cases h2
theorem KeepAt.set {n0 bx : Nat} {A B : World} (h : KeepAt n0 bx A B) {b : Nat} (hb : n0 ≤ b) (hx : bx ≠ b) (i : Nat) (v : Value) : KeepAt n0 bx A (B.setCell ⟨b, i, none⟩ v) :=
  ⟨h.1.setCell (p := ⟨b, i, none⟩) hb _, (Below.heap_setCell B ⟨b, i, none⟩ v bx hx).trans h.2⟩

theorem below_drewN {B : Nat} {w w' : World} (h : Below B w w') (n : Nat) : Below B w (w'.drewN n) := ⟨h.os, h.tape, h.output, h.size, h.block⟩
theorem KeepAt.drewN {n0 bx : Nat} {A B : World} (h : KeepAt n0 bx A B) (n : Nat) : KeepAt n0 bx A (B.drewN n) := ⟨below_drewN h.1 n, h.2⟩
theorem others_drewN (W : World) (n : Nat) : KeepsOthers W (W.drewN n) := ⟨Nat.le_refl _, fun _ _ h _ => h⟩
def noDefer (l : List Oper) : Bool := l.all fun o => match o.op with | .defer _ => false | _ => true
theorem noDefer_at {l : List Oper} (h : noDefer l = true) {o : Oper} (ho : o ∈ l) (c : Call) : o.op ≠ .defer c := by
  intro e
  have := List.all_eq_true.1 h o ho
  simp only [e] at this
  cases this
section
variable {F : Fence} {n lp : Nat} {P : Program} {ops : Array Oper} {C : World → Prop}
theorem quietR_op {o : Oper} {a : Act} {K : Act → Prop} {K' : Act → World → Prop} {Q' : Exit → Act → World → Prop} {w : World} (hro : F.round = some lp) (hnd : ∀ c, o.op ≠ .defer c) (hw : C w) (h : ∀ a w', C w' → K a → K' a w')
    (ha : o.askedIn F P a C) (hh : o.quietIn F n P a C K) : o.wpIn F n P a w K' Q' := by
  obtain ⟨v, h1, h2⟩ := hh
  have h3 := h1 w hw
  unfold Oper.quietAtIn at h3
  unfold Oper.wpIn
  refine ⟨ha w hw, ?_⟩
  rw [hro, Oper.semAt_some _ _ _ hnd]
  generalize (execOp a.eval o).run P w = r at *
  cases r with
  | ok x w' =>
    cases x <;> simp only [Oper.quietUponIn] at h3 <;> simp only [Oper.uponIn]
    case value u =>
      obtain ⟨e1, e2⟩ := h3
      rw [e1, e2]
      exact h _ _ hw h2
    case skip =>
      obtain ⟨e1, e2⟩ := h3
      rw [e1, ← e2]
      exact h _ _ hw h2
    case enter f args =>
      obtain ⟨e1, hd, hc⟩ := h3
      rw [e1]
      exact ⟨hd, hc.mono fun e w'' ⟨he, hw''⟩ => by subst he; exact h _ _ hw'' h2⟩
  | halt x w' => simp only [Oper.quietUponIn] at h3
theorem quietR_at {i : Nat} {a : Act} {K : Act → Prop} {K' : Act → World → Prop} {Q' : Exit → Act → World → Prop} {w : World} (hro : F.round = some lp) (hnd : noDefer ops.toList = true) (hC : C w) (h : ∀ a w', C w' → K a → K' a w')
    (hh : qOpIn F n P ops C i K a) : wpOpIn F n P ops Q' i K' a w := by
  unfold qOpIn at hh
  unfold wpOpIn
  split
  · rename_i ho; simp only [ho] at hh; exact h _ _ hC hh
  · rename_i o ho
    simp only [ho] at hh
    obtain ⟨ha, hh⟩ := hh
    have hm : o ∈ ops.toList := by
      rw [← Array.mem_def]
      exact Array.mem_of_getElem? ho
    split
    · rename_i hw; simp only [hw, if_true] at hh; exact quietR_op hro (noDefer_at hnd hm) hC h ha hh
    · rename_i hw; simp only [hw] at hh; exact ⟨ha w hC, h _ _ hC hh⟩
theorem quietR_any {md : Region.Mode} {Q : Act → Prop} {Q' : Exit → Act → World → Prop} (hro : F.round = some lp) (hnd : noDefer ops.toList = true) (hQ : ∀ a w, C w → Q a → Q' .normal a w) : ∀ (fuel : Nat) (listed : Array Bool) (a : Act) (w : World), C w →
    wpAnyQIn F n P md ops C Q fuel listed a → wpAnyIn F n P md ops Q' fuel listed a w
  | 0, _, _, _, hw, h => ⟨h.1, hQ _ _ hw h.2⟩
  | fuel + 1, _, _, _, hw, h => ⟨fun h0 => hQ _ _ hw (h.1 h0), fun i hi => quietR_at hro hnd hw (fun a' w' hw' => quietR_any hro hnd hQ fuel _ a' w' hw') (h.2 i hi)⟩
theorem quietR_region {id : Nat} {Q : Exit → Act → World → Prop} {a : Act} {w : World} {l : List Oper} (hro : F.round = some lp) (hnd : noDefer l = true) (hm : P.follows .mixedOrders = true) (hB : Region.lexB .any l.toArray = true)
    (h : wpQuietIn F n P l.toArray (fun w' => ∃ n, w' = w.drewN n) (fun a' => ∀ w', (∃ n, w' = w.drewN n) → Q .normal a' w') l a) : (Code.region id l.toArray true).wpIn F n P Q a w := by
  simp only [Region.lexB, Bool.and_eq_true] at hB
  refine wpIn_region_any hm (quietR_any (C := fun w' => ∃ n, w' = w.drewN n) (Q := fun a' => ∀ w', (∃ n, w' = w.drewN n) → Q .normal a' w') hro hnd (fun _ w' hw' h => h w' hw') _ _ _ _ ⟨1, rfl⟩ ?_)
  have := wpAnyQIn_lex (F := F) (n := n) (C := fun w' => ∃ n, w' = w.drewN n) (md := .any) hB.1 l 0 (Array.replicate l.toArray.size false) a (by simp) (by simpa using hB.2) h
  simpa using this
end

set_option maxRecDepth 100000 in
set_option maxHeartbeats 8000000 in
theorem crossings_any (g : Nat) (A Ax A3 : Option Addr) (c cx c3 : Nat) (xs : List (Int × Int)) (ts : List Int) (Fp : Nat → Int) (l : List NetAt) (most : Int) (w : World) (h : RowAt w g (.slice A l.length c) Fp (.slice Ax xs.length cx)) (hr : Row w w.heap.size Ax (xcells xs)) (hN : NetsIn w w.heap.size A l)
    (hts : Row w w.heap.size A3 (ts.map (Value.int .i64))) (hxl : xs.length = l.length) (htl : ts.length = l.length) (hl : l.length ≤ 1000) (hc97 : ∀ x ∈ l, ∀ c ∈ x.cols, 0 ≤ c ∧ c < 97) (hT : (tapFrom Fp 0 (l.map NetAt.cols)).length ≤ 1000000) :
    Calls Tryz.prog 44 #[.pointer (some ⟨g, 0, none⟩), .slice A3 ts.length c3, .int .i64 most] w fun e w' =>
      e = .returned (.int .i64 (crossRun (tapF xs ts (tapFrom Fp 0 (l.map NetAt.cols))) most 0 (List.range (tapFrom Fp 0 (l.map NetAt.cols)).length)).1) ∧ Below w.heap.size w w' := by
  have HW := Lib.hid (⟨h, hr, hN, hts⟩ : RowAt w g (.slice A l.length c) Fp (.slice Ax xs.length cx) ∧ Row w w.heap.size Ax (xcells xs) ∧ NetsIn w w.heap.size A l ∧ Row w w.heap.size A3 (ts.map (Value.int .i64)))
  have hg := h.lt
  have HC := Lib.hid hc97
  obtain ⟨taps, htaps⟩ : ∃ taps, tapFrom Fp 0 (l.map NetAt.cols) = taps := ⟨_, rfl⟩
  rw [htaps] at hT ⊢
  have hok : ∀ x, 0 < taps.length → (taps.getD x (0, 0)).1 < l.length := fun x hx => by
    have := tap_ok Fp (l.map NetAt.cols) x (by rw [htaps]; exact hx)
    rw [htaps] at this
    simpa using this
  have hfb : ∀ x, 0 ≤ tapF xs ts taps x ∧ tapF xs ts taps x ≤ (l.length : Nat) := fun x => by
    have := crossUp_lo xs ts (taps.getD x (0, 0)).1 (taps.getD x (0, 0)).2 xs.length
    unfold tapF; omega
  obtain ⟨r, hr0⟩ : ∃ r, (crossRun (tapF xs ts taps) most 0 (List.range taps.length)).1 = r := ⟨_, rfl⟩
  rw [hr0]
  have HT := Lib.hid (⟨htaps, hr0, hok, hfb⟩ : tapFrom Fp 0 (l.map NetAt.cols) = taps ∧ (crossRun (tapF xs ts taps) most 0 (List.range taps.length)).1 = r ∧ (∀ x, 0 < taps.length → (taps.getD x (0, 0)).1 < l.length) ∧ ∀ x, 0 ≤ tapF xs ts taps x ∧ tapF xs ts taps x ≤ (l.length : Nat))
  clear htaps hr0 hok hfb
  clear h hr hN hts hc97
  have hmix : Tryz.prog.follows .mixedOrders = true := by kernel_rfl
  refine (callsIn_wide (n := 9)).1 ?_
  refine callsIn_of_wp_marks Tryz.func44 rfl trivial ?_ rfl
  simp only [Tryz.ntmps44, List.size_toArray, List.length_cons, List.length_nil, Nat.reduceAdd, Nat.reduceSub, Array.replicate_succ, Array.replicate_zero, List.push_toArray, List.append_toArray, List.nil_append, List.cons_append]
  gi_wp2_with (refine ⟨trivial, ?_⟩; gi_at_call 93; refine (callsIn_wide.2 (taps_any g _)).mono ?_; rintro e w5 ⟨bx, rfl, hb1, hb2, hb3, hb5⟩)
  obtain ⟨W4, hW4⟩ : ∃ W4, ((((w.alloc (.cells #[.pointer (some ⟨g, 0, none⟩)] 73)).alloc (.cells #[.slice A3 l.length c3] 24)).alloc (.cells #[.int .i64 most] 3)).alloc (.cells #[.int .i64 0] 3)) = W4 := ⟨_, rfl⟩
  have d3 : Blk W4 w.heap.size 73 #[.pointer (some ⟨g, 0, none⟩)] := by rw [← hW4]; exact (((Blk.new _ _ _).alloc _).alloc _).alloc _
  have d4 : Blk W4 (w.heap.size + 1) 24 #[.slice A3 l.length c3] := by rw [← hW4]; exact ((Blk.new' _ _ _ _ (by simp)).alloc _).alloc _
  have d5 : Blk W4 (w.heap.size + 1 + 1) 3 #[.int .i64 most] := by rw [← hW4]; exact (Blk.new' _ _ _ _ (by simp)).alloc _
  have d7 : Blk W4 (w.heap.size + 1 + 1 + 1) 3 #[.int .i64 0] := by rw [← hW4]; exact Blk.new' _ _ _ _ (by simp)
  have hB4 : Below w.heap.size w W4 := by rw [← hW4]; exact ((((Below.refl _ w).alloc (Nat.le_refl _) _).alloc (by simp) _).alloc (by simp; omega) _).alloc (by simp; omega) _
  have hs4 : W4.heap.size = w.heap.size + 1 + 1 + 1 + 1 := by rw [← hW4]; simp
  rw [hW4] at hb1 hb5
  clear hW4
  have e3 := d3.below hb5 (by omega)
  have e4 := d4.below hb5 (by omega)
  have e5 := d5.below hb5 (by omega)
  have e7 := d7.below hb5 (by omega)
  have hB5 : Below w.heap.size w w5 := below_after hB4 hb5 (by omega)
  clear d3 d4 d5 d7 hB4 hb5
  have hst := taps_stops Fence.wide (9 - 1) trivial rfl (by omega) bx w.heap.size g A c (.slice Ax xs.length cx) Fp l w5 hb3 hb2 hg (HW.out.1.below hB5) (HW.out.2.2.1.below hB5 (Nat.le_refl _)) HC.out hl hB5.size
  rw [HT.out.1] at hst
  refine wpIn_rangeFunc_ownF rfl (by omega) (gf := 133) (lb := #[.pointer (some ⟨bx, 0, none⟩)]) rfl trivial (enters_of Tryz.func133 (by kernel_rfl) rfl)
    hst (fun h1 h2 => h1.trans h2) (fun W lp o o' hl' h1 h2 h3 => ⟨belowK_b (w := w) (Nat.le_refl _) W lp o o' (by have := hB5.size; omega) h1 h2 h3, World.putObj_heap_other (by omega)⟩) (Below.refl _ _) (fun _ => rfl)
    (fun pre W => (∃ s, crossRun (tapF xs ts taps) most 0 pre = (s, false) ∧ Blk W w.heap.size 73 #[.pointer (some ⟨g, 0, none⟩)] ∧ Blk W (w.heap.size + 1) 24 #[.slice A3 l.length c3] ∧ Blk W (w.heap.size + 1 + 1) 3 #[.int .i64 most] ∧ Blk W (w.heap.size + 1 + 1 + 1) 3 #[.int .i64 s]) ∧ Below w.heap.size w W)
    (fun q pre W => (q = .exit 0 ∧ ∃ s, crossRun (tapF xs ts taps) most 0 pre = (s, true) ∧ Blk W (w.heap.size + 1 + 1 + 1) 3 #[.int .i64 s]) ∧ Below w.heap.size w W)
    (OwnFrom.and (Own.from (fun pre A B row hs hg hr => by obtain ⟨s, h1, h2, h3, h4, h5⟩ := hs; exact ⟨s, h1, h2.grown hg hr, h3.grown hg hr, h4.grown hg hr, h5.grown hg hr⟩) _) (ownFrom_below (Nat.le_refl _) hB5.size))
    (fun q => OwnFrom.and (Own.from (fun pre A B row hs hg hr => by obtain ⟨h0, s, h1, h2⟩ := hs; exact ⟨h0, s, h1, h2.grown hg hr⟩) _) (ownFrom_below (Nat.le_refl _) hB5.size))
    ⟨⟨0, rfl, e3, e4, e5, e7⟩, hB5⟩
    (fun x => { tmps := #[.pointer (some ⟨g, 0, none⟩), .slice A3 l.length c3, .int .i64 most, .pointer (some ⟨w.heap.size, 0, none⟩), .pointer (some ⟨w.heap.size + 1, 0, none⟩), .pointer (some ⟨w.heap.size + 1 + 1, 0, none⟩), .int .i64 0, .pointer (some ⟨w.heap.size + 1 + 1 + 1, 0, none⟩),
      .int .i64 ((taps.getD x (0, 0)).1 : Int), .int .i64 (taps.getD x (0, 0)).2, undef, .pointer (some ⟨g, 0, none⟩), .func (.func 133) #[] #[.pointer (some ⟨bx, 0, none⟩)], .int .i64 ((taps.getD x (0, 0)).1 : Int), .int .i64 (taps.getD x (0, 0)).2,
      undef, undef, undef, undef, undef, undef, undef, undef, undef, undef, undef, undef, undef, undef, undef, undef, undef, undef, undef, undef, undef, undef, undef, undef, undef, undef, undef, undef, undef, undef], defers := [] }) ?assign ?body ?done ?stop
  case assign =>
    intro lp x W K hK
    gi_wp2
    exact hK
  case body =>
    rintro lp pre x W ⟨⟨s, hs, f3, f4, f5, f7⟩, hB⟩ hlt
    have hsz := hB.size
    have hti := HT.out.2.2.1 x (by omega)
    have hbd := run_bd _ most l.length HT.out.2.2.2 pre 0 s false hs
    have hbd2 : pre.length * l.length ≤ 1000000 * 1000 := Nat.mul_le_mul (by omega) hl
    have hsn := Lib.hid (run_snoc (tapF xs ts taps) most x pre 0 s hs)
    have hfx := HT.out.2.2.2 x
    have htf : tapF xs ts taps x = crossUp xs ts (taps.getD x (0, 0)).1 (taps.getD x (0, 0)).2 xs.length := rfl
    rw [htf] at hsn hfx
    clear htf hs
    generalize taps.getD x (0, 0) = tp at *
    obtain ⟨ti, ta⟩ := tp
    simp only at hti hsn hfx ⊢
    have hrowW := HW.out.1.below hB
    obtain ⟨b2, off2, yi, hA3, hbB2, hyi, hci⟩ := HW.out.2.2.2.int ti (by omega)
    subst hA3
    have hciW := (hB.cell (p := ⟨b2, off2 + ti, none⟩) hbB2).trans hci
    have g0 := hrowW.nets
    have x3 := f3.cell 0
    have x4 := f4.cell 0
    have x5 := f5.cell 0
    have HCV := Lib.hid (fun (i : Nat) w' (hb : Below w.heap.size w w') (hi : i < xs.length) => covers_any g _ Fp Ax cx w.heap.size i ta xs w' (HW.out.1.below hb) (HW.out.2.1.below hb (Nat.le_refl _)) hi (by omega))
    gi_wp2
    gi_loopw [20] (fun i wr => ∃ k : Nat, k ≤ xs.length ∧ i = .int .i64 k ∧ Blk wr w.heap.size 73 #[.pointer (some ⟨g, 0, none⟩)] ∧ Blk wr (w.heap.size + 1) 24 #[.slice (some ⟨b2, off2, none⟩) l.length c3] ∧ Blk wr (w.heap.size + 1 + 1) 3 #[.int .i64 most] ∧
      Blk wr (w.heap.size + 1 + 1 + 1) 3 #[.int .i64 (s + crossUp xs ts ti ta k)] ∧ Below w.heap.size w wr ∧ KeepAt w.heap.size bx W wr ∧ KeepsOthers W wr) (fun i _ => xs.length - (intOf i).toNat)
    case atStart => exact ⟨0, Nat.zero_le _, rfl, f3, f4, f5, by show Blk W _ _ #[.int .i64 (s + 0)]; rw [Int.add_zero]; exact f7, hB, KeepAt.refl _ _ _, KeepsOthers.refl _⟩
    case round =>
      obtain ⟨k, hk, rfl, k3, k4, k5, k7, eb, ek, eo⟩ := hrel
      have hszr := eb.size
      have hu := crossUp_lo xs ts ti ta k
      by_cases hlk : k < xs.length
      · obtain ⟨b4, off4, yk, hA4, hbB4, hyk, hck⟩ := HW.out.2.2.2.int k (by omega)
        obtain ⟨rfl, rfl⟩ : b2 = b4 ∧ off2 = off4 := by injection hA4 with e; injection e with e1 e2; exact ⟨e1, e2⟩
        have hkk : (k : Int) < (l.length : Int) := by omega
        have hckr := (eb.cell (p := ⟨b2, off2 + k, none⟩) hbB4).trans hck
        have hcir := (eb.cell (p := ⟨b2, off2 + ti, none⟩) hbB2).trans hci
        have HS := Lib.hid (show crossUp xs ts ti ta (k + 1) = crossUp xs ts ti ta k + if decide (yk < yi) && covB xs k ta then 1 else 0 by
          show crossUp xs ts ti ta k + (if decide (ts.getD k 0 < ts.getD ti 0) && covB xs k ta then 1 else 0) = _
          rw [List.getD_eq_getElem?_getD, List.getD_eq_getElem?_getD, hyk, hyi]; rfl)
        have hcv := Lib.hid (fun j => HCV.out k (wr.drewN j) (below_drewN eb j) hlk)
        have m3 := k3.cell 0
        have m4 := k4.cell 0
        have m7 := k7.cell 0
        have n7 := k7.frozen 0
        clear hyk hck
        by_cases hlt2 : yk < yi
        · have hd2 : decide (yk < yi) = true := decide_eq_true hlt2
          rw [hd2, Bool.true_and] at HS
          generalize hcb : covB xs k ta = cb at *
          clear hcb
          have hcv2 : ∀ j, Calls Tryz.prog 63 #[.pointer (some ⟨g, 0, none⟩), .int .i64 (k : Int), .int .i64 ta] (wr.drewN j) fun e w' => e = .returned (.bool cb) ∧ w' = wr.drewN j := fun j => (hcv.out j).mono fun e w' h => ⟨h.1, h.2.symm⟩
          clear hcv
          gi_wp2
          refine quietR_region (lp := lp) rfl (by kernel_rfl) hmix (by kernel_rfl) ?_
          repeat (refine wpQuietIn_step (fun _ _ _ _ => True.intro) (fun K hK => ?_); go_simp; first | (refine hK _ ?_; clear hK K) | (apply Exists.intro; refine ⟨fun _ => ?_, hK _ ?_⟩; exact CallsIn.quiet_of_same (CallsIn.inRound lp (callsIn_wide.2 (hcv2 _))); clear hK K))
          refine wpQuietIn_nil ?_
          rintro _ ⟨nq, rfl⟩
          generalize hW2 : wr.drewN nq = W2
          have k3' : Blk W2 w.heap.size 73 #[.pointer (some ⟨g, 0, none⟩)] := by rw [← hW2]; exact k3.drewN nq
          have k4' : Blk W2 (w.heap.size + 1) 24 #[.slice (some ⟨b2, off2, none⟩) l.length c3] := by rw [← hW2]; exact k4.drewN nq
          have k5' : Blk W2 (w.heap.size + 1 + 1) 3 #[.int .i64 most] := by rw [← hW2]; exact k5.drewN nq
          have k7' : Blk W2 (w.heap.size + 1 + 1 + 1) 3 #[.int .i64 (s + crossUp xs ts ti ta k)] := by rw [← hW2]; exact k7.drewN nq
          have eb' : Below w.heap.size w W2 := by rw [← hW2]; exact below_drewN eb nq
          have ek' : KeepAt w.heap.size bx W W2 := by rw [← hW2]; exact ek.drewN nq
          have eo' : KeepsOthers W W2 := by rw [← hW2]; exact eo.trans (others_drewN wr nq)
          have m7 := k7'.cell 0
          have n7 := k7'.frozen 0
          clear hW2 k3 k4 k5 k7 eb ek eo hcv2 hckr hcir m3 m4
          cases cb
          · gi_wp2
            go_roundw
            case rel => exact ⟨k + 1, by omega, by go_num, k3', k4', k5', by rw [HS.out, if_neg Bool.false_ne_true, Int.add_zero]; exact k7', eb', ek', eo'⟩
            case measure => simp [intOf]; omega
          · gi_wp2
            go_roundw
            case rel => exact ⟨k + 1, by omega, by go_num, k3'.far (by show w.heap.size ≠ w.heap.size + 1 + 1 + 1; omega) _, k4'.far (by show w.heap.size + 1 ≠ w.heap.size + 1 + 1 + 1; omega) _, k5'.far (by show w.heap.size + 1 + 1 ≠ w.heap.size + 1 + 1 + 1; omega) _,
              by rw [HS.out, if_pos rfl, ← Int.add_assoc]; exact k7'.set 0 _, eb'.setCell (p := ⟨w.heap.size + 1 + 1 + 1, 0, none⟩) (by show w.heap.size ≤ w.heap.size + 1 + 1 + 1; omega) _, ek'.set (by omega) (by omega) 0 _, eo'.trans (KeepsOthers.setCell _ _ _)⟩
            case measure => simp [intOf]; omega
        · have hd2 : decide (yk < yi) = false := decide_eq_false hlt2
          rw [hd2, Bool.false_and] at HS
          gi_wp2
          refine quietR_region (lp := lp) rfl (by kernel_rfl) hmix (by kernel_rfl) ?_
          repeat (refine wpQuietIn_step (fun _ _ _ _ => True.intro) (fun K hK => ?_); go_simp; refine hK _ ?_; clear hK K)
          refine wpQuietIn_nil ?_
          rintro _ ⟨nq, rfl⟩
          gi_wp2
          go_roundw
          case rel => exact ⟨k + 1, by omega, by go_num, k3.drewN nq, k4.drewN nq, k5.drewN nq, by rw [HS.out, if_neg Bool.false_ne_true, Int.add_zero]; exact k7.drewN nq, below_drewN eb nq, ek.drewN nq, eo.trans (others_drewN wr nq)⟩
          case measure => simp [intOf]; omega
      · obtain rfl : k = xs.length := by omega
        have m5 := k5.cell 0
        have m7 := k7.cell 0
        rw [hxl] at m7
        have hfx2 := crossUp_lo xs ts ti ta l.length
        by_cases hmost : most < s + crossUp xs ts ti ta l.length
        · have hdm : decide (most < s + crossUp xs ts ti ta l.length) = true := decide_eq_true hmost
          gi_wp2
          exact ⟨eo, ⟨rfl, s + crossUp xs ts ti ta l.length, by rw [hsn.out, hxl, if_pos hmost], by rw [← hxl]; exact k7⟩, eb⟩
        · have hdm : decide (most < s + crossUp xs ts ti ta l.length) = false := decide_eq_false hmost
          gi_wp2
          exact ⟨eo, ek, ⟨s + crossUp xs ts ti ta l.length, by rw [hsn.out, hxl, if_neg (by omega)], k3, k4, k5, by rw [← hxl]; exact k7⟩, eb⟩
  case done =>
    rintro D ys W hD rfl ⟨⟨s, hs, f3, f4, f5, f7⟩, hB⟩ hK
    have e := HT.out.2.1
    rw [hs] at e
    obtain rfl : s = r := e
    have x7 := f7.cell 0
    gi_wp2
    refine ⟨by simp, .inl ⟨_, _, rfl, run_takeDeferred hK, ?_⟩⟩
    exact ⟨_, results_tmp rfl _ _ _, rfl, hB.trans (belowK_b (w := w) (Nat.le_refl _) W D _ _ (by have := hB5.size; omega) hK rfl rfl)⟩
  case stop =>
    rintro D q pre W hD hpre ⟨⟨rfl, s, hs, f7⟩, hB⟩ hK
    have e := HT.out.2.1
    obtain ⟨t, ht⟩ := hpre
    rw [← ht, run_stop _ _ t pre 0 s hs] at e
    obtain rfl : s = r := e
    have x7 := f7.cell 0
    gi_wp2
    refine ⟨by simp, .inl ⟨_, _, rfl, run_takeDeferred hK, ?_⟩⟩
    exact ⟨_, results_tmp rfl _ _ _, rfl, hB.trans (belowK_b (w := w) (Nat.le_refl _) W D _ _ (by have := hB5.size; omega) hK rfl rfl)⟩
end Go.Proofs.YtbldpojkpmafpaaGreatDoor

/- Package bus: the function that taps() gives, where the row that it reads lies behind what the rounds write. -/
namespace Go.Proofs.YtbldpojkpmafpaaGreatDoor
open Go.RowKit Go.Shelf
attribute [local go_sem] Oper.semAt_some

def KeepTwo (n0 bx g : Nat) (W W' : World) : Prop := Below n0 W W' ∧ W'.heap[bx]? = W.heap[bx]? ∧ W'.heap[g]? = W.heap[g]?
theorem KeepTwo.refl (n0 bx g : Nat) (W : World) : KeepTwo n0 bx g W W := ⟨Below.refl _ _, rfl, rfl⟩
theorem KeepTwo.trans {n0 bx g : Nat} {A B C : World} (h : KeepTwo n0 bx g A B) (h' : KeepTwo n0 bx g B C) : KeepTwo n0 bx g A C := ⟨h.1.trans h'.1, h'.2.1.trans h.2.1, h'.2.2.trans h.2.2⟩
theorem KeepTwo.new {n0 bx g : Nat} {A B : World} (h : KeepTwo n0 bx g A B) (hn : n0 ≤ A.heap.size) (hb : bx < A.heap.size) (hg : g < A.heap.size) (o : Obj) : KeepTwo n0 bx g A (B.alloc o) :=
  ⟨h.1.alloc (Nat.le_trans hn h.1.size) _, (Below.heap_alloc B o bx (Nat.lt_of_lt_of_le hb h.1.size)).trans h.2.1, (Below.heap_alloc B o g (Nat.lt_of_lt_of_le hg h.1.size)).trans h.2.2⟩

end Go.Proofs.YtbldpojkpmafpaaGreatDoor

/- Package bus: a table of rows in memory, and worlds in which its rows alone have turned. -/
namespace Go.Proofs.YtbldpojkpmafpaaGreatDoor
open Go.RowKit Go.Shelf

structure SameBut (S m : Nat) (rb : Nat → Nat) (W0 W : World) : Prop where
  os : W.os = W0.os
  tape : W.tape = W0.tape
  output : W.output = W0.output
  size : W0.heap.size ≤ W.heap.size
  block : ∀ b, b < S → (∀ j, j < m → b ≠ rb j) → W.heap[b]? = W0.heap[b]?
theorem SameBut.refl (S m : Nat) (rb : Nat → Nat) (W : World) : SameBut S m rb W W := ⟨rfl, rfl, rfl, Nat.le_refl _, fun _ _ _ => rfl⟩
theorem SameBut.drewN {S m : Nat} {rb : Nat → Nat} {W0 W : World} (h : SameBut S m rb W0 W) (n : Nat) : SameBut S m rb W0 (W.drewN n) := ⟨h.os, h.tape, h.output, h.size, h.block⟩
theorem SameBut.put {S m : Nat} {rb : Nat → Nat} {W0 W : World} (h : SameBut S m rb W0 W) {i : Nat} (hi : i < m) (j : Nat) (v : Value) : SameBut S m rb W0 (W.setCell ⟨rb i, j, none⟩ v) := by
  have hb := (Below.refl 0 W).setCell (p := ⟨rb i, j, none⟩) (Nat.zero_le _) v
  exact ⟨hb.os.trans h.os, hb.tape.trans h.tape, hb.output.trans h.output, Nat.le_trans h.size hb.size, fun b hS hn => (Below.heap_setCell W ⟨rb i, j, none⟩ v b (hn i hi)).trans (h.block b hS hn)⟩
theorem SameBut.grown {S m : Nat} {rb : Nat → Nat} {W0 W W' : World} {row : Option Nat} (h : SameBut S m rb W0 W) (hS : S ≤ W0.heap.size) (hg : W.grownBy W' row) (hr : ∀ r, row = some r → S ≤ r) : SameBut S m rb W0 W' :=
  ⟨hg.os.trans h.os, hg.tape.trans h.tape, hg.output.trans h.output, Nat.le_trans h.size hg.size, fun b hb hn => (hg.block b (by have := h.size; omega) (fun e => by have := hr b e.symm; omega)).trans (h.block b hb hn)⟩
theorem SameBut.below {S m : Nat} {rb : Nat → Nat} {W0 W : World} (h : SameBut S m rb W0 W) {B : Nat} (hB : B ≤ S) (hrb : ∀ j, j < m → B ≤ rb j) : Below B W0 W :=
  ⟨h.os, h.tape, h.output, h.size, fun k hk => h.block k (by omega) fun j hj => by have := hrb j hj; omega⟩
theorem SameBut.two {S m : Nat} {rb : Nat → Nat} {W0 A B : World} (h : SameBut S m rb W0 A) (k : SameBut S m rb W0 B) (hs : A.heap.size ≤ B.heap.size) {n bx g : Nat} (hn : n ≤ S) (hrb : ∀ j, j < m → n ≤ rb j) (hx : bx < S) (hxr : ∀ j, j < m → bx ≠ rb j) (hg : g < S) (hgr : ∀ j, j < m → g ≠ rb j) : KeepTwo n bx g A B :=
  ⟨⟨k.os.trans h.os.symm, k.tape.trans h.tape.symm, k.output.trans h.output.symm, hs, fun b hb => (k.block b (by omega) fun j hj => by have := hrb j hj; omega).trans (h.block b (by omega) fun j hj => by have := hrb j hj; omega).symm⟩,
    (k.block bx hx hxr).trans (h.block bx hx hxr).symm, (k.block g hg hgr).trans (h.block g hg hgr).symm⟩
theorem Blk.same {S m : Nat} {rb : Nat → Nat} {W0 W : World} (h : SameBut S m rb W0 W) {b : Nat} {t : TypeId} {cs : Array Value} (hb : Blk W0 b t cs) (hS : b < S) (hn : ∀ j, j < m → b ≠ rb j) : Blk W b t cs := (h.block b hS hn).trans hb

def TabIs (W : World) (us : List Int) (rb : Nat → Nat) (f : Int → Int → Int) : Prop :=
  ∀ j, j < us.length → Blk W (rb j) 3 (us.map fun b => Value.int .i64 (f (us.getD j 0) b)).toArray
theorem TabIs.drewN {W : World} {us : List Int} {rb : Nat → Nat} {f : Int → Int → Int} (h : TabIs W us rb f) (n : Nat) : TabIs (W.drewN n) us rb f := fun j hj => (h j hj).drewN n
theorem TabIs.grown {W W' : World} {us : List Int} {rb : Nat → Nat} {f : Int → Int → Int} {row : Option Nat} (h : TabIs W us rb f) (hg : W.grownBy W' row) (hr : ∀ r, row = some r → ∃ o : Obj, W.heap[r]? = some o ∧ o.isCells = false) : TabIs W' us rb f := fun j hj => (h j hj).grown hg hr
theorem TabIs.cell {W : World} {us : List Int} {rb : Nat → Nat} {f : Int → Int → Int} (h : TabIs W us rb f) {i j : Nat} (hi : i < us.length) (hj : j < us.length) : W.cell? ⟨rb i, j, none⟩ = some (.int .i64 (f (us.getD i 0) (us.getD j 0))) := by
  rw [(h i hi).cell j]
  simp [List.getD_eq_getElem?_getD, hi, hj]
end Go.Proofs.YtbldpojkpmafpaaGreatDoor

/-
  DERIVED: THE SHELF's CONTRACTS AT THIS DUMP, IN PLAIN WORDS (tools/lay-plain.mjs out of 'TryzShelf.lean', which tools/lay-shelf.mjs wrote): THE SAME DECLARATIONS UNDER THE SAME NAMES: 'import', 'namespace', 'open', 'def', 'theorem' AND NOTHING ELSE: no command of the shelf's: FOR A HAND-IN. Each laying: the table of numbers ('.._ren') and one theorem, a field a fact of the dump's own or the kernel's comparison; each contract: ONE APPLICATION.
-/
namespace Go.Proofs
open Go.Shelf
def Tryz.laysNm215_ren : Go.Shelf.Ren := ⟨fun | 15 => 53 | n => n, fun | 22 => 24 | 3 => 3 | 4 => 4 | n => n, fun | n => n⟩
theorem Tryz.laysNm215 : Go.Proofs.Lays2.n15 Tryz.prog Tryz.laysNm215_ren := {
  mixed := by kernel_rfl
  f15 := Tryz.func53.trans (congrArg some (by kernel_rfl))
  t3 := Tryz.underlying3
  a3 := Tryz.isAgg3
  z3 := Tryz.sizeOf3
  v3 := Tryz.zeroValue3
  t4 := Tryz.underlying4
  a4 := Tryz.isAgg4
  z4 := Tryz.sizeOf4
  v4 := Tryz.zeroValue4
  t22 := Tryz.underlying24
  a22 := Tryz.isAgg24
  z22 := Tryz.sizeOf24
  v22 := Tryz.zeroValue24
  i3 := by kernel_rfl }
open Go.RowKit Go.Lib in
theorem Tryz.slices_Clone_int (b off n c : Nat) (zs : List Int) (w : World) (hz : n ≤ zs.length) (hbig : n * 8 ≤ 140737488355328) (hc : ∀ j, j < zs.length → w.cell? ⟨b, off + j, none⟩ = some (.int .i64 (zs.getD j 0))) :
    Calls Tryz.prog 53 #[.slice (some ⟨b, off, none⟩) n c] w fun e w' => ∃ v', e = .returned v' ∧ w'.ownsRow w.heap.size 3 1 v' n ((zs.take n).map (Value.int .i64)) ∧ v' ≠ .slice none 0 0 ∧ Below w.heap.size w w' := Any.slices_Clone_int Tryz.laysNm215 b off n c zs w hz hbig hc
open Go.RowKit Go.Lib in
theorem Tryz.slices_Clone_int_nil (n c : Nat) (w : World) :
    Calls Tryz.prog 53 #[.slice none n c] w fun e w' => e = .returned (.slice none 0 0) ∧ w' = w := Any.slices_Clone_int_nil Tryz.laysNm215 n c w
open Go.RowKit Go.Lib in
theorem Tryz.slices_Clone_int_zero (a : Addr) (c : Nat) (w : World) :
    Calls Tryz.prog 53 #[.slice (some a) 0 c] w fun e w' => ∃ v', e = .returned v' ∧ w'.ownsRow w.heap.size 3 1 v' 0 [] ∧ v' ≠ .slice none 0 0 ∧ Below w.heap.size w w' := Any.slices_Clone_int_zero Tryz.laysNm215 a c w
end Go.Proofs

/- Go's library on rows of integers, at nil too: Clone, Sort, Compact, Index, Reverse. -/
namespace Go.Proofs.YtbldpojkpmafpaaGreatDoor
open Go.RowKit

abbrev ic (l : List Int) : List Value := l.map (Value.int .i64)
theorem clone_any (A : Option Addr) (c B : Nat) (xs : List Int) (w : World) (h : Row w B A (ic xs)) (hl : xs.length ≤ 1000000) :
    Calls Tryz.prog 53 #[.slice A xs.length c] w fun e w' => ∃ v, e = .returned v ∧ w'.ownsRow w.heap.size 3 1 v xs.length (ic xs) ∧ Below w.heap.size w w' := by
  rcases h with h | ⟨b, off, rfl, _, hc⟩
  · obtain rfl : xs = [] := List.map_eq_nil_iff.1 h
    cases A with
    | none => exact (Tryz.slices_Clone_int_nil 0 c w).mono fun e w' ⟨h1, h2⟩ => by subst h2; exact ⟨_, h1, ⟨rfl, .inl ⟨rfl, rfl⟩⟩, Below.refl _ _⟩
    | some a => exact (Tryz.slices_Clone_int_zero a c w).mono fun e w' ⟨v, h1, h2, _, h3⟩ => ⟨v, h1, h2, h3⟩
  · refine (Tryz.slices_Clone_int b off xs.length c xs w (Nat.le_refl _) (by omega) fun j hj => ?_).mono fun e w' ⟨v, h1, h2, _, h3⟩ => ⟨v, h1, ?_, h3⟩
    · rw [hc j (by simpa using hj)]
      simp [List.getD_eq_getElem?_getD, hj]
    · rw [List.take_length] at h2; exact h2
end Go.Proofs.YtbldpojkpmafpaaGreatDoor

/- A region that draws its order in a round, whose last operation writes: once, in the order of the text. -/
namespace Go.Proofs.YtbldpojkpmafpaaGreatDoor
open Go.RowKit Go.Shelf

def backB (md : Region.Mode) (ops : Array Oper) : Bool := (List.range ops.size).all fun j => match ops[j]? with | some o => o.after.all fun e => !Region.binds md e || decide (e.on < j) | none => true
section
variable {F : Fence} {n lp : Nat} {P : Program} {ops ops' : Array Oper} {C : World → Prop} {md : Region.Mode} {m : Nat} {o o' : Oper}
structure LastOf (md : Region.Mode) (ops ops' : Array Oper) (m : Nat) (o o' : Oper) : Prop where
  sz : ops.size = m + 1
  sz' : ops'.size = m + 1
  eq : ∀ i, i < m → ops'[i]? = ops[i]?
  at' : ops[m]? = some o
  at2 : ops'[m]? = some o'
  after : o'.after = o.after
  dst : o.dst = none
  dst' : o'.dst = none
  guard : o.guard = none
  sink : Region.sinkB md ops m = true
  chain : Region.chainB md ops m = true
  back : backB md ops = true
theorem LastOf.ready (h : LastOf md ops ops' m o o') (listed : Array Bool) : Region.ready md ops' listed = Region.ready md ops listed := by
  unfold Region.ready
  rw [h.sz, h.sz']
  refine List.filter_congr fun i hi => ?_
  have hi := List.mem_range.1 hi
  by_cases e : i = m
  · subst e
    rw [h.at', h.at2]
    simp only [Option.map_some, h.after]
  · rw [h.eq i (by omega)]
theorem LastOf.done (h : LastOf md ops ops' m o o') {listed : Array Bool} (inv : HeadInv md ops m listed) (hm : m ∈ Region.ready md ops listed) : Region.ready md ops (listed.setIfInBounds m true) = [] := by
  refine List.eq_nil_iff_forall_not_mem.2 fun k hk => ?_
  obtain ⟨h1, ok, hok, _⟩ := mem_ready.1 hk
  have hkm : k < m + 1 := by have := (Array.getElem?_eq_some_iff.1 hok).1; rw [h.sz] at this; exact this
  by_cases e : k = m
  · subst e
    have hs : k < listed.size := by rw [inv.size, h.sz]; omega
    simp [hs] at h1
  · rw [getD_set_ne true (fun g => e g.symm)] at h1
    exact tail_waits h.sink h.chain (by rw [h.sz]; omega) inv (m - k) k rfl (by omega) h1 m (Nat.le_refl _) hm
end
end Go.Proofs.YtbldpojkpmafpaaGreatDoor

/- Rows of the walk's own: facts. -/
namespace Go.Proofs.YtbldpojkpmafpaaGreatDoor
open Go.RowKit
theorem own_apart {w : World} {base size n c : Nat} {e : TypeId} {U : Option Addr} {vs : List Value} (h : w.ownsRow base e size (.slice U n c) n vs) {b : Nat} (hb : b < base ∨ w.heap.size ≤ b) : some b ≠ (Value.slice U n c).ownBlock := by
  rcases h.2 with ⟨hv, _⟩ | ⟨g, cap, cur, hv, hbg, hg, _⟩
  · cases hv; intro h; cases h
  · cases hv
    have hgl : g < w.heap.size := (Array.getElem?_eq_some_iff.1 hg).1
    intro h
    have h : some b = some g := h
    injection h with h
    omega
theorem own_keep {w w' : World} {base size n : Nat} {e : TypeId} {v : Value} {vs : List Value} (h : w.ownsRow base e size v n vs) (hk : ∀ b, some b = v.ownBlock → w'.heap[b]? = w.heap[b]?) : w'.ownsRow base e size v n vs := by
  refine ⟨h.1, ?_⟩
  rcases h.2 with hn | ⟨g, cap, cur, rfl, hbg, hg, rest⟩
  · exact .inl hn
  · exact .inr ⟨g, cap, cur, rfl, hbg, (hk g rfl).trans hg, rest⟩
theorem own_base {w : World} {base base' size n : Nat} {e : TypeId} {v : Value} {vs : List Value} (h : w.ownsRow base e size v n vs) (hb : base' ≤ base) : w.ownsRow base' e size v n vs := by
  refine ⟨h.1, ?_⟩
  rcases h.2 with hn | ⟨g, cap, cur, rfl, hbg, hg, rest⟩
  · exact .inl hn
  · exact .inr ⟨g, cap, cur, rfl, by omega, hg, rest⟩
theorem own_low {W : World} {base size n c : Nat} {e : TypeId} {A : Option Addr} {vs : List Value} (h : W.ownsRow base e size (.slice A n c) n vs) {b : Nat} (hb : some b = (Value.slice A n c).ownBlock) : base ≤ b ∧ b < W.heap.size := by
  constructor
  · rcases Nat.lt_or_ge b base with g | g
    · exact absurd hb (own_apart h (.inl g))
    · exact g
  · rcases Nat.lt_or_ge b W.heap.size with g | g
    · exact g
    · exact absurd hb (own_apart h (.inr g))
end Go.Proofs.YtbldpojkpmafpaaGreatDoor

/- A loop over an iterator that writes blocks of its own between two rounds, and that hands each round a new row. -/
namespace Go.Proofs.YtbldpojkpmafpaaGreatDoor
open Go.RowKit

structure Turns (O : Nat → Prop) (W W' : World) : Prop where
  os : W'.os = W.os
  tape : W'.tape = W.tape
  output : W'.output = W.output
  size : W.heap.size ≤ W'.heap.size
  block : ∀ k, k < W.heap.size → ¬ O k → W'.heap[k]? = W.heap[k]?
theorem Turns.refl (O : Nat → Prop) (W : World) : Turns O W W := ⟨rfl, rfl, rfl, Nat.le_refl _, fun _ _ _ => rfl⟩
theorem Turns.trans {O O' : Nat → Prop} {A B C : World} (h : Turns O A B) (k : Turns O' B C) (hO : ∀ b, b < A.heap.size → O' b → O b) : Turns O A C :=
  ⟨k.os.trans h.os, k.tape.trans h.tape, k.output.trans h.output, Nat.le_trans h.size k.size, fun i hi ho => (k.block i (Nat.lt_of_lt_of_le hi h.size) fun e => ho (hO i hi e)).trans (h.block i hi ho)⟩
theorem Turns.then {O : Nat → Prop} {A B C : World} (h : Turns O A B) (k : Turns O B C) : Turns O A C := h.trans k fun _ _ e => e
theorem Turns.mono {O O' : Nat → Prop} {A B : World} (h : Turns O A B) (hO : ∀ b, O b → O' b) : Turns O' A B := ⟨h.os, h.tape, h.output, h.size, fun i hi ho => h.block i hi fun e => ho (hO i e)⟩
theorem Turns.alloc {O : Nat → Prop} {A B : World} (h : Turns O A B) (o : Obj) : Turns O A (B.alloc o) :=
  ⟨h.os, h.tape, h.output, by simp; have := h.size; omega, fun i hi ho => (Below.heap_alloc B o i (Nat.lt_of_lt_of_le hi h.size)).trans (h.block i hi ho)⟩
theorem Turns.setCell {O : Nat → Prop} {A B : World} (h : Turns O A B) {p : Addr} (hp : O p.block) (u : Value) : Turns O A (B.setCell p u) :=
  ⟨h.os, h.tape, h.output, by simp [World.setCell]; exact h.size, fun i hi ho => (Below.heap_setCell B p u i fun e => ho (e ▸ hp)).trans (h.block i hi ho)⟩
theorem Turns.putObj {O : Nat → Prop} {A B : World} (h : Turns O A B) {l : Nat} (hp : O l) (o : Obj) : Turns O A (B.putObj l o) :=
  have g := grownBy_putObj' B l o
  ⟨g.os.trans h.os, g.tape.trans h.tape, g.output.trans h.output, Nat.le_trans h.size g.size, fun i hi ho => (g.block i (Nat.lt_of_lt_of_le hi h.size) fun e => ho (by injection e with e; rw [e]; exact hp)).trans (h.block i hi ho)⟩
theorem Turns.drew {O : Nat → Prop} {A B : World} (h : Turns O A B) : Turns O A B.drew := ⟨h.os, h.tape, h.output, h.size, h.block⟩
theorem Turns.drewN {O : Nat → Prop} {A B : World} (h : Turns O A B) (n : Nat) : Turns O A (B.drewN n) := ⟨h.os, h.tape, h.output, h.size, h.block⟩
theorem Turns.grown {O : Nat → Prop} {A B C : World} {row : Option Nat} (h : Turns O A B) (g : B.grownBy C row) (hr : ∀ r, row = some r → O r) : Turns O A C :=
  ⟨g.os.trans h.os, g.tape.trans h.tape, g.output.trans h.output, Nat.le_trans h.size g.size, fun i hi ho => (g.block i (Nat.lt_of_lt_of_le hi h.size) fun e => ho (hr i e.symm)).trans (h.block i hi ho)⟩
theorem Turns.after {O : Nat → Prop} {A B C : World} (h : Turns O A B) (k : Below B.heap.size B C) : Turns O A C :=
  ⟨k.os.trans h.os, k.tape.trans h.tape, k.output.trans h.output, Nat.le_trans h.size k.size, fun i hi ho => (k.block i (Nat.lt_of_lt_of_le hi h.size)).trans (h.block i hi ho)⟩
theorem Turns.below {O : Nat → Prop} {A B : World} {n : Nat} (h : Turns O A B) (hO : ∀ b, O b → n ≤ b) (hn : n ≤ A.heap.size) : Below n A B :=
  ⟨h.os, h.tape, h.output, h.size, fun i hi => h.block i (by omega) fun e => by have := hO i e; omega⟩
theorem Turns.blk {O : Nat → Prop} {A B : World} (h : Turns O A B) {b : Nat} {t : TypeId} {cs : Array Value} (hb : Blk A b t cs) (ho : ¬ O b) : Blk B b t cs := (h.block b hb.lt ho).trans hb
theorem Turns.own {O : Nat → Prop} {A B : World} (h : Turns O A B) {base size n : Nat} {e : TypeId} {v : Value} {vs : List Value} (ho : A.ownsRow base e size v n vs) (hO : ∀ b, some b = v.ownBlock → ¬ O b) : B.ownsRow base e size v n vs :=
  own_keep ho fun b hb => h.block b (ho.lt b hb.symm).2 (hO b hb)

theorem callsIn_any {n m : Nat} {P : Program} {f : FuncId} {args : Array Value} {w : World} {R : Ending → World → Prop} (h : CallsIn Fence.wide n P f args w R) : CallsIn Fence.wide m P f args w R := callsIn_wide.2 (callsIn_wide.1 h)
theorem roundIn_any {n m : Nat} {P : Program} {l : Nat} {f : FuncId} {tmps : Array Value} {assign body : Code} {w : World} {R : Ending → World → Prop} (h : RoundIn Fence.wide n P l f tmps assign body w R) : RoundIn Fence.wide m P l f tmps assign body w R :=
  ⟨h.1, fun c cs _ => h.2 c cs (room_wide _)⟩

abbrev Lst := Option Addr × Nat × List Int
def ordV (x : Lst) : Value := .slice x.1 x.2.2.length x.2.1
structure AtRow (B : Nat) (O : Nat → Prop) (G : List Int → Prop) (x : Lst) (W : World) : Prop where
  own : W.ownsRow B 3 1 (ordV x) x.2.2.length (ic x.2.2)
  inO : ∀ b, some b = (ordV x).ownBlock → O b
  good : G x.2.2
def Less (O : Nat → Prop) (x : Lst) : Nat → Prop := fun b => O b ∧ some b ≠ (ordV x).ownBlock
def AbidesSet (J : List Lst → (Nat → Prop) → World → Prop) : Prop :=
  ∀ pre (O O' : Nat → Prop) W1 W2, J pre O W1 → Turns O W1 W2 → (∀ b, O' b → O b ∨ W1.heap.size ≤ b) → J pre O' W2
def SeqOwn (P : Program) (g : FuncId) (lb : Array Value) (O0 : Nat → Prop) (G : List Int → Prop) (S : List (List Int) → Prop) (w : World) : Prop :=
  ∀ (l : Nat) (J : List Lst → (Nat → Prop) → World → Prop) (W : World), Below w.heap.size w W → AbidesSet J →
    (∀ pre x O W1, J pre O W1 → (∀ b, O b → O0 b ∨ W.heap.size ≤ b) → (∀ b, O b → b < W1.heap.size) → AtRow W.heap.size O G x W1 →
      YieldAt Fence.wide 0 P l #[ordV x] W1 fun e W' => e = .returned (.bool true) ∧ J (pre ++ [x]) (Less O x) W' ∧ Turns (fun b => ¬ Less O x b) W1 W') →
    J [] O0 W → CallsIn Fence.wide 0 P g (#[.func (.yield l) #[] #[]] ++ lb) W fun e W' => (∃ v, e = .returned v) ∧ ∃ xs O, S (xs.map fun x => x.2.2) ∧ J xs O W'
def setPost (I : List Lst → (Nat → Prop) → World → Prop) (O : Nat → Prop) (xs : List Lst) (W : World) : Exit → Act → World → Prop
  | .normal, _, W' => I xs O W' ∧ Turns (fun b => ¬ O b) W W'
  | _, _, _ => False

theorem wpIn_rangeFunc_set {n : Nat} {P : Program} {g : Operand} {ps : Array Tmp} {assign body : Code} {Q : Exit → Act → World → Prop} {a : Act} {w : World} {gf : Nat} {lb : Array Value} {O0 : Nat → Prop} {G : List Int → Prop} {S : List (List Int) → Prop} {w0 : World}
    (hg : a.eval g = .func (.func gf) #[] lb) (eg : ∀ args w, (callFunc gf args).run P w = .ok (.enter gf args) w) (hseq : SeqOwn P gf lb O0 G S w0) (hb0 : Below w0.heap.size w0 w) (hps : ps.size = 1) (hO0 : ∀ b, O0 b → b < w.heap.size)
    (I : List Lst → (Nat → Prop) → World → Prop) (hI : AbidesSet I) (h0 : I [] O0 w) (a₁ : Lst → Act)
    (hassign : ∀ (l : Nat) (x : Lst) (W : World) (K : Act → World → Prop), K (a₁ x) W → assign.wpIn (Fence.wide.inRound l) 0 P (Exit.then K (fun _ _ _ => False)) { tmps := (ps.zip #[ordV x]).foldl (fun t (p, v) => t.setIfInBounds p v) a.tmps, defers := [] } W)
    (hbody : ∀ (l : Nat) (pre : List Lst) (x : Lst) (O : Nat → Prop) (W : World), I pre O W → (∀ b, O b → O0 b ∨ w.heap.size ≤ b) → (∀ b, O b → b < W.heap.size) → AtRow w.heap.size O G x W → body.wpIn (Fence.wide.inRound l) 0 P (setPost I (Less O x) (pre ++ [x]) W) (a₁ x) W)
    (hdone : ∀ (D : Nat) (xs : List Lst) (O : Nat → Prop) (W : World), w.heap.size ≤ D → O D → S (xs.map fun x => x.2.2) → I xs O W → W.heap[D]? = some (.deferred (some [])) → Q .normal { a with defers := { target := .collected D, args := #[] } :: a.defers } W) :
    (Code.rangeFunc g ps assign body).wpIn Fence.wide n P Q a w := by
  refine wpIn_rangeFunc ?_
  intro fn hfn
  obtain ⟨rec, hrec⟩ : ∃ rec : LoopState → Option Code → Loop, rec = fun st pe => { state := st, pending := pe, fn, tmps := a.tmps, params := ps, assign, body, defers := w.heap.size } := ⟨_, rfl⟩
  obtain ⟨W1, hW1⟩ : ∃ W1, (w.alloc (.deferred (some []))).alloc (.loop (rec .ready none)) = W1 := ⟨_, rfl⟩
  have hs1 : W1.heap.size = w.heap.size + 2 := by rw [← hW1]; simp
  have hL1 : W1.heap[w.heap.size + 1]? = some (.loop (rec .ready none)) := by
    rw [← hW1]; have := World.alloc_heap_new (w.alloc (.deferred (some []))) (.loop (rec .ready none)); rwa [World.size_alloc] at this
  have hK1 : W1.heap[w.heap.size]? = some (.deferred (some [])) := by
    rw [← hW1]; exact (Below.heap_alloc _ _ _ (by simp)).trans (World.alloc_heap_new w _)
  have ht1 : Turns O0 w W1 := by rw [← hW1]; exact ((Turns.refl _ w).alloc _).alloc _
  have hb1 : Below w0.heap.size w0 W1 := by
    rw [← hW1]; exact hb0.trans ((((Below.refl _ w).alloc (Nat.le_refl _) _).alloc (by simp) _).mono hb0.size)
  have hrun := run_enterLoop_outer (P := P) (w := w) fn a.tmps ps assign body
  refine ⟨w.heap.size + 1, [{ target := .collected w.heap.size, args := #[] }], W1, { target := .fn (.func gf) lb, args := #[.func (.yield (w.heap.size + 1)) #[] #[]] }, W1, gf,
    #[.func (.yield (w.heap.size + 1)) #[] #[]] ++ lb, W1, ?_, ?_, ?_, ?_, fun h => by simp [Fence.wide] at h, ?_⟩
  · rw [← hW1, hrec]; exact hrun
  · simp only [resolve, hg]
    simp [go_sem]
  · intro f' hf'; trivial
  · simp [invoke, go_sem, eg]
  · -- the iterator's contract, where what the caller knows has the loop's own two blocks among those that turn
    refine (callsIn_any (hseq (w.heap.size + 1)
      (fun pre O W => (∀ b, O b → O0 b ∨ w.heap.size + 2 ≤ b) ∧ I pre (fun b => b = w.heap.size ∨ b = w.heap.size + 1 ∨ O b) W ∧ W.heap[w.heap.size + 1]? = some (.loop (rec .ready none)) ∧ W.heap[w.heap.size]? = some (.deferred (some [])))
      W1 hb1 ?abides ?round ⟨fun b hb => .inl hb, hI _ _ _ _ _ h0 ht1 (fun b hb => by rcases hb with rfl | rfl | hb <;> first | (right; omega) | exact .inl hb), hL1, hK1⟩)).mono ?behind
    case abides =>
      rintro pre O O' A B ⟨hlo, hi, hl, hk⟩ ht hO
      have hne : ∀ b, b = w.heap.size ∨ b = w.heap.size + 1 → ¬ O b := fun b hb e => by rcases hlo b e with h | h <;> first | omega | (have := hO0 b h; omega)
      have hlt : w.heap.size + 1 < A.heap.size := (Array.getElem?_eq_some_iff.1 hl).1
      refine ⟨fun b hb => ?_, hI _ _ _ _ _ hi (ht.mono fun b hb => .inr (.inr hb)) (fun b hb => ?_), (ht.block _ hlt (hne _ (.inr rfl))).trans hl, (ht.block _ (by omega) (hne _ (.inl rfl))).trans hk⟩
      · rcases hO b hb with h | h
        · exact hlo b h
        · right; omega
      · rcases hb with rfl | rfl | hb
        · exact .inl (.inl rfl)
        · exact .inl (.inr (.inl rfl))
        · rcases hO b hb with h | h
          · exact .inl (.inr (.inr h))
          · exact .inr h
    case round =>
      rintro pre x O W ⟨hlo, hi, hl, hk⟩ hlo2 hup hat
      have hne : ∀ b, b = w.heap.size ∨ b = w.heap.size + 1 → ¬ O b := fun b hb e => by rcases hlo b e with h | h <;> first | omega | (have := hO0 b h; omega)
      have hlt : w.heap.size + 1 < W.heap.size := (Array.getElem?_eq_some_iff.1 hl).1
      have hy := run_yield (P := P) (args := #[ordV x]) hl (by rw [hrec]; exact hps.symm)
      rw [hrec] at hy
      have hbr : (Instr.beginRound (w.heap.size + 1)).run P W = .ok () (W.putObj (w.heap.size + 1) (.loop (rec .busy none))) := by
        have := run_beginRound (P := P) hl (by rw [hrec])
        rw [hrec] at this ⊢
        exact this
      refine ⟨fn, _, assign, body, hy, roundIn_of_wpIn hfn (hassign _ x W _ ⟨_, hbr, ?_⟩)⟩
      have hl2 : (W.putObj (w.heap.size + 1) (.loop (rec .busy none))).heap[w.heap.size + 1]? = some (.loop (rec .busy none)) := World.putObj_heap_same hlt
      have hk2 : (W.putObj (w.heap.size + 1) (.loop (rec .busy none))).heap[w.heap.size]? = some (.deferred (some [])) := (World.putObj_heap_other (by omega)).trans hk
      have ht2 : Turns (fun b => b = w.heap.size ∨ b = w.heap.size + 1 ∨ O b) W (W.putObj (w.heap.size + 1) (.loop (rec .busy none))) := (Turns.refl _ W).putObj (.inr (.inl rfl)) _
      have hz2 := ht2.size
      have hi2 := hI _ _ _ _ _ hi ht2 (fun b hb => .inl hb)
      have ho2 : ∀ b, O b → (W.putObj (w.heap.size + 1) (.loop (rec .busy none))).heap[b]? = W.heap[b]? := fun b hb => World.putObj_heap_other fun e => hne b (.inr e) hb
      have hat2 : AtRow w.heap.size (fun b => b = w.heap.size ∨ b = w.heap.size + 1 ∨ O b) G x (W.putObj (w.heap.size + 1) (.loop (rec .busy none))) := by
        refine ⟨own_base (own_keep hat.own fun b hb => World.putObj_heap_other fun e => ?_) (by omega), fun b hb => .inr (.inr (hat.inO b hb)), hat.good⟩
        have := (hat.own.lt b hb.symm).1; omega
      have hlt1 : ∀ b, some b = (ordV x).ownBlock → w.heap.size + 2 ≤ b := fun b hb => by have := (hat.own.lt b hb.symm).1; omega
      have hD : Less (fun b => b = w.heap.size ∨ b = w.heap.size + 1 ∨ O b) x w.heap.size := ⟨.inl rfl, fun e => by have := hlt1 _ e; omega⟩
      have hL : Less (fun b => b = w.heap.size ∨ b = w.heap.size + 1 ∨ O b) x (w.heap.size + 1) := ⟨.inr (.inl rfl), fun e => by have := hlt1 _ e; omega⟩
      have hLe : ∀ b, Less O x b → Less (fun b => b = w.heap.size ∨ b = w.heap.size + 1 ∨ O b) x b := fun b hb => ⟨.inr (.inr hb.1), hb.2⟩
      refine wpIn_mono (hbody _ pre x _ _ hi2 (fun b hb => ?lo2) (fun b hb => ?up2) hat2) ?after
      case lo2 =>
        rcases hb with rfl | rfl | hb
        · right; omega
        · right; omega
        · rcases hlo b hb with h | h
          · exact .inl h
          · right; omega
      case up2 =>
        rcases hb with rfl | rfl | hb
        · omega
        · omega
        · have := hup b hb; omega
      generalize W.putObj (w.heap.size + 1) (.loop (rec .busy none)) = W2 at *
      rintro e a3 W3 hp
      cases e with
      | normal =>
        obtain ⟨hi3, ht3⟩ := hp
        have hl3 : W3.heap[w.heap.size + 1]? = some (.loop (rec .busy none)) := (ht3.block _ (Array.getElem?_eq_some_iff.1 hl2).1 (fun h => h hL)).trans hl2
        have hk3 : W3.heap[w.heap.size]? = some (.deferred (some [])) := (ht3.block _ (Array.getElem?_eq_some_iff.1 hk2).1 (fun h => h hD)).trans hk2
        have hr := run_endRound (P := P) none hl3
        rw [hrec] at hr
        have ht4 : Turns (fun b => b = w.heap.size + 1) W3 (W3.putObj (w.heap.size + 1) (.loop (rec .ready none))) := (Turns.refl (fun b => b = w.heap.size + 1) W3).putObj (l := w.heap.size + 1) rfl _
        refine ⟨_, _, hr, rfl, ⟨fun b hb => hlo b hb.1, hI _ _ _ _ _ hi3 (by rw [hrec] at ht4; exact ht4.mono fun b hb => hb ▸ hL) (fun b hb => .inl (by rcases hb with rfl | rfl | hb; exact hD; exact hL; exact hLe b hb)), by rw [hrec]; exact World.putObj_heap_same (Array.getElem?_eq_some_iff.1 hl3).1, (World.putObj_heap_other (by omega)).trans hk3⟩, ?_⟩
        rw [hrec] at ht4
        refine ⟨ht4.os.trans (ht3.os.trans ht2.os), ht4.tape.trans (ht3.tape.trans ht2.tape), ht4.output.trans (ht3.output.trans ht2.output), Nat.le_trans ht2.size (Nat.le_trans ht3.size ht4.size), fun b hb hO => ?_⟩
        have hOb : Less O x b := Classical.byContradiction hO
        exact (World.putObj_heap_other fun e => hne b (.inr e) hOb.1).trans ((ht3.block b (by omega) fun h => h (hLe b hOb)).trans (ho2 b hOb.1))
      | ret => exact hp.elim
      | exit id => exact hp.elim
      | goto t => exact hp.elim
      | panic ch => exact hp.elim
      | outgrown => exact hp.elim
    case behind =>
      rintro e W2 ⟨⟨v, rfl⟩, xs, O, hS, hlo, hi, hl, hk⟩
      have ht4 : Turns (fun b => b = w.heap.size ∨ b = w.heap.size + 1 ∨ O b) W2 (W2.putObj (w.heap.size + 1) (.loop (rec .exhausted none))) := (Turns.refl _ W2).putObj (.inr (.inl rfl)) _
      exact ⟨none, _, by have := run_endLoop (P := P) hl (by rw [hrec]; simp); rw [hrec] at this ⊢; exact this, hdone _ xs _ _ (by omega) (.inl rfl) hS (hI _ _ _ _ _ hi ht4 (fun b hb => .inl hb)) ((World.putObj_heap_other (by omega)).trans hk)⟩
end Go.Proofs.YtbldpojkpmafpaaGreatDoor
