/- Package bus: the crossings of a row with tracks; they may stop beyond a number. -/
import Derived.Test.YtbldpojkpmafpaaGreatDoorZtBusTap1
import Derived.RangeFuncFrom
import Derived.Sort.QuietTacIn
import Derived.Lib.Slices
import Derived.Shelf.Small.Utf8
import Derived.Shelf.Small.Bits
import Derived.Shelf.Small.Strs
import Derived.Shelf.Small.Wraps
import Derived.Shelf.Strconv.Atoi
import Derived.Shelf.Strconv.Itoa0
import Derived.Shelf.Strconv.Itoa1
import Derived.Shelf.LaysM
import Derived.Shelf.Strconv.Itoa2
import Derived.Shelf.Strconv.Itoa3
import Derived.Shelf.Strconv.AtoiErrFast
import Derived.Shelf.Strconv.ParseIntEmpty
import Derived.Shelf.Strconv.AtoiFail
import Derived.Shelf.Strconv.Clone
import Derived.Shelf.Strconv.SyntaxError
import Derived.Shelf.LaysC
import Derived.Shelf.Strconv.ToError
import Derived.Shelf.Strconv.AtoiErr
import Derived.Shelf.Strconv.ErrVar
import Derived.Shelf.Strconv.Lower
import Derived.Shelf.Strconv.ParseUint10
import Derived.Shelf.Strconv.ParseUint10Empty
import Derived.Shelf.Strconv.ParseUint10Any
import Derived.Shelf.Strconv.ParseInt10
import Derived.Shelf.Strconv.AtoiLong
import Derived.Shelf.Strconv.AtoiInnerAll
import Derived.Shelf.Strconv.RangeError
import Derived.Shelf.Strconv.ToErrorRange
import Derived.Shelf.Strconv.AtoiAll
import Derived.Shelf.Strconv.ErrVarAll
import Derived.Shelf.Strconv.ParseUintEmpty
import Derived.Shelf.Strconv.ParseUint10b64
import Derived.Shelf.Strconv.ParseUint10b32
import Derived.Shelf.Strconv.ParseUint10b16
import Derived.Shelf.Strconv.ParseUint10b8
import Derived.Shelf.Strconv.ParseUint10At
import Derived.Shelf.Strings.Search1
import Derived.Shelf.Strings.Search2
import Derived.Shelf.Strings.Search3
import Derived.Shelf.Strings.Cut
import Derived.Shelf.Strings.Count
import Derived.Shelf.Strings.Shaped
import Derived.Shelf.Sort.Plain
import Derived.Shelf.Strings.Prefix
import Derived.Shelf.Strings.Runes
import Derived.Shelf.Strings.AsciiSet
import Derived.Shelf.Bits.Mul64
import Derived.Shelf.Unicode.DecodeSlow
import Derived.Shelf.Unicode.DecodeAny
import Derived.Shelf.Slices.Turned
import Derived.Shelf.Slices.Reverse
import Derived.Ground.Names2Prog
import Derived.Shelf.Slices.Clone
import Derived.Shelf.Slices.CompactI
import Derived.Shelf.Slices.SearchI
import Derived.Shelf.Slices.Cells
import Derived.Shelf.Slices.In.SortNone
import Derived.Ground.SlgnProg
import Derived.Shelf.SlicesE.Clone
import Derived.Test.YtbldpojkpmafpaaGreatDoorProg
import Derived.Lib.RowBridge
import Derived.StillTail
namespace Go.Proofs.YtbldpojkpmafpaaGreatDoor
open Go.RowKit Go.Shelf
attribute [local go_sem] Oper.semAt_some

def tapF (xs : List (Int × Int)) (ts : List Int) (taps : List (Nat × Int)) (x : Nat) : Int := crossUp xs ts (taps.getD x (0, 0)).1 (taps.getD x (0, 0)).2 xs.length
def crossRun (f : Nat → Int) (most : Int) : Int → List Nat → Int × Bool
  | s, [] => (s, false)
  | s, x :: r => if most < s + f x then (s + f x, true) else crossRun f most (s + f x) r
theorem run_snoc (f : Nat → Int) (most : Int) (x : Nat) : ∀ (pre : List Nat) (s0 s : Int), crossRun f most s0 pre = (s, false) → crossRun f most s0 (pre ++ [x]) = if most < s + f x then (s + f x, true) else (s + f x, false)
  | [], s0, s, h => by
    have : s0 = s := by simpa [crossRun] using h
    subst this
    simp [crossRun]
  | y :: r, s0, s, h => by
    unfold crossRun at h
    show crossRun f most s0 (y :: (r ++ [x])) = _
    unfold crossRun
    split at h
    · simp at h
    · rename_i hh
      rw [if_neg hh]
      exact run_snoc f most x r _ s h
theorem run_stop (f : Nat → Int) (most : Int) (t : List Nat) : ∀ (pre : List Nat) (s0 s : Int), crossRun f most s0 pre = (s, true) → crossRun f most s0 (pre ++ t) = (s, true)
  | [], s0, s, h => by simp [crossRun] at h
  | y :: r, s0, s, h => by
    unfold crossRun at h
    show crossRun f most s0 (y :: (r ++ t)) = _
    unfold crossRun
    split at h
    · rename_i hh
      rw [if_pos hh]; exact h
    · rename_i hh
      rw [if_neg hh]
      exact run_stop f most t r _ s h
theorem run_bd (f : Nat → Int) (most : Int) (L : Nat) (hf : ∀ x, 0 ≤ f x ∧ f x ≤ L) : ∀ (pre : List Nat) (s0 s : Int) (q : Bool), crossRun f most s0 pre = (s, q) → s0 ≤ s ∧ s ≤ s0 + (pre.length * L : Nat)
  | [], s0, s, q, h => by
    have : s0 = s := by simpa [crossRun] using (Prod.mk.inj h).1
    subst this; simp
  | y :: r, s0, s, q, h => by
    unfold crossRun at h
    have h1 := hf y
    have e : ((y :: r).length * L : Nat) = r.length * L + L := by rw [List.length_cons, Nat.add_mul, Nat.one_mul]
    rw [e]
    split at h
    · have := (Prod.mk.inj h).1
      omega
    · have := run_bd f most L hf r _ s q h
      omega

theorem tap_fst (Fp : Nat → Int) : ∀ (ls : List (List Int)) (i : Nat) (t : Nat × Int), t ∈ tapFrom Fp i ls → t.1 < i + ls.length
  | [], _, t, h => by cases h
  | c :: r, i, t, h => by
    unfold tapFrom at h
    rcases List.mem_append.1 h with h | h
    · obtain ⟨y, _, rfl⟩ := List.mem_map.1 h
      simp
    · have := tap_fst Fp r (i + 1) t h
      simp; omega
theorem tap_ok (Fp : Nat → Int) (ls : List (List Int)) (x : Nat) (h : 0 < (tapFrom Fp 0 ls).length) : ((tapFrom Fp 0 ls).getD x (0, 0)).1 < ls.length := by
  rw [List.getD_eq_getElem?_getD]
  by_cases hx : x < (tapFrom Fp 0 ls).length
  · rw [List.getElem?_eq_getElem hx]
    have := tap_fst Fp ls 0 _ (List.getElem_mem hx)
    simpa using this
  · rw [List.getElem?_eq_none (by omega)]
    cases ls with
    | nil => simp [tapFrom] at h
    | cons _ _ => simp
theorem Blk.grown {W W' : World} {row : Option Nat} {b : Nat} {t : TypeId} {cs : Array Value} (h : Blk W b t cs) (hg : W.grownBy W' row) (hr : ∀ r, row = some r → ∃ o : Obj, W.heap[r]? = some o ∧ o.isCells = false) : Blk W' b t cs := by
  refine (hg.block b h.lt fun e => ?_).trans h
  obtain ⟨o, h1, h2⟩ := hr b e.symm
  rw [show W.heap[b]? = some (.cells cs t (0, 0)) from h] at h1
  cases h1
  cases h2
theorem KeepAt.set {n0 bx : Nat} {A B : World} (h : KeepAt n0 bx A B) {b : Nat} (hb : n0 ≤ b) (hx : bx ≠ b) (i : Nat) (v : Value) : KeepAt n0 bx A (B.setCell ⟨b, i, none⟩ v) :=
  ⟨h.1.setCell (p := ⟨b, i, none⟩) hb _, (Below.heap_setCell B ⟨b, i, none⟩ v bx hx).trans h.2⟩

theorem below_drewN {B : Nat} {w w' : World} (h : Below B w w') (n : Nat) : Below B w (w'.drewN n) := ⟨h.os, h.tape, h.output, h.size, h.block⟩
theorem KeepAt.drewN {n0 bx : Nat} {A B : World} (h : KeepAt n0 bx A B) (n : Nat) : KeepAt n0 bx A (B.drewN n) := ⟨below_drewN h.1 n, h.2⟩
theorem others_drewN (W : World) (n : Nat) : KeepsOthers W (W.drewN n) := ⟨Nat.le_refl _, fun _ _ h _ => h⟩
def noDefer (l : List Oper) : Bool := l.all fun o => match o.op with | .defer _ => false | _ => true
theorem noDefer_at {l : List Oper} (h : noDefer l = true) {o : Oper} (ho : o ∈ l) (c : Call) : o.op ≠ .defer c := by
  intro e
  have := List.all_eq_true.1 h o ho
  simp only [e] at this
  cases this
section
variable {F : Fence} {n lp : Nat} {P : Program} {ops : Array Oper} {C : World → Prop}
theorem quietR_op {o : Oper} {a : Act} {K : Act → Prop} {K' : Act → World → Prop} {Q' : Exit → Act → World → Prop} {w : World} (hro : F.round = some lp) (hnd : ∀ c, o.op ≠ .defer c) (hw : C w) (h : ∀ a w', C w' → K a → K' a w')
    (ha : o.askedIn F P a C) (hh : o.quietIn F n P a C K) : o.wpIn F n P a w K' Q' := by
  obtain ⟨v, h1, h2⟩ := hh
  have h3 := h1 w hw
  unfold Oper.quietAtIn at h3
  unfold Oper.wpIn
  refine ⟨ha w hw, ?_⟩
  rw [hro, Oper.semAt_some _ _ _ hnd]
  generalize (execOp a.eval o).run P w = r at *
  cases r with
  | ok x w' =>
    cases x <;> simp only [Oper.quietUponIn] at h3 <;> simp only [Oper.uponIn]
    case value u =>
      obtain ⟨e1, e2⟩ := h3
      rw [e1, e2]
      exact h _ _ hw h2
    case skip =>
      obtain ⟨e1, e2⟩ := h3
      rw [e1, ← e2]
      exact h _ _ hw h2
    case enter f args =>
      obtain ⟨e1, hd, hc⟩ := h3
      rw [e1]
      exact ⟨hd, hc.mono fun e w'' ⟨he, hw''⟩ => by subst he; exact h _ _ hw'' h2⟩
  | halt x w' => simp only [Oper.quietUponIn] at h3
theorem quietR_at {i : Nat} {a : Act} {K : Act → Prop} {K' : Act → World → Prop} {Q' : Exit → Act → World → Prop} {w : World} (hro : F.round = some lp) (hnd : noDefer ops.toList = true) (hC : C w) (h : ∀ a w', C w' → K a → K' a w')
    (hh : qOpIn F n P ops C i K a) : wpOpIn F n P ops Q' i K' a w := by
  unfold qOpIn at hh
  unfold wpOpIn
  split
  · rename_i ho; simp only [ho] at hh; exact h _ _ hC hh
  · rename_i o ho
    simp only [ho] at hh
    obtain ⟨ha, hh⟩ := hh
    have hm : o ∈ ops.toList := by
      rw [← Array.mem_def]
      exact Array.mem_of_getElem? ho
    split
    · rename_i hw; simp only [hw, if_true] at hh; exact quietR_op hro (noDefer_at hnd hm) hC h ha hh
    · rename_i hw; simp only [hw] at hh; exact ⟨ha w hC, h _ _ hC hh⟩
theorem quietR_any {md : Region.Mode} {Q : Act → Prop} {Q' : Exit → Act → World → Prop} (hro : F.round = some lp) (hnd : noDefer ops.toList = true) (hQ : ∀ a w, C w → Q a → Q' .normal a w) : ∀ (fuel : Nat) (listed : Array Bool) (a : Act) (w : World), C w →
    wpAnyQIn F n P md ops C Q fuel listed a → wpAnyIn F n P md ops Q' fuel listed a w
  | 0, _, _, _, hw, h => ⟨h.1, hQ _ _ hw h.2⟩
  | fuel + 1, _, _, _, hw, h => ⟨fun h0 => hQ _ _ hw (h.1 h0), fun i hi => quietR_at hro hnd hw (fun a' w' hw' => quietR_any hro hnd hQ fuel _ a' w' hw') (h.2 i hi)⟩
theorem quietR_region {id : Nat} {Q : Exit → Act → World → Prop} {a : Act} {w : World} {l : List Oper} (hro : F.round = some lp) (hnd : noDefer l = true) (hm : P.follows .mixedOrders = true) (hB : Region.lexB .any l.toArray = true)
    (h : wpQuietIn F n P l.toArray (fun w' => ∃ n, w' = w.drewN n) (fun a' => ∀ w', (∃ n, w' = w.drewN n) → Q .normal a' w') l a) : (Code.region id l.toArray true).wpIn F n P Q a w := by
  simp only [Region.lexB, Bool.and_eq_true] at hB
  refine wpIn_region_any hm (quietR_any (C := fun w' => ∃ n, w' = w.drewN n) (Q := fun a' => ∀ w', (∃ n, w' = w.drewN n) → Q .normal a' w') hro hnd (fun _ w' hw' h => h w' hw') _ _ _ _ ⟨1, rfl⟩ ?_)
  have := wpAnyQIn_lex (F := F) (n := n) (C := fun w' => ∃ n, w' = w.drewN n) (md := .any) hB.1 l 0 (Array.replicate l.toArray.size false) a (by simp) (by simpa using hB.2) h
  simpa using this
end

set_option maxRecDepth 100000 in
set_option maxHeartbeats 8000000 in
theorem crossings_any (g : Nat) (A Ax A3 : Option Addr) (c cx c3 : Nat) (xs : List (Int × Int)) (ts : List Int) (Fp : Nat → Int) (l : List NetAt) (most : Int) (w : World) (h : RowAt w g (.slice A l.length c) Fp (.slice Ax xs.length cx)) (hr : Row w w.heap.size Ax (xcells xs)) (hN : NetsIn w w.heap.size A l)
    (hts : Row w w.heap.size A3 (ts.map (Value.int .i64))) (hxl : xs.length = l.length) (htl : ts.length = l.length) (hl : l.length ≤ 1000) (hc97 : ∀ x ∈ l, ∀ c ∈ x.cols, 0 ≤ c ∧ c < 97) (hT : (tapFrom Fp 0 (l.map NetAt.cols)).length ≤ 1000000) :
    Calls Tryz.prog 44 #[.pointer (some ⟨g, 0, none⟩), .slice A3 ts.length c3, .int .i64 most] w fun e w' =>
      e = .returned (.int .i64 (crossRun (tapF xs ts (tapFrom Fp 0 (l.map NetAt.cols))) most 0 (List.range (tapFrom Fp 0 (l.map NetAt.cols)).length)).1) ∧ Below w.heap.size w w' := by
  have HW := Lib.hid (⟨h, hr, hN, hts⟩ : RowAt w g (.slice A l.length c) Fp (.slice Ax xs.length cx) ∧ Row w w.heap.size Ax (xcells xs) ∧ NetsIn w w.heap.size A l ∧ Row w w.heap.size A3 (ts.map (Value.int .i64)))
  have hg := h.lt
  have HC := Lib.hid hc97
  obtain ⟨taps, htaps⟩ : ∃ taps, tapFrom Fp 0 (l.map NetAt.cols) = taps := ⟨_, rfl⟩
  rw [htaps] at hT ⊢
  have hok : ∀ x, 0 < taps.length → (taps.getD x (0, 0)).1 < l.length := fun x hx => by
    have := tap_ok Fp (l.map NetAt.cols) x (by rw [htaps]; exact hx)
    rw [htaps] at this
    simpa using this
  have hfb : ∀ x, 0 ≤ tapF xs ts taps x ∧ tapF xs ts taps x ≤ (l.length : Nat) := fun x => by
    have := crossUp_lo xs ts (taps.getD x (0, 0)).1 (taps.getD x (0, 0)).2 xs.length
    unfold tapF; omega
  obtain ⟨r, hr0⟩ : ∃ r, (crossRun (tapF xs ts taps) most 0 (List.range taps.length)).1 = r := ⟨_, rfl⟩
  rw [hr0]
  have HT := Lib.hid (⟨htaps, hr0, hok, hfb⟩ : tapFrom Fp 0 (l.map NetAt.cols) = taps ∧ (crossRun (tapF xs ts taps) most 0 (List.range taps.length)).1 = r ∧ (∀ x, 0 < taps.length → (taps.getD x (0, 0)).1 < l.length) ∧ ∀ x, 0 ≤ tapF xs ts taps x ∧ tapF xs ts taps x ≤ (l.length : Nat))
  clear htaps hr0 hok hfb
  clear h hr hN hts hc97
  have hmix : Tryz.prog.follows .mixedOrders = true := by kernel_rfl
  refine (callsIn_wide (n := 9)).1 ?_
  refine callsIn_of_wp_marks Tryz.func44 rfl trivial ?_ rfl
  simp only [Tryz.ntmps44, List.size_toArray, List.length_cons, List.length_nil, Nat.reduceAdd, Nat.reduceSub, Array.replicate_succ, Array.replicate_zero, List.push_toArray, List.append_toArray, List.nil_append, List.cons_append]
  gi_wp2_with (refine ⟨trivial, ?_⟩; gi_at_call 93; refine (callsIn_wide.2 (taps_any g _)).mono ?_; rintro e w5 ⟨bx, rfl, hb1, hb2, hb3, hb5⟩)
  obtain ⟨W4, hW4⟩ : ∃ W4, ((((w.alloc (.cells #[.pointer (some ⟨g, 0, none⟩)] 73)).alloc (.cells #[.slice A3 l.length c3] 24)).alloc (.cells #[.int .i64 most] 3)).alloc (.cells #[.int .i64 0] 3)) = W4 := ⟨_, rfl⟩
  have d3 : Blk W4 w.heap.size 73 #[.pointer (some ⟨g, 0, none⟩)] := by rw [← hW4]; exact (((Blk.new _ _ _).alloc _).alloc _).alloc _
  have d4 : Blk W4 (w.heap.size + 1) 24 #[.slice A3 l.length c3] := by rw [← hW4]; exact ((Blk.new' _ _ _ _ (by simp)).alloc _).alloc _
  have d5 : Blk W4 (w.heap.size + 1 + 1) 3 #[.int .i64 most] := by rw [← hW4]; exact (Blk.new' _ _ _ _ (by simp)).alloc _
  have d7 : Blk W4 (w.heap.size + 1 + 1 + 1) 3 #[.int .i64 0] := by rw [← hW4]; exact Blk.new' _ _ _ _ (by simp)
  have hB4 : Below w.heap.size w W4 := by rw [← hW4]; exact ((((Below.refl _ w).alloc (Nat.le_refl _) _).alloc (by simp) _).alloc (by simp; omega) _).alloc (by simp; omega) _
  have hs4 : W4.heap.size = w.heap.size + 1 + 1 + 1 + 1 := by rw [← hW4]; simp
  rw [hW4] at hb1 hb5
  clear hW4
  have e3 := d3.below hb5 (by omega)
  have e4 := d4.below hb5 (by omega)
  have e5 := d5.below hb5 (by omega)
  have e7 := d7.below hb5 (by omega)
  have hB5 : Below w.heap.size w w5 := below_after hB4 hb5 (by omega)
  clear d3 d4 d5 d7 hB4 hb5
  have hst := taps_stops Fence.wide (9 - 1) trivial rfl (by omega) bx w.heap.size g A c (.slice Ax xs.length cx) Fp l w5 hb3 hb2 hg (HW.out.1.below hB5) (HW.out.2.2.1.below hB5 (Nat.le_refl _)) HC.out hl hB5.size
  rw [HT.out.1] at hst
  refine wpIn_rangeFunc_ownF rfl (by omega) (gf := 133) (lb := #[.pointer (some ⟨bx, 0, none⟩)]) rfl trivial (enters_of Tryz.func133 (by kernel_rfl) rfl)
    hst (fun h1 h2 => h1.trans h2) (fun W lp o o' hl' h1 h2 h3 => ⟨belowK_b (w := w) (Nat.le_refl _) W lp o o' (by have := hB5.size; omega) h1 h2 h3, World.putObj_heap_other (by omega)⟩) (Below.refl _ _) (fun _ => rfl)
    (fun pre W => (∃ s, crossRun (tapF xs ts taps) most 0 pre = (s, false) ∧ Blk W w.heap.size 73 #[.pointer (some ⟨g, 0, none⟩)] ∧ Blk W (w.heap.size + 1) 24 #[.slice A3 l.length c3] ∧ Blk W (w.heap.size + 1 + 1) 3 #[.int .i64 most] ∧ Blk W (w.heap.size + 1 + 1 + 1) 3 #[.int .i64 s]) ∧ Below w.heap.size w W)
    (fun q pre W => (q = .exit 0 ∧ ∃ s, crossRun (tapF xs ts taps) most 0 pre = (s, true) ∧ Blk W (w.heap.size + 1 + 1 + 1) 3 #[.int .i64 s]) ∧ Below w.heap.size w W)
    (OwnFrom.and (Own.from (fun pre A B row hs hg hr => by obtain ⟨s, h1, h2, h3, h4, h5⟩ := hs; exact ⟨s, h1, h2.grown hg hr, h3.grown hg hr, h4.grown hg hr, h5.grown hg hr⟩) _) (ownFrom_below (Nat.le_refl _) hB5.size))
    (fun q => OwnFrom.and (Own.from (fun pre A B row hs hg hr => by obtain ⟨h0, s, h1, h2⟩ := hs; exact ⟨h0, s, h1, h2.grown hg hr⟩) _) (ownFrom_below (Nat.le_refl _) hB5.size))
    ⟨⟨0, rfl, e3, e4, e5, e7⟩, hB5⟩
    (fun x => { tmps := #[.pointer (some ⟨g, 0, none⟩), .slice A3 l.length c3, .int .i64 most, .pointer (some ⟨w.heap.size, 0, none⟩), .pointer (some ⟨w.heap.size + 1, 0, none⟩), .pointer (some ⟨w.heap.size + 1 + 1, 0, none⟩), .int .i64 0, .pointer (some ⟨w.heap.size + 1 + 1 + 1, 0, none⟩),
      .int .i64 ((taps.getD x (0, 0)).1 : Int), .int .i64 (taps.getD x (0, 0)).2, undef, .pointer (some ⟨g, 0, none⟩), .func (.func 133) #[] #[.pointer (some ⟨bx, 0, none⟩)], .int .i64 ((taps.getD x (0, 0)).1 : Int), .int .i64 (taps.getD x (0, 0)).2,
      undef, undef, undef, undef, undef, undef, undef, undef, undef, undef, undef, undef, undef, undef, undef, undef, undef, undef, undef, undef, undef, undef, undef, undef, undef, undef, undef, undef, undef, undef], defers := [] }) ?assign ?body ?done ?stop
  case assign =>
    intro lp x W K hK
    gi_wp2
    exact hK
  case body =>
    rintro lp pre x W ⟨⟨s, hs, f3, f4, f5, f7⟩, hB⟩ hlt
    have hsz := hB.size
    have hti := HT.out.2.2.1 x (by omega)
    have hbd := run_bd _ most l.length HT.out.2.2.2 pre 0 s false hs
    have hbd2 : pre.length * l.length ≤ 1000000 * 1000 := Nat.mul_le_mul (by omega) hl
    have hsn := Lib.hid (run_snoc (tapF xs ts taps) most x pre 0 s hs)
    have hfx := HT.out.2.2.2 x
    have htf : tapF xs ts taps x = crossUp xs ts (taps.getD x (0, 0)).1 (taps.getD x (0, 0)).2 xs.length := rfl
    rw [htf] at hsn hfx
    clear htf hs
    generalize taps.getD x (0, 0) = tp at *
    obtain ⟨ti, ta⟩ := tp
    simp only at hti hsn hfx ⊢
    have hrowW := HW.out.1.below hB
    obtain ⟨b2, off2, yi, hA3, hbB2, hyi, hci⟩ := HW.out.2.2.2.int ti (by omega)
    subst hA3
    have hciW := (hB.cell (p := ⟨b2, off2 + ti, none⟩) hbB2).trans hci
    have g0 := hrowW.nets
    have x3 := f3.cell 0
    have x4 := f4.cell 0
    have x5 := f5.cell 0
    have HCV := Lib.hid (fun (i : Nat) w' (hb : Below w.heap.size w w') (hi : i < xs.length) => covers_any g _ Fp Ax cx w.heap.size i ta xs w' (HW.out.1.below hb) (HW.out.2.1.below hb (Nat.le_refl _)) hi (by omega))
    gi_wp2
    gi_loopw [20] (fun i wr => ∃ k : Nat, k ≤ xs.length ∧ i = .int .i64 k ∧ Blk wr w.heap.size 73 #[.pointer (some ⟨g, 0, none⟩)] ∧ Blk wr (w.heap.size + 1) 24 #[.slice (some ⟨b2, off2, none⟩) l.length c3] ∧ Blk wr (w.heap.size + 1 + 1) 3 #[.int .i64 most] ∧
      Blk wr (w.heap.size + 1 + 1 + 1) 3 #[.int .i64 (s + crossUp xs ts ti ta k)] ∧ Below w.heap.size w wr ∧ KeepAt w.heap.size bx W wr ∧ KeepsOthers W wr) (fun i _ => xs.length - (intOf i).toNat)
    case atStart => exact ⟨0, Nat.zero_le _, rfl, f3, f4, f5, by show Blk W _ _ #[.int .i64 (s + 0)]; rw [Int.add_zero]; exact f7, hB, KeepAt.refl _ _ _, KeepsOthers.refl _⟩
    case round =>
      obtain ⟨k, hk, rfl, k3, k4, k5, k7, eb, ek, eo⟩ := hrel
      have hszr := eb.size
      have hu := crossUp_lo xs ts ti ta k
      by_cases hlk : k < xs.length
      · obtain ⟨b4, off4, yk, hA4, hbB4, hyk, hck⟩ := HW.out.2.2.2.int k (by omega)
        obtain ⟨rfl, rfl⟩ : b2 = b4 ∧ off2 = off4 := by injection hA4 with e; injection e with e1 e2; exact ⟨e1, e2⟩
        have hkk : (k : Int) < (l.length : Int) := by omega
        have hckr := (eb.cell (p := ⟨b2, off2 + k, none⟩) hbB4).trans hck
        have hcir := (eb.cell (p := ⟨b2, off2 + ti, none⟩) hbB2).trans hci
        have HS := Lib.hid (show crossUp xs ts ti ta (k + 1) = crossUp xs ts ti ta k + if decide (yk < yi) && covB xs k ta then 1 else 0 by
          show crossUp xs ts ti ta k + (if decide (ts.getD k 0 < ts.getD ti 0) && covB xs k ta then 1 else 0) = _
          rw [List.getD_eq_getElem?_getD, List.getD_eq_getElem?_getD, hyk, hyi]; rfl)
        have hcv := Lib.hid (fun j => HCV.out k (wr.drewN j) (below_drewN eb j) hlk)
        have m3 := k3.cell 0
        have m4 := k4.cell 0
        have m7 := k7.cell 0
        have n7 := k7.frozen 0
        clear hyk hck
        by_cases hlt2 : yk < yi
        · have hd2 : decide (yk < yi) = true := decide_eq_true hlt2
          rw [hd2, Bool.true_and] at HS
          generalize hcb : covB xs k ta = cb at *
          clear hcb
          have hcv2 : ∀ j, Calls Tryz.prog 63 #[.pointer (some ⟨g, 0, none⟩), .int .i64 (k : Int), .int .i64 ta] (wr.drewN j) fun e w' => e = .returned (.bool cb) ∧ w' = wr.drewN j := fun j => (hcv.out j).mono fun e w' h => ⟨h.1, h.2.symm⟩
          clear hcv
          gi_wp2
          refine quietR_region (lp := lp) rfl (by kernel_rfl) hmix (by kernel_rfl) ?_
          repeat (refine wpQuietIn_step (fun _ _ _ _ => True.intro) (fun K hK => ?_); go_simp; first | (refine hK _ ?_; clear hK K) | (apply Exists.intro; refine ⟨fun _ => ?_, hK _ ?_⟩; exact CallsIn.quiet_of_same (CallsIn.inRound lp (callsIn_wide.2 (hcv2 _))); clear hK K))
          refine wpQuietIn_nil ?_
          rintro _ ⟨nq, rfl⟩
          generalize hW2 : wr.drewN nq = W2
          have k3' : Blk W2 w.heap.size 73 #[.pointer (some ⟨g, 0, none⟩)] := by rw [← hW2]; exact k3.drewN nq
          have k4' : Blk W2 (w.heap.size + 1) 24 #[.slice (some ⟨b2, off2, none⟩) l.length c3] := by rw [← hW2]; exact k4.drewN nq
          have k5' : Blk W2 (w.heap.size + 1 + 1) 3 #[.int .i64 most] := by rw [← hW2]; exact k5.drewN nq
          have k7' : Blk W2 (w.heap.size + 1 + 1 + 1) 3 #[.int .i64 (s + crossUp xs ts ti ta k)] := by rw [← hW2]; exact k7.drewN nq
          have eb' : Below w.heap.size w W2 := by rw [← hW2]; exact below_drewN eb nq
          have ek' : KeepAt w.heap.size bx W W2 := by rw [← hW2]; exact ek.drewN nq
          have eo' : KeepsOthers W W2 := by rw [← hW2]; exact eo.trans (others_drewN wr nq)
          have m7 := k7'.cell 0
          have n7 := k7'.frozen 0
          clear hW2 k3 k4 k5 k7 eb ek eo hcv2 hckr hcir m3 m4
          cases cb
          · gi_wp2
            go_roundw
            case rel => exact ⟨k + 1, by omega, by go_num, k3', k4', k5', by rw [HS.out, if_neg Bool.false_ne_true, Int.add_zero]; exact k7', eb', ek', eo'⟩
            case measure => simp [intOf]; omega
          · gi_wp2
            go_roundw
            case rel => exact ⟨k + 1, by omega, by go_num, k3'.far (by show w.heap.size ≠ w.heap.size + 1 + 1 + 1; omega) _, k4'.far (by show w.heap.size + 1 ≠ w.heap.size + 1 + 1 + 1; omega) _, k5'.far (by show w.heap.size + 1 + 1 ≠ w.heap.size + 1 + 1 + 1; omega) _,
              by rw [HS.out, if_pos rfl, ← Int.add_assoc]; exact k7'.set 0 _, eb'.setCell (p := ⟨w.heap.size + 1 + 1 + 1, 0, none⟩) (by show w.heap.size ≤ w.heap.size + 1 + 1 + 1; omega) _, ek'.set (by omega) (by omega) 0 _, eo'.trans (KeepsOthers.setCell _ _ _)⟩
            case measure => simp [intOf]; omega
        · have hd2 : decide (yk < yi) = false := decide_eq_false hlt2
          rw [hd2, Bool.false_and] at HS
          gi_wp2
          refine quietR_region (lp := lp) rfl (by kernel_rfl) hmix (by kernel_rfl) ?_
          repeat (refine wpQuietIn_step (fun _ _ _ _ => True.intro) (fun K hK => ?_); go_simp; refine hK _ ?_; clear hK K)
          refine wpQuietIn_nil ?_
          rintro _ ⟨nq, rfl⟩
          gi_wp2
          go_roundw
          case rel => exact ⟨k + 1, by omega, by go_num, k3.drewN nq, k4.drewN nq, k5.drewN nq, by rw [HS.out, if_neg Bool.false_ne_true, Int.add_zero]; exact k7.drewN nq, below_drewN eb nq, ek.drewN nq, eo.trans (others_drewN wr nq)⟩
          case measure => simp [intOf]; omega
      · obtain rfl : k = xs.length := by omega
        have m5 := k5.cell 0
        have m7 := k7.cell 0
        rw [hxl] at m7
        have hfx2 := crossUp_lo xs ts ti ta l.length
        by_cases hmost : most < s + crossUp xs ts ti ta l.length
        · have hdm : decide (most < s + crossUp xs ts ti ta l.length) = true := decide_eq_true hmost
          gi_wp2
          exact ⟨eo, ⟨rfl, s + crossUp xs ts ti ta l.length, by rw [hsn.out, hxl, if_pos hmost], by rw [← hxl]; exact k7⟩, eb⟩
        · have hdm : decide (most < s + crossUp xs ts ti ta l.length) = false := decide_eq_false hmost
          gi_wp2
          exact ⟨eo, ek, ⟨s + crossUp xs ts ti ta l.length, by rw [hsn.out, hxl, if_neg (by omega)], k3, k4, k5, by rw [← hxl]; exact k7⟩, eb⟩
  case done =>
    rintro D ys W hD rfl ⟨⟨s, hs, f3, f4, f5, f7⟩, hB⟩ hK
    have e := HT.out.2.1
    rw [hs] at e
    obtain rfl : s = r := e
    have x7 := f7.cell 0
    gi_wp2
    refine ⟨by simp, .inl ⟨_, _, rfl, run_takeDeferred hK, ?_⟩⟩
    exact ⟨_, results_tmp rfl _ _ _, rfl, hB.trans (belowK_b (w := w) (Nat.le_refl _) W D _ _ (by have := hB5.size; omega) hK rfl rfl)⟩
  case stop =>
    rintro D q pre W hD hpre ⟨⟨rfl, s, hs, f7⟩, hB⟩ hK
    have e := HT.out.2.1
    obtain ⟨t, ht⟩ := hpre
    rw [← ht, run_stop _ _ t pre 0 s hs] at e
    obtain rfl : s = r := e
    have x7 := f7.cell 0
    gi_wp2
    refine ⟨by simp, .inl ⟨_, _, rfl, run_takeDeferred hK, ?_⟩⟩
    exact ⟨_, results_tmp rfl _ _ _, rfl, hB.trans (belowK_b (w := w) (Nat.le_refl _) W D _ _ (by have := hB5.size; omega) hK rfl rfl)⟩
end Go.Proofs.YtbldpojkpmafpaaGreatDoor

/- Package bus: the function that taps() gives, where the row that it reads lies behind what the rounds write. -/
namespace Go.Proofs.YtbldpojkpmafpaaGreatDoor
open Go.RowKit Go.Shelf
attribute [local go_sem] Oper.semAt_some

def KeepTwo (n0 bx g : Nat) (W W' : World) : Prop := Below n0 W W' ∧ W'.heap[bx]? = W.heap[bx]? ∧ W'.heap[g]? = W.heap[g]?
theorem KeepTwo.refl (n0 bx g : Nat) (W : World) : KeepTwo n0 bx g W W := ⟨Below.refl _ _, rfl, rfl⟩
theorem KeepTwo.trans {n0 bx g : Nat} {A B C : World} (h : KeepTwo n0 bx g A B) (h' : KeepTwo n0 bx g B C) : KeepTwo n0 bx g A C := ⟨h.1.trans h'.1, h'.2.1.trans h.2.1, h'.2.2.trans h.2.2⟩
theorem KeepTwo.new {n0 bx g : Nat} {A B : World} (h : KeepTwo n0 bx g A B) (hn : n0 ≤ A.heap.size) (hb : bx < A.heap.size) (hg : g < A.heap.size) (o : Obj) : KeepTwo n0 bx g A (B.alloc o) :=
  ⟨h.1.alloc (Nat.le_trans hn h.1.size) _, (Below.heap_alloc B o bx (Nat.lt_of_lt_of_le hb h.1.size)).trans h.2.1, (Below.heap_alloc B o g (Nat.lt_of_lt_of_le hg h.1.size)).trans h.2.2⟩

end Go.Proofs.YtbldpojkpmafpaaGreatDoor

/- Package bus: a table of rows in memory, and worlds in which its rows alone have turned. -/
namespace Go.Proofs.YtbldpojkpmafpaaGreatDoor
open Go.RowKit Go.Shelf

structure SameBut (S m : Nat) (rb : Nat → Nat) (W0 W : World) : Prop where
  os : W.os = W0.os
  tape : W.tape = W0.tape
  output : W.output = W0.output
  size : W0.heap.size ≤ W.heap.size
  block : ∀ b, b < S → (∀ j, j < m → b ≠ rb j) → W.heap[b]? = W0.heap[b]?
theorem SameBut.refl (S m : Nat) (rb : Nat → Nat) (W : World) : SameBut S m rb W W := ⟨rfl, rfl, rfl, Nat.le_refl _, fun _ _ _ => rfl⟩
theorem SameBut.drewN {S m : Nat} {rb : Nat → Nat} {W0 W : World} (h : SameBut S m rb W0 W) (n : Nat) : SameBut S m rb W0 (W.drewN n) := ⟨h.os, h.tape, h.output, h.size, h.block⟩
theorem SameBut.put {S m : Nat} {rb : Nat → Nat} {W0 W : World} (h : SameBut S m rb W0 W) {i : Nat} (hi : i < m) (j : Nat) (v : Value) : SameBut S m rb W0 (W.setCell ⟨rb i, j, none⟩ v) := by
  have hb := (Below.refl 0 W).setCell (p := ⟨rb i, j, none⟩) (Nat.zero_le _) v
  exact ⟨hb.os.trans h.os, hb.tape.trans h.tape, hb.output.trans h.output, Nat.le_trans h.size hb.size, fun b hS hn => (Below.heap_setCell W ⟨rb i, j, none⟩ v b (hn i hi)).trans (h.block b hS hn)⟩
theorem SameBut.grown {S m : Nat} {rb : Nat → Nat} {W0 W W' : World} {row : Option Nat} (h : SameBut S m rb W0 W) (hS : S ≤ W0.heap.size) (hg : W.grownBy W' row) (hr : ∀ r, row = some r → S ≤ r) : SameBut S m rb W0 W' :=
  ⟨hg.os.trans h.os, hg.tape.trans h.tape, hg.output.trans h.output, Nat.le_trans h.size hg.size, fun b hb hn => (hg.block b (by have := h.size; omega) (fun e => by have := hr b e.symm; omega)).trans (h.block b hb hn)⟩
theorem SameBut.below {S m : Nat} {rb : Nat → Nat} {W0 W : World} (h : SameBut S m rb W0 W) {B : Nat} (hB : B ≤ S) (hrb : ∀ j, j < m → B ≤ rb j) : Below B W0 W :=
  ⟨h.os, h.tape, h.output, h.size, fun k hk => h.block k (by omega) fun j hj => by have := hrb j hj; omega⟩
theorem SameBut.two {S m : Nat} {rb : Nat → Nat} {W0 A B : World} (h : SameBut S m rb W0 A) (k : SameBut S m rb W0 B) (hs : A.heap.size ≤ B.heap.size) {n bx g : Nat} (hn : n ≤ S) (hrb : ∀ j, j < m → n ≤ rb j) (hx : bx < S) (hxr : ∀ j, j < m → bx ≠ rb j) (hg : g < S) (hgr : ∀ j, j < m → g ≠ rb j) : KeepTwo n bx g A B :=
  ⟨⟨k.os.trans h.os.symm, k.tape.trans h.tape.symm, k.output.trans h.output.symm, hs, fun b hb => (k.block b (by omega) fun j hj => by have := hrb j hj; omega).trans (h.block b (by omega) fun j hj => by have := hrb j hj; omega).symm⟩,
    (k.block bx hx hxr).trans (h.block bx hx hxr).symm, (k.block g hg hgr).trans (h.block g hg hgr).symm⟩
theorem Blk.same {S m : Nat} {rb : Nat → Nat} {W0 W : World} (h : SameBut S m rb W0 W) {b : Nat} {t : TypeId} {cs : Array Value} (hb : Blk W0 b t cs) (hS : b < S) (hn : ∀ j, j < m → b ≠ rb j) : Blk W b t cs := (h.block b hS hn).trans hb

def TabIs (W : World) (us : List Int) (rb : Nat → Nat) (f : Int → Int → Int) : Prop :=
  ∀ j, j < us.length → Blk W (rb j) 3 (us.map fun b => Value.int .i64 (f (us.getD j 0) b)).toArray
theorem TabIs.drewN {W : World} {us : List Int} {rb : Nat → Nat} {f : Int → Int → Int} (h : TabIs W us rb f) (n : Nat) : TabIs (W.drewN n) us rb f := fun j hj => (h j hj).drewN n
theorem TabIs.grown {W W' : World} {us : List Int} {rb : Nat → Nat} {f : Int → Int → Int} {row : Option Nat} (h : TabIs W us rb f) (hg : W.grownBy W' row) (hr : ∀ r, row = some r → ∃ o : Obj, W.heap[r]? = some o ∧ o.isCells = false) : TabIs W' us rb f := fun j hj => (h j hj).grown hg hr
theorem TabIs.cell {W : World} {us : List Int} {rb : Nat → Nat} {f : Int → Int → Int} (h : TabIs W us rb f) {i j : Nat} (hi : i < us.length) (hj : j < us.length) : W.cell? ⟨rb i, j, none⟩ = some (.int .i64 (f (us.getD i 0) (us.getD j 0))) := by
  rw [(h i hi).cell j]
  simp [List.getD_eq_getElem?_getD, hi, hj]
end Go.Proofs.YtbldpojkpmafpaaGreatDoor

/-
  DERIVED: THE SHELF's CONTRACTS AT THIS DUMP, IN PLAIN WORDS (tools/lay-plain.mjs out of 'TryzShelf.lean', which tools/lay-shelf.mjs wrote): THE SAME DECLARATIONS UNDER THE SAME NAMES: 'import', 'namespace', 'open', 'def', 'theorem' AND NOTHING ELSE: no command of the shelf's: FOR A HAND-IN. Each laying: the table of numbers ('.._ren') and one theorem, a field a fact of the dump's own or the kernel's comparison; each contract: ONE APPLICATION.
-/
namespace Go.Proofs
open Go.Shelf
def Tryz.lays189_ren : Go.Shelf.Ren := ⟨fun | 189 => 66 | 125 => 116 | 257 => 115 | 128 => 159 | 129 => 160 | 294 => 150 | 295 => 151 | 296 => 152 | 297 => 153 | 298 => 154 | 299 => 155 | 216 => 156 | 300 => 157 | 301 => 158 | 328 => 199 | 329 => 200 | 330 => 201 | 331 => 202 | 332 => 203 | 215 => 132 | 343 => 242 | n => n, fun | 28 => 24 | 3 => 3 | 46 => 173 | 0 => 0 | 51 => 223 | 53 => 225 | 4 => 4 | 183 => 216 | 182 => 215 | 131 => 220 | 5 => 5 | 9 => 9 | 218 => 253 | 222 => 257 | 228 => 292 | 229 => 147 | n => n, fun | n => n⟩
theorem Tryz.lays189 : Go.Proofs.Lays.n189 Tryz.prog Tryz.lays189_ren := {
  mixed := by kernel_rfl
  f125 := Tryz.func116.trans (congrArg some (by kernel_rfl))
  f128 := Tryz.func159.trans (congrArg some (by kernel_rfl))
  f129 := Tryz.func160.trans (congrArg some (by kernel_rfl))
  f189 := Tryz.func66.trans (congrArg some (by kernel_rfl))
  f215 := Tryz.func132.trans (congrArg some (by kernel_rfl))
  f216 := Tryz.func156.trans (congrArg some (by kernel_rfl))
  f257 := Tryz.func115.trans (congrArg some (by kernel_rfl))
  f294 := Tryz.func150.trans (congrArg some (by kernel_rfl))
  f295 := Tryz.func151.trans (congrArg some (by kernel_rfl))
  f296 := Tryz.func152.trans (congrArg some (by kernel_rfl))
  f297 := Tryz.func153.trans (congrArg some (by kernel_rfl))
  f298 := Tryz.func154.trans (congrArg some (by kernel_rfl))
  f299 := Tryz.func155.trans (congrArg some (by kernel_rfl))
  f300 := Tryz.func157.trans (congrArg some (by kernel_rfl))
  f301 := Tryz.func158.trans (congrArg some (by kernel_rfl))
  f328 := Tryz.func199.trans (congrArg some (by kernel_rfl))
  f329 := Tryz.func200.trans (congrArg some (by kernel_rfl))
  f330 := Tryz.func201.trans (congrArg some (by kernel_rfl))
  f331 := Tryz.func202.trans (congrArg some (by kernel_rfl))
  f332 := Tryz.func203.trans (congrArg some (by kernel_rfl))
  f343 := Tryz.func242.trans (congrArg some (by kernel_rfl))
  t0 := Tryz.underlying0
  a0 := Tryz.isAgg0
  z0 := Tryz.sizeOf0
  v0 := Tryz.zeroValue0
  t3 := Tryz.underlying3
  a3 := Tryz.isAgg3
  z3 := Tryz.sizeOf3
  v3 := Tryz.zeroValue3
  t4 := Tryz.underlying4
  a4 := Tryz.isAgg4
  z4 := Tryz.sizeOf4
  v4 := Tryz.zeroValue4
  t5 := Tryz.underlying5
  a5 := Tryz.isAgg5
  z5 := Tryz.sizeOf5
  v5 := Tryz.zeroValue5
  t9 := Tryz.underlying9
  a9 := Tryz.isAgg9
  z9 := Tryz.sizeOf9
  v9 := Tryz.zeroValue9
  t28 := Tryz.underlying24
  a28 := Tryz.isAgg24
  z28 := Tryz.sizeOf24
  v28 := Tryz.zeroValue24
  t46 := Tryz.underlying173
  a46 := Tryz.isAgg173
  z46 := Tryz.sizeOf173
  v46 := Tryz.zeroValue173
  t51 := Tryz.underlying223
  a51 := Tryz.isAgg223
  z51 := Tryz.sizeOf223
  v51 := Tryz.zeroValue223
  t53 := Tryz.underlying225
  a53 := Tryz.isAgg225
  z53 := Tryz.sizeOf225
  v53 := Tryz.zeroValue225
  t131 := Tryz.underlying220
  a131 := Tryz.isAgg220
  z131 := Tryz.sizeOf220
  v131 := Tryz.zeroValue220
  t182 := Tryz.underlying215
  a182 := Tryz.isAgg215
  z182 := Tryz.sizeOf215
  v182 := Tryz.zeroValue215
  t183 := Tryz.underlying216
  a183 := Tryz.isAgg216
  z183 := Tryz.sizeOf216
  v183 := Tryz.zeroValue216
  t218 := Tryz.underlying253
  a218 := Tryz.isAgg253
  z218 := Tryz.sizeOf253
  v218 := Tryz.zeroValue253
  t222 := Tryz.underlying257
  a222 := Tryz.isAgg257
  z222 := Tryz.sizeOf257
  v222 := Tryz.zeroValue257
  t228 := Tryz.underlying292
  a228 := Tryz.isAgg292
  z228 := Tryz.sizeOf292
  v228 := Tryz.zeroValue292
  t229 := Tryz.underlying147
  a229 := Tryz.isAgg147
  z229 := Tryz.sizeOf147
  v229 := Tryz.zeroValue147 }
open Go.Sort Go.RowKit in
theorem Tryz.slices_Sort_int (blk off cap : Nat) (zs : List Int) (w : World) (hH : Holds (Value.int .i64) w blk off zs.toArray) (hblk : blk < w.heap.size) (hsz : zs.length < 4611686018427387904) :
    Calls Tryz.prog 66 #[.slice (some ⟨blk, off, none⟩) zs.length cap] w fun e w' =>
      e = .returned (.tuple #[]) ∧ ∃ n os, w' = grow (putRow (Value.int .i64) (Sort.ahead w n) blk off (zs.mergeSort fun x y => decide (x ≤ y)).toArray) os := Any.slices_Sort_int Tryz.lays189 blk off cap zs w hH hblk hsz
def Tryz.lays107_ren : Go.Shelf.Ren := ⟨fun | 107 => 137 | 108 => 61 | n => n, fun | 28 => 24 | 3 => 3 | 4 => 4 | 0 => 0 | n => n, fun | n => n⟩
def Tryz.lays112_ren : Go.Shelf.Ren := ⟨fun | 112 => 54 | n => n, fun | 28 => 24 | 3 => 3 | 4 => 4 | 0 => 0 | n => n, fun | n => n⟩
theorem Tryz.lays112 : Go.Proofs.Lays.n112 Tryz.prog Tryz.lays112_ren := {
  mixed := by kernel_rfl
  f112 := Tryz.func54.trans (congrArg some (by kernel_rfl))
  t0 := Tryz.underlying0
  a0 := Tryz.isAgg0
  z0 := Tryz.sizeOf0
  v0 := Tryz.zeroValue0
  t3 := Tryz.underlying3
  a3 := Tryz.isAgg3
  z3 := Tryz.sizeOf3
  v3 := Tryz.zeroValue3
  t4 := Tryz.underlying4
  a4 := Tryz.isAgg4
  z4 := Tryz.sizeOf4
  v4 := Tryz.zeroValue4
  t28 := Tryz.underlying24
  a28 := Tryz.isAgg24
  z28 := Tryz.sizeOf24
  v28 := Tryz.zeroValue24 }
open Go.RowKit Go.Lib Go.Sort in
theorem Tryz.slices_Reverse_int (blk off cap : Nat) (zs : List Int) (w : World) (hH : Holds (Value.int .i64) w blk off zs.toArray) (hsz : zs.length ≤ 9223372036854775807) :
    Calls Tryz.prog 54 #[.slice (some ⟨blk, off, none⟩) zs.length cap] w fun e w' => e = .returned (.tuple #[]) ∧ ∃ n, w' = putRow (Value.int .i64) (Sort.ahead w n) blk off zs.reverse.toArray := Any.slices_Reverse_int Tryz.lays112 blk off cap zs w hH hsz
open Go.RowKit Go.Lib Go.Sort in
theorem Tryz.slices_Reverse_int_empty (a : Option Addr) (cap : Nat) (w : World) :
    Calls Tryz.prog 54 #[.slice a 0 cap] w fun e w' => e = .returned (.tuple #[]) ∧ w' = w := Any.slices_Reverse_int_empty Tryz.lays112 a cap w
def Tryz.laysNm215_ren : Go.Shelf.Ren := ⟨fun | 15 => 53 | n => n, fun | 22 => 24 | 3 => 3 | 4 => 4 | n => n, fun | n => n⟩
theorem Tryz.laysNm215 : Go.Proofs.Lays2.n15 Tryz.prog Tryz.laysNm215_ren := {
  mixed := by kernel_rfl
  f15 := Tryz.func53.trans (congrArg some (by kernel_rfl))
  t3 := Tryz.underlying3
  a3 := Tryz.isAgg3
  z3 := Tryz.sizeOf3
  v3 := Tryz.zeroValue3
  t4 := Tryz.underlying4
  a4 := Tryz.isAgg4
  z4 := Tryz.sizeOf4
  v4 := Tryz.zeroValue4
  t22 := Tryz.underlying24
  a22 := Tryz.isAgg24
  z22 := Tryz.sizeOf24
  v22 := Tryz.zeroValue24
  i3 := by kernel_rfl }
open Go.RowKit Go.Lib in
theorem Tryz.slices_Clone_int (b off n c : Nat) (zs : List Int) (w : World) (hz : n ≤ zs.length) (hbig : n * 8 ≤ 140737488355328) (hc : ∀ j, j < zs.length → w.cell? ⟨b, off + j, none⟩ = some (.int .i64 (zs.getD j 0))) :
    Calls Tryz.prog 53 #[.slice (some ⟨b, off, none⟩) n c] w fun e w' => ∃ v', e = .returned v' ∧ w'.ownsRow w.heap.size 3 1 v' n ((zs.take n).map (Value.int .i64)) ∧ v' ≠ .slice none 0 0 ∧ Below w.heap.size w w' := Any.slices_Clone_int Tryz.laysNm215 b off n c zs w hz hbig hc
open Go.RowKit Go.Lib in
theorem Tryz.slices_Clone_int_nil (n c : Nat) (w : World) :
    Calls Tryz.prog 53 #[.slice none n c] w fun e w' => e = .returned (.slice none 0 0) ∧ w' = w := Any.slices_Clone_int_nil Tryz.laysNm215 n c w
open Go.RowKit Go.Lib in
theorem Tryz.slices_Clone_int_zero (a : Addr) (c : Nat) (w : World) :
    Calls Tryz.prog 53 #[.slice (some a) 0 c] w fun e w' => ∃ v', e = .returned v' ∧ w'.ownsRow w.heap.size 3 1 v' 0 [] ∧ v' ≠ .slice none 0 0 ∧ Below w.heap.size w w' := Any.slices_Clone_int_zero Tryz.laysNm215 a c w
def Tryz.laysNm220_ren : Go.Shelf.Ren := ⟨fun | 20 => 67 | n => n, fun | 22 => 24 | 3 => 3 | 4 => 4 | 0 => 0 | n => n, fun | n => n⟩
theorem Tryz.laysNm220 : Go.Proofs.Lays2.n20 Tryz.prog Tryz.laysNm220_ren := {
  mixed := by kernel_rfl
  f20 := Tryz.func67.trans (congrArg some (by kernel_rfl))
  t0 := Tryz.underlying0
  a0 := Tryz.isAgg0
  z0 := Tryz.sizeOf0
  v0 := Tryz.zeroValue0
  t3 := Tryz.underlying3
  a3 := Tryz.isAgg3
  z3 := Tryz.sizeOf3
  v3 := Tryz.zeroValue3
  t4 := Tryz.underlying4
  a4 := Tryz.isAgg4
  z4 := Tryz.sizeOf4
  v4 := Tryz.zeroValue4
  t22 := Tryz.underlying24
  a22 := Tryz.isAgg24
  z22 := Tryz.sizeOf24
  v22 := Tryz.zeroValue24
  i3 := by kernel_rfl }
open Go.RowKit Go.Lib Go.Sort in
theorem Tryz.slices_Compact_int (blk off cap : Nat) (zs : List Int) (w : World) (hH : Holds (Value.int .i64) w blk off zs.toArray) (hsz : zs.length ≤ 9223372036854775807) (hcap : zs.length ≤ cap) :
    Calls Tryz.prog 67 #[.slice (some ⟨blk, off, none⟩) zs.length cap] w fun e w' => e = .returned (.slice (some ⟨blk, off, none⟩) (Lib.compact zs).length cap) ∧ ∃ q, w' = putRow (Value.int .i64) (Sort.ahead w q) blk off (Lib.compact zs ++ List.replicate (zs.length - (Lib.compact zs).length) 0).toArray := Any.slices_Compact_int Tryz.laysNm220 blk off cap zs w hH hsz hcap
open Go.RowKit Go.Lib Go.Sort in
theorem Tryz.slices_Compact_int_empty (a : Option Addr) (cap : Nat) (w : World) :
    Calls Tryz.prog 67 #[.slice a 0 cap] w fun e w' => e = .returned (.slice a 0 cap) ∧ w' = w := Any.slices_Compact_int_empty Tryz.laysNm220 a cap w
open Go.RowKit Go.Sort in
theorem Tryz.slices_Sort_int_none (p : Option Addr) (cap : Nat) (w : World) :
    Calls Tryz.prog 66 #[.slice p 0 cap] w fun e w' => e = .returned (.tuple #[]) ∧ w' = w := Any.slices_Sort_int_none Tryz.lays189 p cap w
end Go.Proofs

/- Go's library on rows of integers, at nil too: Clone, Sort, Compact, Index, Reverse. -/
namespace Go.Proofs.YtbldpojkpmafpaaGreatDoor
open Go.RowKit

abbrev ic (l : List Int) : List Value := l.map (Value.int .i64)
theorem ownI_some {w : World} {base n : Nat} {v : Value} {xs : List Int} (h : w.ownsRow base 3 1 v n (ic xs)) : xs.length = n ∧ ((v = .slice none 0 0 ∧ n = 0) ∨ ∃ g cap cur, v = .slice (some ⟨g, 0, none⟩) n cap ∧ base ≤ g ∧ w.heap[g]? = some (.cells cur 3 (0, 0)) ∧ n ≤ cap ∧ cap ≤ maxLen ∧ cur.size = cap ∧ cur.toList.take n = ic xs) := by
  obtain ⟨h1, h2⟩ := h
  simp only [Nat.mul_one, List.length_map] at h1 h2
  exact ⟨h1, h2⟩
theorem own_holds {w : World} {g n : Nat} {cur : Array Value} {xs : List Int} (hg : w.heap[g]? = some (.cells cur 3 (0, 0))) (ht : cur.toList.take n = ic xs) : Sort.Holds (Value.int .i64) w g 0 xs.toArray := fun j hj => by
  have hj : j < xs.length := by simpa using hj
  refine ⟨?_, ?_⟩
  · rw [Nat.zero_add, cell_of_row w g j cur _ _ hg]
    have h1 : (cur.toList.take n)[j]? = some (Value.int .i64 xs[j]) := by rw [ht]; simp [hj]
    rw [List.getElem?_take] at h1
    split at h1
    · simpa [hj] using h1
    · cases h1
  · simp [World.frozen?, hg]
theorem putRow_at {w : World} {g n : Nat} {cur : Array Value} {xs ys : List Int} (hg : w.heap[g]? = some (.cells cur 3 (0, 0))) (ht : cur.toList.take n = ic xs) (hl : ys.length = xs.length) (q : Nat) :
    (Sort.putRow (Value.int .i64) (Sort.ahead w q) g 0 ys.toArray).heap[g]? = some (.cells (Sort.putCells (Value.int .i64) 0 ys.toArray cur) 3 (0, 0)) ∧ (Sort.putCells (Value.int .i64) 0 ys.toArray cur).size = cur.size ∧ (Sort.putCells (Value.int .i64) 0 ys.toArray cur).toList.take ys.length = ic ys := by
  refine ⟨?_, by simp [Sort.putCells], ?_⟩
  · show (w.heap.modify g (Sort.onCells _))[g]? = _
    rw [Array.getElem?_modify, if_pos rfl, hg]; rfl
  · have hlen : ys.length ≤ cur.size := by
      have h1 := congrArg List.length ht
      simp at h1; omega
    apply List.ext_getElem?
    intro j
    rw [List.getElem?_take]
    by_cases hj : j < ys.length
    · rw [if_pos hj, Array.getElem?_toList]
      have hc : j < cur.size := by omega
      simp [Sort.putCells, hj, hc]
    · rw [if_neg hj, List.getElem?_eq_none (by simpa using hj)]
theorem putRow_grown {w : World} {g q : Nat} {d : Array Int} : w.grownBy (Sort.putRow (Value.int .i64) (Sort.ahead w q) g 0 d) (some g) :=
  ⟨rfl, rfl, rfl, Nat.le_of_eq (by simp), fun k _ hk => by
    show (w.heap.modify g (Sort.onCells _))[k]? = _
    rw [Array.getElem?_modify, if_neg (fun e => hk (by rw [e]))]⟩
theorem grown_refl (w : World) (r : Option Nat) : w.grownBy w r := ⟨rfl, rfl, rfl, Nat.le_refl _, fun _ _ _ => rfl⟩
theorem grown_grow {w w' : World} {r : Option Nat} (h : w.grownBy w' r) (os : Array Obj) : w.grownBy (Sort.grow w' os) r :=
  ⟨h.os, h.tape, h.output, Nat.le_trans h.size (by simp), fun k hk hn => (Sort.heap_grow_old w' os (Nat.lt_of_lt_of_le hk h.size)).trans (h.block k hk hn)⟩
theorem clone_any (A : Option Addr) (c B : Nat) (xs : List Int) (w : World) (h : Row w B A (ic xs)) (hl : xs.length ≤ 1000000) :
    Calls Tryz.prog 53 #[.slice A xs.length c] w fun e w' => ∃ v, e = .returned v ∧ w'.ownsRow w.heap.size 3 1 v xs.length (ic xs) ∧ Below w.heap.size w w' := by
  rcases h with h | ⟨b, off, rfl, _, hc⟩
  · obtain rfl : xs = [] := List.map_eq_nil_iff.1 h
    cases A with
    | none => exact (Tryz.slices_Clone_int_nil 0 c w).mono fun e w' ⟨h1, h2⟩ => by subst h2; exact ⟨_, h1, ⟨rfl, .inl ⟨rfl, rfl⟩⟩, Below.refl _ _⟩
    | some a => exact (Tryz.slices_Clone_int_zero a c w).mono fun e w' ⟨v, h1, h2, _, h3⟩ => ⟨v, h1, h2, h3⟩
  · refine (Tryz.slices_Clone_int b off xs.length c xs w (Nat.le_refl _) (by omega) fun j hj => ?_).mono fun e w' ⟨v, h1, h2, _, h3⟩ => ⟨v, h1, ?_, h3⟩
    · rw [hc j (by simpa using hj)]
      simp [List.getD_eq_getElem?_getD, hj]
    · rw [List.take_length] at h2; exact h2
theorem sort_any (base n : Nat) (v : Value) (xs : List Int) (w : World) (h : w.ownsRow base 3 1 v n (ic xs)) (hl : xs.length ≤ 1000000) :
    Calls Tryz.prog 66 #[v] w fun e w' => e = .returned (.tuple #[]) ∧ w'.ownsRow base 3 1 v n (ic (xs.mergeSort fun x y => decide (x ≤ y))) ∧ w.grownBy w' v.ownBlock := by
  obtain ⟨h0, h1⟩ := ownI_some h
  rcases h1 with ⟨rfl, rfl⟩ | ⟨g, cap, cur, rfl, hbg, hg, hn, hcap, hcs, ht⟩
  · obtain rfl : xs = [] := List.length_eq_zero_iff.1 h0
    exact (Tryz.slices_Sort_int_none none 0 w).mono fun e w' ⟨h1, h2⟩ => by subst h2; exact ⟨h1, by simpa using h, grown_refl _ _⟩
  · subst h0
    have hgl : g < w.heap.size := (Array.getElem?_eq_some_iff.1 hg).1
    refine (Tryz.slices_Sort_int g 0 cap xs w (own_holds hg ht) hgl (by omega)).mono fun e w' ⟨h1, q, os, h2⟩ => ?_
    subst h2
    have hl2 : (xs.mergeSort fun x y => decide (x ≤ y)).length = xs.length := List.length_mergeSort _
    obtain ⟨p1, p2, p3⟩ := putRow_at hg ht hl2 q
    refine ⟨h1, ⟨by simp [hl2], .inr ⟨g, cap, _, rfl, hbg, (Sort.heap_grow_old _ os (by simpa using hgl)).trans p1, hn, hcap, by rw [p2, hcs, Nat.mul_one], ?_⟩⟩, grown_grow putRow_grown os⟩
    rw [Nat.mul_one, ← hl2]; exact p3
theorem compact_any (base n : Nat) (v : Value) (xs : List Int) (w : World) (h : w.ownsRow base 3 1 v n (ic xs)) (hl : xs.length ≤ 1000000) :
    Calls Tryz.prog 67 #[v] w fun e w' => ∃ v', e = .returned v' ∧ w'.ownsRow base 3 1 v' (Lib.compact xs).length (ic (Lib.compact xs)) ∧ w.grownBy w' v.ownBlock := by
  obtain ⟨h0, h1⟩ := ownI_some h
  rcases h1 with ⟨rfl, rfl⟩ | ⟨g, cap, cur, rfl, hbg, hg, hn, hcap, hcs, ht⟩
  · obtain rfl : xs = [] := List.length_eq_zero_iff.1 h0
    exact (Tryz.slices_Compact_int_empty none 0 w).mono fun e w' ⟨h1, h2⟩ => by subst h2; exact ⟨_, h1, ⟨rfl, .inl ⟨rfl, rfl⟩⟩, grown_refl _ _⟩
  · subst h0
    have hcl : (Lib.compact xs).length ≤ xs.length := Lib.compact_length_le xs
    refine (Tryz.slices_Compact_int g 0 cap xs w (own_holds hg ht) (by omega) hn).mono fun e w' ⟨h1, q, h2⟩ => ?_
    subst h2
    obtain ⟨p1, p2, p3⟩ := putRow_at (ys := Lib.compact xs ++ List.replicate (xs.length - (Lib.compact xs).length) 0) hg ht (by simp; omega) q
    refine ⟨_, h1, ⟨by simp, .inr ⟨g, cap, _, rfl, hbg, p1, by omega, hcap, by rw [p2, hcs, Nat.mul_one], ?_⟩⟩, putRow_grown⟩
    have h3 := congrArg (List.take (Lib.compact xs).length) p3
    rw [List.take_take, Nat.min_eq_left (by simp)] at h3
    rw [Nat.mul_one, h3]
    simp [ic]
theorem reverse_any (base n : Nat) (v : Value) (xs : List Int) (w : World) (h : w.ownsRow base 3 1 v n (ic xs)) (hl : xs.length ≤ 1000000) :
    Calls Tryz.prog 54 #[v] w fun e w' => e = .returned (.tuple #[]) ∧ w'.ownsRow base 3 1 v n (ic xs.reverse) ∧ w.grownBy w' v.ownBlock := by
  obtain ⟨h0, h1⟩ := ownI_some h
  rcases h1 with ⟨rfl, rfl⟩ | ⟨g, cap, cur, rfl, hbg, hg, hn, hcap, hcs, ht⟩
  · obtain rfl : xs = [] := List.length_eq_zero_iff.1 h0
    exact (Tryz.slices_Reverse_int_empty none 0 w).mono fun e w' ⟨h1, h2⟩ => by subst h2; exact ⟨h1, by simpa using h, grown_refl _ _⟩
  · subst h0
    refine (Tryz.slices_Reverse_int g 0 cap xs w (own_holds hg ht) (by omega)).mono fun e w' ⟨h1, q, h2⟩ => ?_
    subst h2
    obtain ⟨p1, p2, p3⟩ := putRow_at (ys := xs.reverse) hg ht (by simp) q
    refine ⟨h1, ⟨by simp, .inr ⟨g, cap, _, rfl, hbg, p1, hn, hcap, by rw [p2, hcs, Nat.mul_one], ?_⟩⟩, putRow_grown⟩
    rw [Nat.mul_one]
    simpa using p3
end Go.Proofs.YtbldpojkpmafpaaGreatDoor

/- A region that draws its order in a round, whose last operation writes: once, in the order of the text. -/
namespace Go.Proofs.YtbldpojkpmafpaaGreatDoor
open Go.RowKit Go.Shelf

def backB (md : Region.Mode) (ops : Array Oper) : Bool := (List.range ops.size).all fun j => match ops[j]? with | some o => o.after.all fun e => !Region.binds md e || decide (e.on < j) | none => true
section
variable {F : Fence} {n lp : Nat} {P : Program} {ops ops' : Array Oper} {C : World → Prop} {md : Region.Mode} {m : Nat} {o o' : Oper}
structure LastOf (md : Region.Mode) (ops ops' : Array Oper) (m : Nat) (o o' : Oper) : Prop where
  sz : ops.size = m + 1
  sz' : ops'.size = m + 1
  eq : ∀ i, i < m → ops'[i]? = ops[i]?
  at' : ops[m]? = some o
  at2 : ops'[m]? = some o'
  after : o'.after = o.after
  dst : o.dst = none
  dst' : o'.dst = none
  guard : o.guard = none
  sink : Region.sinkB md ops m = true
  chain : Region.chainB md ops m = true
  back : backB md ops = true
theorem LastOf.ready (h : LastOf md ops ops' m o o') (listed : Array Bool) : Region.ready md ops' listed = Region.ready md ops listed := by
  unfold Region.ready
  rw [h.sz, h.sz']
  refine List.filter_congr fun i hi => ?_
  have hi := List.mem_range.1 hi
  by_cases e : i = m
  · subst e
    rw [h.at', h.at2]
    simp only [Option.map_some, h.after]
  · rw [h.eq i (by omega)]
theorem LastOf.done (h : LastOf md ops ops' m o o') {listed : Array Bool} (inv : HeadInv md ops m listed) (hm : m ∈ Region.ready md ops listed) : Region.ready md ops (listed.setIfInBounds m true) = [] := by
  refine List.eq_nil_iff_forall_not_mem.2 fun k hk => ?_
  obtain ⟨h1, ok, hok, _⟩ := mem_ready.1 hk
  have hkm : k < m + 1 := by have := (Array.getElem?_eq_some_iff.1 hok).1; rw [h.sz] at this; exact this
  by_cases e : k = m
  · subst e
    have hs : k < listed.size := by rw [inv.size, h.sz]; omega
    simp [hs] at h1
  · rw [getD_set_ne true (fun g => e g.symm)] at h1
    exact tail_waits h.sink h.chain (by rw [h.sz]; omega) inv (m - k) k rfl (by omega) h1 m (Nat.le_refl _) hm
end
end Go.Proofs.YtbldpojkpmafpaaGreatDoor

/- Rows of the walk's own: facts. -/
namespace Go.Proofs.YtbldpojkpmafpaaGreatDoor
open Go.RowKit
theorem own_apart {w : World} {base size n c : Nat} {e : TypeId} {U : Option Addr} {vs : List Value} (h : w.ownsRow base e size (.slice U n c) n vs) {b : Nat} (hb : b < base ∨ w.heap.size ≤ b) : some b ≠ (Value.slice U n c).ownBlock := by
  rcases h.2 with ⟨hv, _⟩ | ⟨g, cap, cur, hv, hbg, hg, _⟩
  · cases hv; intro h; cases h
  · cases hv
    have hgl : g < w.heap.size := (Array.getElem?_eq_some_iff.1 hg).1
    intro h
    have h : some b = some g := h
    injection h with h
    omega
theorem own_keep {w w' : World} {base size n : Nat} {e : TypeId} {v : Value} {vs : List Value} (h : w.ownsRow base e size v n vs) (hk : ∀ b, some b = v.ownBlock → w'.heap[b]? = w.heap[b]?) : w'.ownsRow base e size v n vs := by
  refine ⟨h.1, ?_⟩
  rcases h.2 with hn | ⟨g, cap, cur, rfl, hbg, hg, rest⟩
  · exact .inl hn
  · exact .inr ⟨g, cap, cur, rfl, hbg, (hk g rfl).trans hg, rest⟩
theorem own_base {w : World} {base base' size n : Nat} {e : TypeId} {v : Value} {vs : List Value} (h : w.ownsRow base e size v n vs) (hb : base' ≤ base) : w.ownsRow base' e size v n vs := by
  refine ⟨h.1, ?_⟩
  rcases h.2 with hn | ⟨g, cap, cur, rfl, hbg, hg, rest⟩
  · exact .inl hn
  · exact .inr ⟨g, cap, cur, rfl, by omega, hg, rest⟩
theorem own_alloc {w : World} {base size n : Nat} {e : TypeId} {v : Value} {vs : List Value} (h : w.ownsRow base e size v n vs) (o : Obj) : (w.alloc o).ownsRow base e size v n vs := by
  refine ⟨h.1, ?_⟩
  rcases h.2 with hn | ⟨g, cap, cur, rfl, hbg, hg, rest⟩
  · exact .inl hn
  · exact .inr ⟨g, cap, cur, rfl, hbg, (Below.heap_alloc w o g (Array.getElem?_eq_some_iff.1 hg).1).trans hg, rest⟩
theorem own_low {W : World} {base size n c : Nat} {e : TypeId} {A : Option Addr} {vs : List Value} (h : W.ownsRow base e size (.slice A n c) n vs) {b : Nat} (hb : some b = (Value.slice A n c).ownBlock) : base ≤ b ∧ b < W.heap.size := by
  constructor
  · rcases Nat.lt_or_ge b base with g | g
    · exact absurd hb (own_apart h (.inl g))
    · exact g
  · rcases Nat.lt_or_ge b W.heap.size with g | g
    · exact g
    · exact absurd hb (own_apart h (.inr g))
end Go.Proofs.YtbldpojkpmafpaaGreatDoor
