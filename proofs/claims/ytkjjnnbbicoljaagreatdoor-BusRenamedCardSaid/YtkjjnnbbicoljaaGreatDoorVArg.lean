/- integraphlaw07.BusTracks on arguments that lie in a world. -/
import Derived.Test.YtkjjnnbbicoljaaGreatDoorVLaw
namespace Go.Proofs.YtkjjnnbbicoljaaGreatDoor
open Go.RowKit Sv
def inF (w : World) : Env := ⟨fun i => if i < 64 then some (i, 0) else none, fun b => if 0 ≤ b then cellsOf? w b else none⟩
theorem inF_ok (w : World) : OkF w (inF w) := by
  refine ⟨fun i x h => ?_, fun g hg => ⟨0, if_pos hg⟩, fun b A h => ?_⟩
  · have h : (if i < 64 then some (i, 0) else none) = some x := h
    split at h
    · assumption
    · cases h
  · have h : (if 0 ≤ b then cellsOf? w b else none) = some A := h
    rw [if_pos (Nat.zero_le _)] at h
    exact cellsOf?_some.1 h
theorem row_den {w : World} {t : Ty} {xs : List t.den} {ys : List Value} {A : Option Addr} {c : Nat} (h : Row w w.heap.size A ys) (hd : Dens (inF w) (t.flat xs) ys) (hs : 1 ≤ t.size) (hc : xs.length ≤ c) : Den (inF w) (.lst false t xs) (.slice A xs.length c) := by
  have hlen := hd.length
  rw [t.flat_len] at hlen
  rcases h with h | ⟨b, off, rfl, hlt, hcs⟩
  · subst h
    have h0 : xs.length * t.size = 0 := hlen.symm
    have hx : xs = [] := List.length_eq_zero_iff.1 (by
      rcases Nat.mul_eq_zero.1 h0 with h | h
      · exact h
      · omega)
    subst hx
    exact .lstNil fun e => by cases e
  · by_cases hy : ys = []
    · subst hy
      have h0 : xs.length * t.size = 0 := hlen.symm
      have hx : xs = [] := List.length_eq_zero_iff.1 (by
        rcases Nat.mul_eq_zero.1 h0 with h | h
        · exact h
        · omega)
      subst hx
      exact .lstNil fun e => by cases e
    have hpos : 0 < ys.length := List.length_pos_iff.2 hy
    have h0 := hcs 0 hpos
    cases ho : w.heap[b]? with
    | none => simp [World.cell?, ho] at h0
    | some o =>
      cases o with
      | cells Arr e fr =>
        have hall : ∀ i (hi : i < ys.length), Arr[off + i]? = some ys[i] := fun i hi => by
          have := hcs i hi
          rw [cell_of ho] at this
          rw [this]
          simp [List.getD_eq_getElem?_getD, List.getElem?_eq_getElem hi]
        have hsz : off + ys.length ≤ Arr.size := by
          have := hall (ys.length - 1) (by omega)
          have := (Array.getElem?_eq_some_iff.1 this).1
          omega
        have hfl : (t.flat xs).length = ys.length := hd.length.symm
        have hys : (Arr.toList.drop off).take (t.flat xs).length = ys := by
          rw [hfl]
          apply List.ext_getElem?
          intro i
          rw [List.getElem?_take]
          by_cases hi : i < ys.length
          · rw [if_pos hi, List.getElem?_drop, Array.getElem?_toList, hall i hi, List.getElem?_eq_getElem hi]
          · rw [if_neg hi, List.getElem?_eq_none (by omega)]
        refine .lst (A := Arr) (b := b) (off := off) ?_ (by rw [hfl]; exact hsz) hys hd hc fun e => by cases e
        show (if 0 ≤ b then cellsOf? w b else none) = some Arr
        rw [if_pos (Nat.zero_le _)]; exact cellsOf?_some.2 ⟨e, fr, ho⟩
      | _ => simp [World.cell?, ho] at h0
theorem in_ints {w : World} {xs : List Int} {A : Option Addr} {c : Nat} (h : Row w w.heap.size A (xs.map (Value.int .i64))) (hc : xs.length ≤ c) : Den (inF w) (.lst false tInt xs) (.slice A xs.length c) :=
  row_den h (by rw [flat_ints]; exact Dens.raws _) (Nat.le_refl _) hc
theorem in_nets {w : World} : ∀ {l : List NetAt}, (∀ n ∈ l, Row w w.heap.size n.loc (n.cols.map (Value.int .i64))) → (∀ n ∈ l, n.cols.length ≤ n.cap) → Dens (inF w) (Ty.flat tNet (l.map NetAt.net)) (ncells l)
  | [], _, _ => .nil
  | n :: l, h, hc => by
    have e : Ty.flat tNet ((n :: l).map NetAt.net) = .raw (.int .i64 n.sh) :: .lst false tInt n.cols :: Ty.flat tNet (l.map NetAt.net) := rfl
    rw [e]
    exact .cons (.raw _) (.cons (in_ints (h n List.mem_cons_self) (hc n List.mem_cons_self)) (in_nets (fun m hm => h m (List.mem_cons_of_mem _ hm)) fun m hm => hc m (List.mem_cons_of_mem _ hm)))
theorem tracks_walk (A A2 : Option Addr) (c c2 : Nat) (l : List NetAt) (order : List Int) (n : Int) (w : World) (h : NetsIn w w.heap.size A l) (h2 : Row w w.heap.size A2 (order.map (Value.int .i64))) (hi : ∀ c ∈ order, I64 c)
    (hc : l.length ≤ c) (hcap : ∀ q ∈ l, q.cols.length ≤ q.cap) (hc2 : order.length ≤ c2) :
    Calls Tryz.prog 3 #[.slice A l.length c, .int .i64 n, .slice A2 order.length c2] w fun e w' => e = .returned (.bool true) ∧ Below w.heap.size w w' := by
  have hg : goodB (l.map NetAt.net) = true := goodB_iff.2 fun x hx => by
    obtain ⟨q, hq, rfl⟩ := List.mem_map.1 hx
    exact ⟨h.ints q hq, h.few q hq⟩
  have hN : Den (inF w) (.lst false tNet (l.map NetAt.net)) (.slice A l.length c) := by
    have := row_den (t := tNet) (xs := l.map NetAt.net) h.row (in_nets h.cols hcap) (by decide) (by rw [List.length_map]; exact hc)
    rwa [List.length_map] at this
  refine (law_holds (l.map NetAt.net) n order hg hi w (inF w) [.slice A l.length c, .int .i64 n, .slice A2 order.length c2] (inF_ok w) (.cons hN (.cons (.raw _) (.cons (in_ints h2 hc2) .nil)))).mono fun e w' ⟨x, F', h1, h2, _, _, h5⟩ => ?_
  rw [h2.raw_eq] at h1
  exact ⟨h1, h5⟩
end Go.Proofs.YtkjjnnbbicoljaaGreatDoor

/- Arguments that lie in a world, as plain data; a law that holds for them. -/
namespace Go.Proofs.YtkjjnnbbicoljaaGreatDoor
open Go.RowKit Sv
structure Arg.Nets (w : World) (A : Option Addr) (c : Nat) (l : List NetAt) : Prop where
  good : goodB (l.map NetAt.net) = true
  den : Den (inF w) (nv (l.map NetAt.net)) (.slice A l.length c)
structure Arg.Ints (w : World) (A : Option Addr) (c : Nat) (xs : List Int) : Prop where
  good : ∀ x ∈ xs, I64 x
  den : Den (inF w) (lv xs) (.slice A xs.length c)
structure Arg.Lay (w : World) (A B : Option Addr) (c e : Nat) (xs ys : List Int) : Prop where
  good : ∀ x ∈ xs, I64 x
  good2 : ∀ x ∈ ys, I64 x
  few : xs.length ≤ 140737488355328
  few2 : ys.length ≤ 140737488355328
  den : Den (inF w) (.agg [lv xs, lv ys]) (.agg #[.slice A xs.length c, .slice B ys.length e])
theorem Arg.nets {w : World} {A : Option Addr} {c : Nat} {l : List NetAt} (h : NetsIn w w.heap.size A l) (hcap : ∀ q ∈ l, q.cols.length ≤ q.cap) (hc : l.length ≤ c) : Arg.Nets w A c l := by
  refine ⟨goodB_iff.2 fun x hx => ?_, ?_⟩
  · obtain ⟨q, hq, rfl⟩ := List.mem_map.1 hx
    exact ⟨h.ints q hq, h.few q hq⟩
  · have := row_den (t := tNet) (xs := l.map NetAt.net) h.row (in_nets h.cols hcap) (by decide) (by rw [List.length_map]; exact hc)
    rwa [List.length_map] at this
theorem Arg.ints {w : World} {A : Option Addr} {c : Nat} {xs : List Int} (h : Row w w.heap.size A (xs.map (Value.int .i64))) (hi : ∀ x ∈ xs, I64 x) (hc : xs.length ≤ c) : Arg.Ints w A c xs := ⟨hi, in_ints h hc⟩
theorem Arg.lay {w : World} {A B : Option Addr} {c e : Nat} {xs ys : List Int} (h : Row w w.heap.size A (xs.map (Value.int .i64))) (h2 : Row w w.heap.size B (ys.map (Value.int .i64))) (hi : ∀ x ∈ xs, I64 x) (hj : ∀ x ∈ ys, I64 x) (hc : xs.length ≤ c) (he : ys.length ≤ e)
    (hl : xs.length ≤ 140737488355328) (hm : ys.length ≤ 140737488355328) : Arg.Lay w A B c e xs ys := ⟨hi, hj, hl, hm, .agg (.cons (in_ints h hc) (.cons (in_ints h2 he) .nil))⟩
theorem call_true {f : FuncId} {args : List AV} (h : Holds Tryz.prog true f args (bv true)) {w : World} {vs : List Value} (hd : Dens (inF w) args vs) : Calls Tryz.prog f vs.toArray w fun e w' => e = .returned (.bool true) ∧ Below w.heap.size w w' :=
  (h w (inF w) vs (inF_ok w) hd).mono fun e w' ⟨x, F', h1, h2, _, _, h5⟩ => by
    rw [h2.raw_eq] at h1
    exact ⟨h1, h5⟩
theorem tracks_true {w : World} {A A2 : Option Addr} {c c2 : Nat} {l : List NetAt} {xs : List Int} (h0 : Arg.Nets w A c l) (n : Int) (h2 : Arg.Ints w A2 c2 xs) :
    Calls Tryz.prog 3 #[.slice A l.length c, .int .i64 n, .slice A2 xs.length c2] w fun e w' => e = .returned (.bool true) ∧ Below w.heap.size w w' :=
  call_true (law_holds _ n xs h0.good h2.good) (.cons h0.den (.cons (.raw _) (.cons h2.den .nil)))
end Go.Proofs.YtkjjnnbbicoljaaGreatDoor
