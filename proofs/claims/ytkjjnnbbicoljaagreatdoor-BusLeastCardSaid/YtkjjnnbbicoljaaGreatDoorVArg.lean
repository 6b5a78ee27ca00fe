/- Arguments that lie in a world, as plain data; a law that holds for them. -/
import Derived.Test.YtkjjnnbbicoljaaGreatDoorVIn
namespace Go.Proofs.YtkjjnnbbicoljaaGreatDoor
open Go.RowKit Sv
structure Arg.Nets (w : World) (A : Option Addr) (c : Nat) (l : List NetAt) : Prop where
  good : goodB (l.map NetAt.net) = true
  den : Den (inF w) (nv (l.map NetAt.net)) (.slice A l.length c)
structure Arg.Ints (w : World) (A : Option Addr) (c : Nat) (xs : List Int) : Prop where
  good : ∀ x ∈ xs, I64 x
  den : Den (inF w) (lv xs) (.slice A xs.length c)
structure Arg.Lay (w : World) (A B : Option Addr) (c e : Nat) (xs ys : List Int) : Prop where
  good : ∀ x ∈ xs, I64 x
  good2 : ∀ x ∈ ys, I64 x
  few : xs.length ≤ 140737488355328
  few2 : ys.length ≤ 140737488355328
  den : Den (inF w) (.agg [lv xs, lv ys]) (.agg #[.slice A xs.length c, .slice B ys.length e])
theorem Arg.nets {w : World} {A : Option Addr} {c : Nat} {l : List NetAt} (h : NetsIn w w.heap.size A l) (hcap : ∀ q ∈ l, q.cols.length ≤ q.cap) (hc : l.length ≤ c) : Arg.Nets w A c l := by
  refine ⟨goodB_iff.2 fun x hx => ?_, ?_⟩
  · obtain ⟨q, hq, rfl⟩ := List.mem_map.1 hx
    exact ⟨h.ints q hq, h.few q hq⟩
  · have := row_den (t := tNet) (xs := l.map NetAt.net) h.row (in_nets h.cols hcap) (by decide) (by rw [List.length_map]; exact hc)
    rwa [List.length_map] at this
theorem Arg.ints {w : World} {A : Option Addr} {c : Nat} {xs : List Int} (h : Row w w.heap.size A (xs.map (Value.int .i64))) (hi : ∀ x ∈ xs, I64 x) (hc : xs.length ≤ c) : Arg.Ints w A c xs := ⟨hi, in_ints h hc⟩
theorem Arg.lay {w : World} {A B : Option Addr} {c e : Nat} {xs ys : List Int} (h : Row w w.heap.size A (xs.map (Value.int .i64))) (h2 : Row w w.heap.size B (ys.map (Value.int .i64))) (hi : ∀ x ∈ xs, I64 x) (hj : ∀ x ∈ ys, I64 x) (hc : xs.length ≤ c) (he : ys.length ≤ e)
    (hl : xs.length ≤ 140737488355328) (hm : ys.length ≤ 140737488355328) : Arg.Lay w A B c e xs ys := ⟨hi, hj, hl, hm, .agg (.cons (in_ints h hc) (.cons (in_ints h2 he) .nil))⟩
theorem call_true {f : FuncId} {args : List AV} (h : Holds Tryz.prog true f args (bv true)) {w : World} {vs : List Value} (hd : Dens (inF w) args vs) : Calls Tryz.prog f vs.toArray w fun e w' => e = .returned (.bool true) ∧ Below w.heap.size w w' :=
  (h w (inF w) vs (inF_ok w) hd).mono fun e w' ⟨x, F', h1, h2, _, _, h5⟩ => by
    rw [h2.raw_eq] at h1
    exact ⟨h1, h5⟩
theorem tracks_true {w : World} {A A2 : Option Addr} {c c2 : Nat} {l : List NetAt} {xs : List Int} (h0 : Arg.Nets w A c l) (n : Int) (h2 : Arg.Ints w A2 c2 xs) :
    Calls Tryz.prog 3 #[.slice A l.length c, .int .i64 n, .slice A2 xs.length c2] w fun e w' => e = .returned (.bool true) ∧ Below w.heap.size w w' :=
  call_true (law_holds _ n xs h0.good h2.good) (.cons h0.den (.cons (.raw _) (.cons h2.den .nil)))
end Go.Proofs.YtkjjnnbbicoljaaGreatDoor
