/- Package bus: what the crossings of a layout are, and the function taps. -/
import Derived.Test.YtkjjnnbbicoljaaGreatDoorBusLay2
namespace Go.Proofs.YtkjjnnbbicoljaaGreatDoor
open Go.RowKit

/-- the nets of the first k that net i's tap at position p crosses -/
def crossUp (xs : List (Int × Int)) (ts : List Int) (i : Nat) (p : Int) : Nat → Int
  | 0 => 0
  | k + 1 => crossUp xs ts i p k + if decide (ts.getD k 0 < ts.getD i 0) && covB xs k p then 1 else 0
/-- the crossings of one net's taps, the columns left from the first on -/
def crossCols (xs : List (Int × Int)) (ts : List Int) (F : Nat → Int) (i : Nat) : List Int → Int
  | [] => 0
  | c :: cs => crossUp xs ts i (F c.toNat) xs.length + crossCols xs ts F i cs
/-- the crossings of the nets from number i on -/
def crossFrom (xs : List (Int × Int)) (ts : List Int) (F : Nat → Int) : Nat → List (List Int) → Int
  | _, [] => 0
  | i, n :: ns => crossCols xs ts F i n + crossFrom xs ts F (i + 1) ns
theorem crossUp_lo (xs : List (Int × Int)) (ts : List Int) (i : Nat) (p : Int) : ∀ k : Nat, 0 ≤ crossUp xs ts i p k ∧ crossUp xs ts i p k ≤ k := by
  intro k
  induction k with
  | zero => exact ⟨Int.le_refl _, Int.le_refl _⟩
  | succ k ih => unfold crossUp; split <;> omega
theorem crossCols_lo (xs : List (Int × Int)) (ts : List Int) (F : Nat → Int) (i : Nat) : ∀ cs : List Int, 0 ≤ crossCols xs ts F i cs ∧ crossCols xs ts F i cs ≤ xs.length * cs.length := by
  intro cs
  induction cs with
  | nil => exact ⟨Int.le_refl _, by simp [crossCols]⟩
  | cons c cs ih =>
    have h := crossUp_lo xs ts i (F c.toNat) xs.length
    have e : (xs.length : Int) * ((c :: cs).length : Int) = xs.length * cs.length + xs.length := by rw [List.length_cons, Int.natCast_add, Int.mul_add]; simp
    unfold crossCols
    omega

set_option maxHeartbeats 8000000 in
theorem taps_any (g : Nat) (w : World) :
    Calls Tryz.prog 106 #[.pointer (some ⟨g, 0, none⟩)] w fun e w' => ∃ bx, e = .returned (.func (.func 142) #[] #[.pointer (some ⟨bx, 0, none⟩)]) ∧ w.heap.size ≤ bx ∧ bx < w'.heap.size ∧ w'.cell? ⟨bx, 0, none⟩ = some (.pointer (some ⟨g, 0, none⟩)) ∧ Below w.heap.size w w' := by
  go_enter Tryz.func106, Tryz.ntmps106
  go_wp2_with fail
  generalize hW0 : World.alloc w _ = W0
  have d0 : Blk W0 w.heap.size 79 #[.pointer (some ⟨g, 0, none⟩)] := by rw [← hW0]; exact Blk.new _ _ _
  have e0 : Below w.heap.size w W0 := by rw [← hW0]; exact (Below.refl _ w).alloc (Nat.le_refl _) _
  go_ret
  exact ⟨w.heap.size, rfl, Nat.le_refl _, d0.lt, d0.cell 0, e0⟩
end Go.Proofs.YtkjjnnbbicoljaaGreatDoor

/- Package bus: Crossings of a layout that the check refuses. -/
namespace Go.Proofs.YtkjjnnbbicoljaaGreatDoor
open Go.RowKit

set_option maxHeartbeats 8000000 in
set_option maxRecDepth 100000 in
theorem Crossings_bad (A A2 A3 : Option Addr) (c c2 c3 B : Nat) (l : List NetAt) (order ts : List Int) (n : Int) (w : World) (h : NetsIn w B A l) (h2 : Row w B A2 (order.map (Value.int .i64))) (h3 : Row w B A3 (ts.map (Value.int .i64))) (hi : ∀ c ∈ order, I64 c) (hB : B ≤ w.heap.size) (hl : l.length ≤ 140737488355328) (hl2 : order.length ≤ 1000000) (hl3 : ts.length ≤ 1000000)
    (E : Int) (hE : layErr (l.map NetAt.net) n order ts = E) (h0 : E ≠ 0) :
    Calls Tryz.prog 20 #[.slice A l.length c, .int .i64 n, .agg #[.slice A2 order.length c2, .slice A3 ts.length c3]] w fun e w' => e = .returned (.tuple #[.int .i64 0, .int .i64 E]) ∧ Below w.heap.size w w' := by
  have HC := Lib.hid (fun w' (hb : Below w.heap.size w w') => CheckLayout_any A A2 A3 c c2 c3 B l order ts n w' (h.below hb hB) (h2.below hb hB) (h3.below hb hB) hi (by have := hb.size; omega) hl hl2 hl3)
  rw [hE] at HC
  have hne : (E != 0) = true := by rw [bne_iff_ne]; exact h0
  clear h h2 h3 hi hE
  go_enter Tryz.func20, Tryz.ntmps20
  go_wp2_with fail
  generalize hW0 : World.alloc w _ = W0
  have e0 : Below w.heap.size w W0 := by rw [← hW0]; exact (Below.refl _ w).alloc (Nat.le_refl _) _
  clear hW0
  refine (HC.out _ e0).mono ?_
  rintro e w1 ⟨rfl, hb1⟩
  have e1 := below_after e0 hb1 (Nat.le_refl _)
  go_wp2_with fail
  go_ret2
  exact ⟨rfl, e1⟩
end Go.Proofs.YtkjjnnbbicoljaaGreatDoor
