/- More plain facts on extents. -/
import Derived.Test.YtkjjnnbbicoljaaGreatDoorBusMem
namespace Go.Proofs.YtkjjnnbbicoljaaGreatDoor
open Go.RowKit

/-- the cells of extents -/
def xcells (l : List (Int × Int)) : List Value := l.flatMap fun p => [.int .i64 p.1, .int .i64 p.2]
theorem xcells_len (l : List (Int × Int)) : (xcells l).length = l.length * 2 := by
  induction l with
  | nil => rfl
  | cons p r ih => simp [xcells] at ih ⊢; omega
/-- low and high, behind some columns -/
def lowOf (F : Nat → Int) (cols : List Int) : Int := cols.foldl (fun l c => min l (F c.toNat)) 97
def highOf (F : Nat → Int) (cols : List Int) : Int := cols.foldl (fun h c => max h (F c.toNat)) (-1)
theorem lowOf_snoc (F : Nat → Int) (cols : List Int) (c : Int) : lowOf F (cols ++ [c]) = min (lowOf F cols) (F c.toNat) := by simp [lowOf]
theorem highOf_snoc (F : Nat → Int) (cols : List Int) (c : Int) : highOf F (cols ++ [c]) = max (highOf F cols) (F c.toNat) := by simp [highOf]
theorem exts_snoc (F : Nat → Int) (l : List NetAt) (k : Nat) (x : NetAt) (h : l[k]? = some x) :
    xcells (Bus.exts F ((l.take (k + 1)).map NetAt.net)) = xcells (Bus.exts F ((l.take k).map NetAt.net)) ++ [.int .i64 (lowOf F x.cols), .int .i64 (highOf F x.cols)] := by
  rw [List.take_add_one, h]
  simp [Bus.exts, xcells, Bus.ext, NetAt.net, lowOf, highOf]
theorem own_below {w w' : World} {base size n : Nat} {e : TypeId} {v : Value} {vs : List Value} (h : w.ownsRow base e size v n vs) (hb : Below w.heap.size w w') : w'.ownsRow base e size v n vs := by
  refine ⟨h.1, ?_⟩
  rcases h.2 with h2 | ⟨g, cap, cur, h1, h2, h3, h4⟩
  · exact .inl h2
  · exact .inr ⟨g, cap, cur, h1, h2, (hb.block g (Array.getElem?_eq_some_iff.1 h3).1).trans h3, h4⟩
theorem own_cap {w : World} {base size n : Nat} {e : TypeId} {v : Value} {vs : List Value} (h : w.ownsRow base e size v n vs) : ∃ A c, v = .slice A n c ∧ n ≤ c ∧ Row w w.heap.size A vs := by
  obtain ⟨A, c, rfl, _, hr⟩ := Row.of_own h
  refine ⟨A, c, rfl, ?_, hr⟩
  rcases h.2 with ⟨h1, h2⟩ | ⟨g, cap, cur, h1, _, _, h4, _⟩
  · omega
  · injection h1 with _ _ h1; omega
theorem own_set {w : World} {base size n g i : Nat} {e : TypeId} {v u : Value} {vs : List Value} (h : w.ownsRow base e size v n vs) (hg : g < base) : (w.setCell ⟨g, i, none⟩ u).ownsRow base e size v n vs := by
  refine ⟨h.1, ?_⟩
  rcases h.2 with h2 | ⟨b, cap, cur, h1, h2, h3, h4⟩
  · exact .inl h2
  · exact .inr ⟨b, cap, cur, h1, h2, (Below.heap_setCell w ⟨g, i, none⟩ u b (by show b ≠ g; omega)).trans h3, h4⟩
end Go.Proofs.YtkjjnnbbicoljaaGreatDoor
