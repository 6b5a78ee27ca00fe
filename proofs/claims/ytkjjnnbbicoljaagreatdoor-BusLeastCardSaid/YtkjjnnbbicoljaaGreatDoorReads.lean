/- What a slice reads as: words of my own, over any program. 'Row w B A vs': the cells vs lie from the address A on, in a block below B (nothing is asked if there is no cell). -/
import Derived.WalkKit
import Derived.WalkSmall
import Derived.Below
import Derived.Laws.AppendOwn
namespace Go.Proofs.YtkjjnnbbicoljaaGreatDoor
open Go.RowKit

def Row (w : World) (B : Nat) (A : Option Addr) (vs : List Value) : Prop :=
  vs = [] ∨ ∃ b off, A = some ⟨b, off, none⟩ ∧ b < B ∧ ∀ i, i < vs.length → w.cell? ⟨b, off + i, none⟩ = some (vs.getD i (.bool false))

theorem Row.nil {w : World} {B : Nat} {A : Option Addr} : Row w B A [] := .inl rfl
theorem Row.open {w : World} {B : Nat} {A : Option Addr} {vs : List Value} (h : Row w B A vs) (hn : 0 < vs.length) :
    ∃ b off, A = some ⟨b, off, none⟩ ∧ b < B ∧ ∀ i, i < vs.length → w.cell? ⟨b, off + i, none⟩ = some (vs.getD i (.bool false)) := by
  rcases h with rfl | h
  · simp at hn
  · exact h
theorem Row.below {w w' : World} {B B' : Nat} {A : Option Addr} {vs : List Value} (h : Row w B A vs) (hb : Below B' w w') (hB : B ≤ B') : Row w' B A vs := by
  rcases h with rfl | ⟨b, off, rfl, hlt, hc⟩
  · exact .inl rfl
  · exact .inr ⟨b, off, rfl, hlt, fun i hi => (hb.cell (p := ⟨b, off + i, none⟩) (by simp; omega)).trans (hc i hi)⟩
theorem Row.more {w : World} {B B' : Nat} {A : Option Addr} {vs : List Value} (h : Row w B A vs) (hB : B ≤ B') : Row w B' A vs := by
  rcases h with rfl | ⟨b, off, rfl, hlt, hc⟩
  · exact .inl rfl
  · exact .inr ⟨b, off, rfl, by omega, hc⟩
theorem Row.drewN {w : World} {B : Nat} {A : Option Addr} {vs : List Value} (h : Row w B A vs) (k : Nat) : Row (w.drewN k) B A vs := h
theorem Row.drew {w : World} {B : Nat} {A : Option Addr} {vs : List Value} (h : Row w B A vs) : Row w.drew B A vs := h
theorem Row.alloc {w : World} {B : Nat} {A : Option Addr} {vs : List Value} (h : Row w B A vs) (hB : B ≤ w.heap.size) (o : Obj) : Row (w.alloc o) B A vs :=
  h.below ((Below.refl B w).alloc hB o) (Nat.le_refl _)
theorem Row.of_own {w : World} {base : Nat} {e : TypeId} {n size : Nat} {v : Value} {vs : List Value} (h : w.ownsRow base e size v n vs) :
    ∃ A c, v = .slice A n c ∧ vs.length = n * size ∧ Row w w.heap.size A vs := by
  have hlt := h.lt
  have hcs := @World.ownsRow.cells _ _ _ _ _ _ _ h
  rcases h with ⟨hlen, ⟨rfl, rfl⟩ | ⟨g, cap, cur, rfl, h3⟩⟩
  · obtain rfl : vs = [] := List.eq_nil_of_length_eq_zero (by simpa using hlen)
    exact ⟨none, 0, rfl, hlen, .nil⟩
  · refine ⟨some ⟨g, 0, none⟩, cap, rfl, hlen, .inr ⟨g, 0, rfl, (hlt g rfl).2, fun i hi => ?_⟩⟩
    have h := hcs (g := g) rfl i vs[i] (List.getElem?_eq_getElem hi)
    have e : (⟨g, 0, none⟩ : Addr).add i = ⟨g, 0 + i, none⟩ := by
      rcases Nat.eq_zero_or_pos i with rfl | hp
      · rfl
      · simp [Addr.add]; omega
    rw [e] at h
    rw [h, List.getD_eq_getElem?_getD, List.getElem?_eq_getElem hi]; rfl
/-- a new block that holds just these cells -/
theorem Row.new (w : World) (e : TypeId) (vs : List Value) : Row (w.alloc (.cells vs.toArray e)) (w.heap.size + 1) (some ⟨w.heap.size, 0, none⟩) vs :=
  .inr ⟨w.heap.size, 0, rfl, by omega, fun i hi => by
    rw [World.cell?_alloc_at _ _ _ _ rfl]
    simp [List.getD_eq_getElem?_getD, hi]⟩
/-- the k-th int, under a name of its own -/
theorem Row.int {w : World} {B : Nat} {A : Option Addr} {xs : List Int} (h : Row w B A (xs.map (Value.int .i64))) (k : Nat) (hk : k < xs.length) :
    ∃ b off x, A = some ⟨b, off, none⟩ ∧ b < B ∧ xs[k]? = some x ∧ w.cell? ⟨b, off + k, none⟩ = some (.int .i64 x) := by
  obtain ⟨b, off, h1, h2, h3⟩ := h.open (by simp; omega)
  refine ⟨b, off, xs[k], h1, h2, List.getElem?_eq_getElem hk, ?_⟩
  rw [h3 k (by simpa using hk)]; simp [List.getD_eq_getElem?_getD, hk]
/-- block g is just the cells cs -/
def Blk (w : World) (g : Nat) (t : TypeId) (cs : Array Value) : Prop := w.heap[g]? = some (.cells cs t (0, 0))
section
variable {w w' : World} {g : Nat} {t : TypeId} {cs : Array Value}
theorem Blk.lt (h : Blk w g t cs) : g < w.heap.size := by
  rcases Nat.lt_or_ge g w.heap.size with hlt | hge
  · exact hlt
  · unfold Blk at h; rw [Array.getElem?_eq_none hge] at h; cases h
theorem Blk.cell (h : Blk w g t cs) (i : Nat) : w.cell? ⟨g, i, none⟩ = cs[i]? := cell_of_row w g i cs t (0, 0) h
theorem Blk.frozen (h : Blk w g t cs) (i : Nat) : w.frozen? ⟨g, i, none⟩ = false := by
  unfold Blk at h
  simp [World.frozen?, h]
theorem Blk.new (w : World) (t : TypeId) (cs : Array Value) : Blk (w.alloc (.cells cs t)) w.heap.size t cs := heap_alloc_new w _
theorem Blk.new' (w : World) (t : TypeId) (cs : Array Value) (n : Nat) (h : n = w.heap.size) : Blk (w.alloc (.cells cs t)) n t cs := by subst h; exact heap_alloc_new w _
theorem Blk.drew (h : Blk w g t cs) : Blk w.drew g t cs := h
theorem Blk.drewN (h : Blk w g t cs) (n : Nat) : Blk (w.drewN n) g t cs := h
theorem Blk.alloc (h : Blk w g t cs) (o : Obj) : Blk (w.alloc o) g t cs := (Below.heap_alloc w o g h.lt).trans h
theorem Blk.below {B : Nat} (h : Blk w g t cs) (hb : Below B w w') (hg : g < B) : Blk w' g t cs := (hb.block g hg).trans h
theorem Blk.set (h : Blk w g t cs) (i : Nat) (u : Value) : Blk (w.setCell ⟨g, i, none⟩ u) g t (cs.setIfInBounds i u) := by
  unfold Blk at h ⊢
  simp [World.setCell, Array.getElem?_modify, h]
theorem Blk.far (h : Blk w g t cs) {p : Addr} (hp : g ≠ p.block) (u : Value) : Blk (w.setCell p u) g t cs := (Below.heap_setCell w p u g hp).trans h
end
theorem Blk.two {w : World} {g : Nat} {t : TypeId} {a b : Value} (h : Blk w g t #[a, b]) :
    w.cell? ⟨g, 0, none⟩ = some a ∧ w.cell? ⟨g, 1, none⟩ = some b ∧ w.frozen? ⟨g, 0, none⟩ = false ∧ w.frozen? ⟨g, 1, none⟩ = false := ⟨h.cell 0, h.cell 1, h.frozen 0, h.frozen 1⟩
theorem Blk.four {w : World} {g : Nat} {t : TypeId} {a b c d : Value} (h : Blk w g t #[a, b, c, d]) :
    w.cell? ⟨g, 0, none⟩ = some a ∧ w.cell? ⟨g, 1, none⟩ = some b ∧ w.cell? ⟨g, 2, none⟩ = some c ∧ w.cell? ⟨g, 3, none⟩ = some d ∧ w.frozen? ⟨g, 0, none⟩ = false ∧ w.frozen? ⟨g, 1, none⟩ = false ∧ w.frozen? ⟨g, 2, none⟩ = false ∧ w.frozen? ⟨g, 3, none⟩ = false :=
  ⟨h.cell 0, h.cell 1, h.cell 2, h.cell 3, h.frozen 0, h.frozen 1, h.frozen 2, h.frozen 3⟩
theorem Blk.put2 {w : World} {g : Nat} {t : TypeId} {a b : Value} (h : Blk w g t #[a, b]) (x y : Value) : Blk ((w.setCell ⟨g, 0, none⟩ x).setCell ⟨g, 1, none⟩ y) g t #[x, y] := (h.set 0 x).set 1 y
theorem Blk.put4 {w : World} {g : Nat} {t : TypeId} {a b c d : Value} (h : Blk w g t #[a, b, c, d]) (x y z u : Value) :
    Blk ((((w.setCell ⟨g, 0, none⟩ x).setCell ⟨g, 1, none⟩ y).setCell ⟨g, 2, none⟩ z).setCell ⟨g, 3, none⟩ u) g t #[x, y, z, u] := (((h.set 0 x).set 1 y).set 2 z).set 3 u
theorem Blk.off2 {w : World} {g g' : Nat} {t : TypeId} {cs : Array Value} (h : Blk w g t cs) (hne : g ≠ g') (x y : Value) : Blk ((w.setCell ⟨g', 0, none⟩ x).setCell ⟨g', 1, none⟩ y) g t cs := (h.far hne x).far hne y
theorem Blk.off4 {w : World} {g g' : Nat} {t : TypeId} {cs : Array Value} (h : Blk w g t cs) (hne : g ≠ g') (x y z u : Value) :
    Blk ((((w.setCell ⟨g', 0, none⟩ x).setCell ⟨g', 1, none⟩ y).setCell ⟨g', 2, none⟩ z).setCell ⟨g', 3, none⟩ u) g t cs := (((h.far hne x).far hne y).far hne z).far hne u
theorem far1 {w : World} {b o g i : Nat} {v : Value} (h : w.cell? ⟨b, o, none⟩ = some v) (hne : b ≠ g) (x : Value) : (w.setCell ⟨g, i, none⟩ x).cell? ⟨b, o, none⟩ = some v :=
  (World.cell?_setCell_other _ _ _ _ (fun e => by injection e; omega)).trans h
theorem far2 {w : World} {b o g : Nat} {v : Value} (h : w.cell? ⟨b, o, none⟩ = some v) (hne : b ≠ g) (x y : Value) : ((w.setCell ⟨g, 0, none⟩ x).setCell ⟨g, 1, none⟩ y).cell? ⟨b, o, none⟩ = some v := far1 (far1 h hne x) hne y
theorem far4 {w : World} {b o g : Nat} {v : Value} (h : w.cell? ⟨b, o, none⟩ = some v) (hne : b ≠ g) (x y z u : Value) :
    ((((w.setCell ⟨g, 0, none⟩ x).setCell ⟨g, 1, none⟩ y).setCell ⟨g, 2, none⟩ z).setCell ⟨g, 3, none⟩ u).cell? ⟨b, o, none⟩ = some v := far1 (far1 (far1 (far1 h hne x) hne y) hne z) hne u
theorem keep_cell {w w' : World} {a : Addr} {v : Value} (h : w.cell? a = some v) (hb : Below w.heap.size w w') : w'.cell? a = some v := (hb.cell (World.block_lt_of_cell? w a h)).trans h
theorem keep_blk {w w' : World} {g : Nat} {t : TypeId} {cs : Array Value} (h : Blk w g t cs) (hb : Below w.heap.size w w') : Blk w' g t cs := h.below hb h.lt
theorem below_after {B : Nat} {w W W1 : World} (h : Below B w W) (hb : Below W.heap.size W W1) (hB : B ≤ w.heap.size) : Below B w W1 := h.trans (hb.mono (Nat.le_trans hB h.size))
theorem bcell {W w1 : World} (hb : Below W.heap.size W w1) : (∀ b o, b < W.heap.size → w1.cell? ⟨b, o, none⟩ = W.cell? ⟨b, o, none⟩) ∧ (∀ b o, b < W.heap.size → w1.frozen? ⟨b, o, none⟩ = W.frozen? ⟨b, o, none⟩) :=
  ⟨fun b o h => hb.cell (p := ⟨b, o, none⟩) h, fun b o h => hb.frozen (p := ⟨b, o, none⟩) h⟩
/-- an append of the call's own leaves what lay below as it was -/
theorem below_grown {w wr w1 : World} {B n size : Nat} {e : TypeId} {u : Value} {vs : List Value} {o : Obj} (hb : Below B w wr) (hB : B ≤ wr.heap.size) (hown : wr.ownsRow B e size u n vs)
    (hg : (wr.alloc o).grownBy w1 u.ownBlock) : Below B w w1 :=
  (hb.alloc hB o).grown hg (by simp; omega) (fun j hj => (hown.lt j hj).1)
theorem cell_first {w : World} {v : Value} {t : TypeId} : ∀ (j : Nat) (u : Value), [v][j]? = some u → (w.alloc (.cells #[v] t)).cell? ((⟨w.heap.size, 0, none⟩ : Addr).add j) = some u := by
  intro j u hj
  match j, hj with
  | 0, hj => simp at hj; subst hj; simp [Addr.add, World.cell?_alloc_at _ _ _ _ rfl]
end Go.Proofs.YtkjjnnbbicoljaaGreatDoor
