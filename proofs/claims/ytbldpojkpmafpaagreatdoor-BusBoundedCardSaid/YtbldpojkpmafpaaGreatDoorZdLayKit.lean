/- What a slice reads as: words of my own, over any program. 'Row w B A vs': the cells vs lie from the address A on, in a block below B (nothing is asked if there is no cell). -/
import Derived.WalkKit
import Derived.WalkSmall
import Derived.Below
import Derived.Laws.AppendOwn
import Derived.Test.YtbldpojkpmafpaaGreatDoorProg
import Derived.WalkLawsBesides
import Derived.WalkSpells
import Derived.Lib.Hide
import Derived.Outline
import Derived.BigQuiet
import Derived.Deep.QuietTactic
import Derived.Deep.RegionWith
import Derived.IntWalk
import Derived.StillTailTactics
import Derived.Maps.OwnSet
import Derived.Maps.Views
import Derived.Maps.OwnOps
import Derived.Test.YtbldpojkpmafpaaGreatDoorRows
import Derived.ProofKit
import Derived.LaidMore
import Derived.Lay
import Derived.OpenShut
import Derived.ChangeOld
import Derived.ChangeSame
import Derived.Stop.Joined
import Derived.SevenTiedAt
import Derived.SizedLaws
namespace Go.Proofs.YtbldpojkpmafpaaGreatDoor
open Go.RowKit

def Row (w : World) (B : Nat) (A : Option Addr) (vs : List Value) : Prop :=
  vs = [] ∨ ∃ b off, A = some ⟨b, off, none⟩ ∧ b < B ∧ ∀ i, i < vs.length → w.cell? ⟨b, off + i, none⟩ = some (vs.getD i (.bool false))

theorem Row.nil {w : World} {B : Nat} {A : Option Addr} : Row w B A [] := .inl rfl
theorem Row.open {w : World} {B : Nat} {A : Option Addr} {vs : List Value} (h : Row w B A vs) (hn : 0 < vs.length) :
    ∃ b off, A = some ⟨b, off, none⟩ ∧ b < B ∧ ∀ i, i < vs.length → w.cell? ⟨b, off + i, none⟩ = some (vs.getD i (.bool false)) := by
  rcases h with rfl | h
  · simp at hn
  · exact h
theorem Row.below {w w' : World} {B B' : Nat} {A : Option Addr} {vs : List Value} (h : Row w B A vs) (hb : Below B' w w') (hB : B ≤ B') : Row w' B A vs := by
  rcases h with rfl | ⟨b, off, rfl, hlt, hc⟩
  · exact .inl rfl
  · exact .inr ⟨b, off, rfl, hlt, fun i hi => (hb.cell (p := ⟨b, off + i, none⟩) (by simp; omega)).trans (hc i hi)⟩
theorem Row.more {w : World} {B B' : Nat} {A : Option Addr} {vs : List Value} (h : Row w B A vs) (hB : B ≤ B') : Row w B' A vs := by
  rcases h with rfl | ⟨b, off, rfl, hlt, hc⟩
  · exact .inl rfl
  · exact .inr ⟨b, off, rfl, by omega, hc⟩
theorem Row.drewN {w : World} {B : Nat} {A : Option Addr} {vs : List Value} (h : Row w B A vs) (k : Nat) : Row (w.drewN k) B A vs := h
theorem Row.drew {w : World} {B : Nat} {A : Option Addr} {vs : List Value} (h : Row w B A vs) : Row w.drew B A vs := h
theorem Row.alloc {w : World} {B : Nat} {A : Option Addr} {vs : List Value} (h : Row w B A vs) (hB : B ≤ w.heap.size) (o : Obj) : Row (w.alloc o) B A vs :=
  h.below ((Below.refl B w).alloc hB o) (Nat.le_refl _)
theorem Row.of_own {w : World} {base : Nat} {e : TypeId} {n size : Nat} {v : Value} {vs : List Value} (h : w.ownsRow base e size v n vs) :
    ∃ A c, v = .slice A n c ∧ vs.length = n * size ∧ Row w w.heap.size A vs := by
  have hlt := h.lt
  have hcs := @World.ownsRow.cells _ _ _ _ _ _ _ h
  rcases h with ⟨hlen, ⟨rfl, rfl⟩ | ⟨g, cap, cur, rfl, h3⟩⟩
  · obtain rfl : vs = [] := List.eq_nil_of_length_eq_zero (by simpa using hlen)
    exact ⟨none, 0, rfl, hlen, .nil⟩
  · refine ⟨some ⟨g, 0, none⟩, cap, rfl, hlen, .inr ⟨g, 0, rfl, (hlt g rfl).2, fun i hi => ?_⟩⟩
    have h := hcs (g := g) rfl i vs[i] (List.getElem?_eq_getElem hi)
    have e : (⟨g, 0, none⟩ : Addr).add i = ⟨g, 0 + i, none⟩ := by
      rcases Nat.eq_zero_or_pos i with rfl | hp
      · rfl
      · simp [Addr.add]; omega
    rw [e] at h
    rw [h, List.getD_eq_getElem?_getD, List.getElem?_eq_getElem hi]; rfl
theorem Row.new (w : World) (e : TypeId) (vs : List Value) : Row (w.alloc (.cells vs.toArray e)) (w.heap.size + 1) (some ⟨w.heap.size, 0, none⟩) vs :=
  .inr ⟨w.heap.size, 0, rfl, by omega, fun i hi => by
    rw [World.cell?_alloc_at _ _ _ _ rfl]
    simp [List.getD_eq_getElem?_getD, hi]⟩
theorem Row.int {w : World} {B : Nat} {A : Option Addr} {xs : List Int} (h : Row w B A (xs.map (Value.int .i64))) (k : Nat) (hk : k < xs.length) :
    ∃ b off x, A = some ⟨b, off, none⟩ ∧ b < B ∧ xs[k]? = some x ∧ w.cell? ⟨b, off + k, none⟩ = some (.int .i64 x) := by
  obtain ⟨b, off, h1, h2, h3⟩ := h.open (by simp; omega)
  refine ⟨b, off, xs[k], h1, h2, List.getElem?_eq_getElem hk, ?_⟩
  rw [h3 k (by simpa using hk)]; simp [List.getD_eq_getElem?_getD, hk]
def Blk (w : World) (g : Nat) (t : TypeId) (cs : Array Value) : Prop := w.heap[g]? = some (.cells cs t (0, 0))
section
variable {w w' : World} {g : Nat} {t : TypeId} {cs : Array Value}
theorem Blk.lt (h : Blk w g t cs) : g < w.heap.size := by
  rcases Nat.lt_or_ge g w.heap.size with hlt | hge
  · exact hlt
  · unfold Blk at h; rw [Array.getElem?_eq_none hge] at h; cases h
theorem Blk.cell (h : Blk w g t cs) (i : Nat) : w.cell? ⟨g, i, none⟩ = cs[i]? := cell_of_row w g i cs t (0, 0) h
theorem Blk.frozen (h : Blk w g t cs) (i : Nat) : w.frozen? ⟨g, i, none⟩ = false := by
  unfold Blk at h
  simp [World.frozen?, h]
theorem Blk.new (w : World) (t : TypeId) (cs : Array Value) : Blk (w.alloc (.cells cs t)) w.heap.size t cs := heap_alloc_new w _
theorem Blk.new' (w : World) (t : TypeId) (cs : Array Value) (n : Nat) (h : n = w.heap.size) : Blk (w.alloc (.cells cs t)) n t cs := by subst h; exact heap_alloc_new w _
theorem Blk.drew (h : Blk w g t cs) : Blk w.drew g t cs := h
theorem Blk.drewN (h : Blk w g t cs) (n : Nat) : Blk (w.drewN n) g t cs := h
theorem Blk.alloc (h : Blk w g t cs) (o : Obj) : Blk (w.alloc o) g t cs := (Below.heap_alloc w o g h.lt).trans h
theorem Blk.below {B : Nat} (h : Blk w g t cs) (hb : Below B w w') (hg : g < B) : Blk w' g t cs := (hb.block g hg).trans h
theorem Blk.set (h : Blk w g t cs) (i : Nat) (u : Value) : Blk (w.setCell ⟨g, i, none⟩ u) g t (cs.setIfInBounds i u) := by
  unfold Blk at h ⊢
  simp [World.setCell, Array.getElem?_modify, h]
theorem Blk.far (h : Blk w g t cs) {p : Addr} (hp : g ≠ p.block) (u : Value) : Blk (w.setCell p u) g t cs := (Below.heap_setCell w p u g hp).trans h
end
theorem Blk.two {w : World} {g : Nat} {t : TypeId} {a b : Value} (h : Blk w g t #[a, b]) :
    w.cell? ⟨g, 0, none⟩ = some a ∧ w.cell? ⟨g, 1, none⟩ = some b ∧ w.frozen? ⟨g, 0, none⟩ = false ∧ w.frozen? ⟨g, 1, none⟩ = false := ⟨h.cell 0, h.cell 1, h.frozen 0, h.frozen 1⟩
theorem keep_blk {w w' : World} {g : Nat} {t : TypeId} {cs : Array Value} (h : Blk w g t cs) (hb : Below w.heap.size w w') : Blk w' g t cs := h.below hb h.lt
theorem below_after {B : Nat} {w W W1 : World} (h : Below B w W) (hb : Below W.heap.size W W1) (hB : B ≤ w.heap.size) : Below B w W1 := h.trans (hb.mono (Nat.le_trans hB h.size))
end Go.Proofs.YtbldpojkpmafpaaGreatDoor

/- Plain facts on nets, orders and extents (no program). -/
namespace Go.Proofs.YtbldpojkpmafpaaGreatDoor.Bus

abbrev Net := Int × List Int

def colErr (n : Int) : Int → List Int → Int
  | _, [] => 0
  | last, c :: r => if c < 0 ∨ n ≤ c then 10 else if c ≤ last then 11 else colErr n c r
def netsFrom (n : Int) : List Int → List Net → Int
  | _, [] => 0
  | seen, x :: r => if x.1 < 0 ∨ 100 ≤ x.1 then 3 else if x.1 ∈ seen then 9 else if x.2 = [] then 12 else if colErr n (-1) x.2 ≠ 0 then colErr n (-1) x.2 else netsFrom n (seen ++ [x.1]) r
def netsErr (l : List Net) (n : Int) : Int := if n < 1 ∨ 97 < n then 3 else if 64 < l.length then 5 else netsFrom n [] l
def orderFrom (n : Int) : List Int → List Int → Int
  | _, [] => 0
  | seen, c :: r => if c < 0 ∨ n ≤ c then 10 else if c ∈ seen then 9 else orderFrom n (seen ++ [c]) r
def orderErr (order : List Int) (n : Int) : Int := if (order.length : Int) ≠ n then 2 else orderFrom n [] order
def bothErr (l : List Net) (n : Int) (order : List Int) : Int := if netsErr l n ≠ 0 then netsErr l n else orderErr order n

def posFrom (k : Int) : List Int → Int → Int
  | [], _ => -1
  | x :: r, c => if x = c then k else posFrom (k + 1) r c
def pos (order : List Int) (c : Int) : Int := posFrom 0 order c

theorem nets_bad {n : Int} {seen : List Int} {x : Net} {r : List Net} (h : x.1 < 0 ∨ 100 ≤ x.1) : netsFrom n seen (x :: r) = 3 := by rw [netsFrom, if_pos h]
theorem nets_twice {n : Int} {seen : List Int} {x : Net} {r : List Net} (h : ¬ (x.1 < 0 ∨ 100 ≤ x.1)) (h2 : x.1 ∈ seen) : netsFrom n seen (x :: r) = 9 := by rw [netsFrom, if_neg h, if_pos h2]
theorem nets_empty {n : Int} {seen : List Int} {x : Net} {r : List Net} (h : ¬ (x.1 < 0 ∨ 100 ≤ x.1)) (h2 : x.1 ∉ seen) (h3 : x.2 = []) : netsFrom n seen (x :: r) = 12 := by rw [netsFrom, if_neg h, if_neg h2, if_pos h3]
theorem nets_cols {n : Int} {seen : List Int} {x : Net} {r : List Net} (h : ¬ (x.1 < 0 ∨ 100 ≤ x.1)) (h2 : x.1 ∉ seen) (h3 : x.2 ≠ []) :
    netsFrom n seen (x :: r) = if colErr n (-1) x.2 ≠ 0 then colErr n (-1) x.2 else netsFrom n (seen ++ [x.1]) r := by rw [netsFrom, if_neg h, if_neg h2, if_neg h3]

theorem col_bad {n last c : Int} {r : List Int} (h : c < 0 ∨ n ≤ c) : colErr n last (c :: r) = 10 := by rw [colErr, if_pos h]
theorem col_order {n last c : Int} {r : List Int} (h : ¬ (c < 0 ∨ n ≤ c)) (h2 : c ≤ last) : colErr n last (c :: r) = 11 := by rw [colErr, if_neg h, if_pos h2]
theorem col_ok {n last c : Int} {r : List Int} (h : ¬ (c < 0 ∨ n ≤ c)) (h2 : ¬ c ≤ last) : colErr n last (c :: r) = colErr n c r := by rw [colErr, if_neg h, if_neg h2]
def lastOf (l : List Int) : Int := l.foldl (fun _ c => c) (-1)
theorem lastOf_snoc (l : List Int) (c : Int) : lastOf (l ++ [c]) = c := by simp [lastOf]

theorem orderFrom_mem (n : Int) : ∀ (order seen : List Int), orderFrom n seen order = 0 → ∀ c ∈ order, 0 ≤ c ∧ c < n ∧ c ∉ seen
  | [], _, _ => by intro c hc; cases hc
  | x :: r, seen, h => by
      unfold orderFrom at h
      split at h
      · cases h
      · split at h
        · cases h
        · intro c hc
          rcases List.mem_cons.1 hc with rfl | hc
          · exact ⟨by omega, by omega, by assumption⟩
          · obtain ⟨h1, h2, h3⟩ := orderFrom_mem n r _ h c hc
            exact ⟨h1, h2, fun hm => h3 (by simp [hm])⟩
theorem orderFrom_nodup (n : Int) : ∀ (order seen : List Int), orderFrom n seen order = 0 → order.Nodup
  | [], _, _ => List.nodup_nil
  | x :: r, seen, h => by
      unfold orderFrom at h
      split at h
      · cases h
      · split at h
        · cases h
        · exact List.nodup_cons.2 ⟨fun hm => (orderFrom_mem n r _ h x hm).2.2 (by simp), orderFrom_nodup n r _ h⟩
theorem colErr_mem (n : Int) : ∀ (l : List Int) (last : Int), colErr n last l = 0 → ∀ c ∈ l, 0 ≤ c ∧ c < n
  | [], _, _ => by intro c hc; cases hc
  | x :: r, last, h => by
      unfold colErr at h
      split at h
      · cases h
      · split at h
        · cases h
        · intro c hc
          rcases List.mem_cons.1 hc with rfl | hc
          · exact ⟨by omega, by omega⟩
          · exact colErr_mem n r x h c hc
theorem netsFrom_mem (n : Int) : ∀ (l : List Net) (seen : List Int), netsFrom n seen l = 0 → ∀ x ∈ l, x.2 ≠ [] ∧ ∀ c ∈ x.2, 0 ≤ c ∧ c < n
  | [], _, _ => by intro c hc; cases hc
  | x :: r, seen, h => by
      unfold netsFrom at h
      split at h
      · cases h
      · split at h
        · cases h
        · split at h
          · cases h
          · split at h
            · exact absurd h (by assumption)
            · intro y hy
              rcases List.mem_cons.1 hy with rfl | hy
              · exact ⟨by assumption, colErr_mem n _ _ (by rename_i h4; exact Classical.not_not.1 h4)⟩
              · exact netsFrom_mem n r _ h y hy

theorem posFrom_ge (c : Int) : ∀ (order : List Int) (k : Int), 0 ≤ k → c ∈ order → k ≤ posFrom k order c ∧ posFrom k order c < k + order.length
  | [], _, _, h => by cases h
  | x :: r, k, hk, h => by
      unfold posFrom
      split
      · simp; omega
      · have hm : c ∈ r := by
          rcases List.mem_cons.1 h with rfl | h
          · contradiction
          · exact h
        have := posFrom_ge c r (k + 1) (by omega) hm
        simp; omega
theorem pos_bd {order : List Int} {c : Int} (h : c ∈ order) : 0 ≤ pos order c ∧ pos order c < order.length := by
  have := posFrom_ge c order 0 (by omega) h
  unfold pos; omega

def ext (at' : Int → Int) (cols : List Int) : Int × Int := (cols.foldl (fun l c => min l (at' c)) 97, cols.foldl (fun h c => max h (at' c)) (-1))
def refLow (p : Int → Int) : Int → List Int → Int
  | low, [] => low
  | low, c :: r => refLow p (if low < 0 ∨ p c < low then p c else low) r
theorem refLow_min (p : Int → Int) : ∀ (cols : List Int) (low : Int), 0 ≤ low → (∀ c ∈ cols, 0 ≤ p c) → refLow p low cols = cols.foldl (fun l c => min l (p c)) low
  | [], _, _, _ => rfl
  | c :: r, low, hl, h => by
      have hc := h c (by simp)
      unfold refLow
      rw [refLow_min p r _ (by split <;> omega) (fun d hd => h d (by simp [hd]))]
      simp only [List.foldl_cons]
      congr 1
      split <;> omega
theorem refLow_ext (p : Int → Int) (cols : List Int) (hne : cols ≠ []) (h : ∀ c ∈ cols, 0 ≤ p c ∧ p c < 97) : refLow p (-1) cols = (ext p cols).1 := by
  cases cols with
  | nil => exact absurd rfl hne
  | cons c r =>
    have hc := h c (by simp)
    unfold refLow ext
    rw [if_pos (by omega), refLow_min p r _ hc.1 (fun d hd => (h d (by simp [hd])).1)]
    simp only [List.foldl_cons]
    congr 1
    omega

def atUp (order : List Int) : Nat → Nat → Int
  | 0, _ => 0
  | k + 1, i => if (i : Int) = order.getD k (-1) then (k : Int) else atUp order k i
theorem atUp_step (order : List Int) (k X : Nat) (h : order[k]? = some (X : Int)) : atUp order (k + 1) = fun i => if i = X then (k : Int) else atUp order k i := by
  funext i
  simp only [atUp, List.getD_eq_getElem?_getD, h, Option.getD_some]
  by_cases hi : i = X
  · subst hi; simp
  · rw [if_neg hi, if_neg (by omega)]
def exts (F : Nat → Int) (l : List Net) : List (Int × Int) := l.map fun x => ext (fun c => F c.toNat) x.2
theorem orderErr_zero {order : List Int} {n : Int} (h : orderErr order n = 0) : (order.length : Int) = n ∧ order.Nodup ∧ ∀ c ∈ order, 0 ≤ c ∧ c < n := by
  unfold orderErr at h
  split at h
  · cases h
  · rename_i hl
    exact ⟨Classical.not_not.1 hl, orderFrom_nodup n _ _ h, fun c hc => ⟨(orderFrom_mem n _ _ h c hc).1, (orderFrom_mem n _ _ h c hc).2.1⟩⟩
theorem netsErr_zero {l : List Net} {n : Int} (h : netsErr l n = 0) : 1 ≤ n ∧ n ≤ 97 ∧ l.length ≤ 64 ∧ ∀ x ∈ l, x.2 ≠ [] ∧ ∀ c ∈ x.2, 0 ≤ c ∧ c < n := by
  unfold netsErr at h
  split at h
  · cases h
  · split at h
    · cases h
    · exact ⟨by omega, by omega, by omega, netsFrom_mem n l _ h⟩
end Go.Proofs.YtbldpojkpmafpaaGreatDoor.Bus

/- Package bus: nets as they lie in memory, the small functions 'when' and 'first', and a map that serves as a set. -/
namespace Go.Proofs.YtbldpojkpmafpaaGreatDoor
open Go.RowKit

def I64 (x : Int) : Prop := -9223372036854775808 ≤ x ∧ x ≤ 9223372036854775807
theorem I64.wf {x : Int} (h : I64 x) : (Lit.int .i64 x).wf = true := by
  unfold I64 at h
  simp [Lit.wf, IntKind.min, IntKind.max, IntKind.signed, IntKind.bits]
  omega

theorem ret_i64 {a b : Int} (h : a = b) : Ending.returned (.int .i64 a) = .returned (.int .i64 b) := by rw [h]

structure NetAt where
  sh : Int
  cols : List Int
  loc : Option Addr
  cap : Nat
def NetAt.net (n : NetAt) : Bus.Net := (n.sh, n.cols)
def ncells (l : List NetAt) : List Value := l.flatMap fun n => [.int .i64 n.sh, .slice n.loc n.cols.length n.cap]
theorem ncells_len (l : List NetAt) : (ncells l).length = 2 * l.length := by
  induction l with
  | nil => rfl
  | cons p r ih => simp [ncells] at ih ⊢; omega
theorem ncells_at (l : List NetAt) : ∀ (k : Nat) (p : NetAt), l[k]? = some p → (ncells l)[k * 2]? = some (.int .i64 p.sh) ∧ (ncells l)[k * 2 + 1]? = some (.slice p.loc p.cols.length p.cap) := by
  induction l with
  | nil => intro k p h; simp at h
  | cons q r ih =>
    intro k p h
    cases k with
    | zero => simp at h; subst h; exact ⟨rfl, rfl⟩
    | succ k =>
      have := ih k p (by simpa using h)
      rw [show (k + 1) * 2 = k * 2 + 1 + 1 by omega]
      simpa [ncells] using this
structure NetsIn (w : World) (B : Nat) (A : Option Addr) (l : List NetAt) : Prop where
  row : Row w B A (ncells l)
  cols : ∀ n ∈ l, Row w B n.loc (n.cols.map (Value.int .i64))
  few : ∀ n ∈ l, n.cols.length ≤ 140737488355328
  ints : ∀ n ∈ l, I64 n.sh ∧ ∀ c ∈ n.cols, I64 c
theorem NetsIn.below {w w' : World} {B B' : Nat} {A : Option Addr} {l : List NetAt} (h : NetsIn w B A l) (hb : Below B' w w') (hB : B ≤ B') : NetsIn w' B A l :=
  ⟨h.row.below hb hB, fun n hn => (h.cols n hn).below hb hB, h.few, h.ints⟩
theorem NetsIn.more {w : World} {B B' : Nat} {A : Option Addr} {l : List NetAt} (h : NetsIn w B A l) (hB : B ≤ B') : NetsIn w B' A l :=
  ⟨h.row.more hB, fun n hn => (h.cols n hn).more hB, h.few, h.ints⟩
theorem NetsIn.net {w : World} {B : Nat} {A : Option Addr} {l : List NetAt} (h : NetsIn w B A l) (k : Nat) (hk : k < l.length) :
    ∃ b off n, A = some ⟨b, off, none⟩ ∧ b < B ∧ l[k]? = some n ∧ w.cell? ⟨b, off + k * 2, none⟩ = some (.int .i64 n.sh) ∧ w.cell? ⟨b, off + k * 2 + 1, none⟩ = some (.slice n.loc n.cols.length n.cap) ∧
      Row w B n.loc (n.cols.map (Value.int .i64)) ∧ n.cols.length ≤ 140737488355328 ∧ I64 n.sh ∧ ∀ c ∈ n.cols, I64 c := by
  have hl := ncells_len l
  obtain ⟨b, off, h1, h2, h3⟩ := h.row.open (by omega)
  obtain ⟨e1, e2⟩ := ncells_at l k l[k] (List.getElem?_eq_getElem hk)
  have hm : l[k] ∈ l := List.getElem_mem hk
  refine ⟨b, off, l[k], h1, h2, List.getElem?_eq_getElem hk, ?_, ?_, h.cols _ hm, h.few _ hm, (h.ints _ hm).1, (h.ints _ hm).2⟩
  · rw [h3 (k * 2) (by omega), List.getD_eq_getElem?_getD, e1]; rfl
  · rw [Nat.add_assoc, h3 (k * 2 + 1) (by omega), List.getD_eq_getElem?_getD, e2]; rfl

def firstOf : List Int → Int
  | [] => 0
  | e :: r => if e ≠ 0 then e else firstOf r
theorem when_any (b : Bool) (e : Int) (w : World) :
    Calls Tryz.prog 40 #[.bool b, .int .i64 e] w fun e' w' => e' = .returned (.int .i64 (if b then e else 0)) ∧ w = w' := by
  cases b
  · go_enter Tryz.func40, Tryz.ntmps40
    go_wp2
    go_ret
    exact ⟨rfl, rfl⟩
  · go_enter Tryz.func40, Tryz.ntmps40
    go_wp2
    go_ret
    exact ⟨rfl, rfl⟩

theorem when_no_of (b : Bool) (e : Int) (w : World) (h : b = false) : Calls Tryz.prog 40 #[.bool b, .int .i64 e] w fun e' w' => e' = .returned (.int .i64 0) ∧ w = w' := by subst h; exact when_any false e w
theorem when_st (b : Bool) (e : Int) (w : World) : Calls Tryz.prog 40 #[.bool b, .int .i64 e] w fun e' w' => e' = .returned (.int .i64 (if b then e else 0)) ∧ w' = w :=
  (when_any b e w).mono fun _ _ h => ⟨h.1, h.2.symm⟩
theorem when_off (b : Bool) (e : Int) (w : World) (h : b = false) : Calls Tryz.prog 40 #[.bool b, .int .i64 e] w fun e' w' => e' = .returned (.int .i64 0) ∧ w' = w := by
  subst h; exact (when_any false e w).mono fun _ _ h => ⟨h.1, h.2.symm⟩
theorem when_on (b : Bool) (e : Int) (w : World) (h : b = true) : Calls Tryz.prog 40 #[.bool b, .int .i64 e] w fun e' w' => e' = .returned (.int .i64 e) ∧ w' = w := by
  subst h; exact (when_any true e w).mono fun _ _ h => ⟨h.1, h.2.symm⟩

set_option maxRecDepth 100000 in
theorem first_any (A : Option Addr) (c B : Nat) (es : List Int) (w : World) (hl : es.length ≤ 1000000) (h : Row w B A (es.map (Value.int .i64))) :
    Calls Tryz.prog 38 #[.slice A es.length c] w fun e w' => e = .returned (.int .i64 (firstOf es)) ∧ w = w' := by
  have H := Lib.hid h
  clear h
  obtain ⟨r, hr⟩ : ∃ r, firstOf es = r := ⟨_, rfl⟩
  rw [hr]
  have HR := Lib.hid hr
  clear hr
  go_enter Tryz.func38, Tryz.ntmps38
  go_wp2_with fail
  go_loop [7] (fun i => ∃ k : Nat, k ≤ es.length ∧ i = .int .i64 k ∧ firstOf (es.drop k) = r) (fun i => es.length - (intOf i).toNat)
  case atStart => exact ⟨0, Nat.zero_le _, rfl, HR.out⟩
  case round =>
    obtain ⟨k, hk, rfl, hpre⟩ := hrel
    have HP := Lib.hid hpre
    clear hpre
    by_cases hlt : k < es.length
    · obtain ⟨b, off, x, rfl, hbB, hx, hc⟩ := H.out.int k hlt
      have hd : es.drop k = x :: es.drop (k + 1) := by
        rw [List.drop_eq_getElem_cons hlt]
        rw [List.getElem?_eq_getElem hlt] at hx
        rw [Option.some.inj hx]
      have hp := HP.out
      rw [hd] at hp
      clear hx hd
      by_cases hz : x = 0
      · subst hz
        have HN := Lib.hid (show firstOf (es.drop (k + 1)) = r from hp)
        clear hp
        go_wp2_with fail
        go_round
        case rel => exact ⟨k + 1, by omega, by go_num, HN.out⟩
        case measure => simp [intOf]; omega
      · have hne : (x != 0) = true := by rw [bne_iff_ne]; exact hz
        have HN := Lib.hid (show x = r by rw [← hp]; unfold firstOf; rw [if_pos hz])
        clear hp
        go_wp2_with fail
        go_ret
        exact ⟨ret_i64 HN.out, rfl⟩
    · obtain rfl : k = es.length := by omega
      have HN := Lib.hid (show (0 : Int) = r by rw [← HP.out, List.drop_length]; rfl)
      go_wp2_with fail
      go_ret
      exact ⟨ret_i64 HN.out, rfl⟩

theorem first_two (a b : Int) (w : World) (t : TypeId) : Calls Tryz.prog 38 #[.slice (some ⟨w.heap.size, 0, none⟩) 2 2] (w.alloc (.cells #[.int .i64 a, .int .i64 b] t)) fun e w' => e = .returned (.int .i64 (firstOf [a, b])) ∧ w.alloc (.cells #[.int .i64 a, .int .i64 b] t) = w' :=
  first_any (some ⟨w.heap.size, 0, none⟩) 2 (w.heap.size + 1) [a, b] _ (by simp) (Row.new w t _)
theorem first_three (a b d : Int) (w : World) (t : TypeId) : Calls Tryz.prog 38 #[.slice (some ⟨w.heap.size, 0, none⟩) 3 3] (w.alloc (.cells #[.int .i64 a, .int .i64 b, .int .i64 d] t)) fun e w' => e = .returned (.int .i64 (firstOf [a, b, d])) ∧ w.alloc (.cells #[.int .i64 a, .int .i64 b, .int .i64 d] t) = w' :=
  first_any (some ⟨w.heap.size, 0, none⟩) 3 (w.heap.size + 1) [a, b, d] _ (by simp) (Row.new w t _)

theorem firstOf_hit (e : Int) (r : List Int) (h : e ≠ 0) : firstOf (e :: r) = e := by unfold firstOf; rw [if_pos h]
theorem firstOf_miss (r : List Int) : firstOf (0 :: r) = firstOf r := by rw [firstOf, if_neg (by decide)]

theorem first_hit21 (a b : Int) (w : World) (t : TypeId) (h : a ≠ 0) : Calls Tryz.prog 38 #[.slice (some ⟨w.heap.size, 0, none⟩) 2 2] (w.alloc (.cells #[.int .i64 a, .int .i64 b] t)) fun e w' => e = .returned (.int .i64 a) ∧ w.alloc (.cells #[.int .i64 a, .int .i64 b] t) = w' := by
  have H := first_two a b w t
  rwa [firstOf_hit a _ h] at H
theorem first_hit22 (b : Int) (w : World) (t : TypeId) : Calls Tryz.prog 38 #[.slice (some ⟨w.heap.size, 0, none⟩) 2 2] (w.alloc (.cells #[.int .i64 0, .int .i64 b] t)) fun e w' => e = .returned (.int .i64 b) ∧ w.alloc (.cells #[.int .i64 0, .int .i64 b] t) = w' := by
  have H := first_two 0 b w t
  rw [firstOf_miss] at H
  by_cases h : b = 0
  · subst h; exact H
  · rwa [firstOf_hit b _ h] at H
theorem first_hit1 (a b d : Int) (w : World) (t : TypeId) (h : a ≠ 0) : Calls Tryz.prog 38 #[.slice (some ⟨w.heap.size, 0, none⟩) 3 3] (w.alloc (.cells #[.int .i64 a, .int .i64 b, .int .i64 d] t)) fun e w' => e = .returned (.int .i64 a) ∧ w.alloc (.cells #[.int .i64 a, .int .i64 b, .int .i64 d] t) = w' := by
  have H := first_three a b d w t
  rwa [firstOf_hit a _ h] at H
theorem first_hit2 (b d : Int) (w : World) (t : TypeId) (h : b ≠ 0) : Calls Tryz.prog 38 #[.slice (some ⟨w.heap.size, 0, none⟩) 3 3] (w.alloc (.cells #[.int .i64 0, .int .i64 b, .int .i64 d] t)) fun e w' => e = .returned (.int .i64 b) ∧ w.alloc (.cells #[.int .i64 0, .int .i64 b, .int .i64 d] t) = w' := by
  have H := first_three 0 b d w t
  rwa [firstOf_miss, firstOf_hit b _ h] at H
theorem first_hit3 (d : Int) (w : World) (t : TypeId) (h : d ≠ 0) : Calls Tryz.prog 38 #[.slice (some ⟨w.heap.size, 0, none⟩) 3 3] (w.alloc (.cells #[.int .i64 0, .int .i64 0, .int .i64 d] t)) fun e w' => e = .returned (.int .i64 d) ∧ w.alloc (.cells #[.int .i64 0, .int .i64 0, .int .i64 d] t) = w' := by
  have H := first_three 0 0 d w t
  rwa [firstOf_miss, firstOf_miss, firstOf_hit d _ h] at H

def IntSet (w : World) (b : Nat) (l : List Int) : Prop :=
  ∃ D : DataW Unit, w.ownsMap Tryz.prog 3 (plainElem Tryz.prog 4) b l.length D ∧ Maps.IsMap D ∧ ∀ x : Int, D.atKey (.int .i64 x) (.lit (.bool false)) = .lit (.bool (decide (x ∈ l)))
theorem IntSet.kept {w w' : World} {b : Nat} {l : List Int} {row : Option Nat} (h : IntSet w b l) (hg : w.grownBy w' row) (hne : some b ≠ row) : IntSet w' b l := by
  obtain ⟨D, h1, h2, h3⟩ := h
  exact ⟨D, h1.kept hg hne, h2, h3⟩
theorem IntSet.lt {w : World} {b : Nat} {l : List Int} (h : IntSet w b l) : b < w.heap.size := by
  obtain ⟨D, h1, _⟩ := h
  exact h1.lt
theorem IntSet.below {w w' : World} {b : Nat} {l : List Int} (h : IntSet w b l) (hb : Below w.heap.size w w') : IntSet w' b l := by
  obtain ⟨D, ⟨es, clock, h1, h4⟩, h2, h3⟩ := h
  exact ⟨D, ⟨es, clock, (hb.block b (Array.getElem?_eq_some_iff.1 h1).1).trans h1, h4⟩, h2, h3⟩
theorem IntSet.made (w : World) : IntSet (w.alloc (.map #[] 0)) w.heap.size [] :=
  ⟨.map [], World.ownsMap_made _ _ _ _, Maps.isMap_empty, fun x => by simp [DataW.atKey]⟩
theorem plainElem_bool_inv {e : TypeId} {H : Type} (he : Tryz.prog.underlying e = some .bool) {v : Value} {z : DataW H × List MemPlace} (h : plainElem Tryz.prog e v = some z) : ∃ x, v = .bool x ∧ z = (.lit (.bool x), []) := by
  unfold plainElem at h
  rw [he] at h
  cases v <;> simp at h
  subst h
  exact ⟨_, rfl, rfl⟩
theorem zero_bool (w : World) : (zeroValue 4).run Tryz.prog w = .ok (.bool false) w := Tryz.zeroValue4 w
end Go.Proofs.YtbldpojkpmafpaaGreatDoor

/- Words for the cards of the statements about nets: what nets, plain rows of numbers and single numbers that came in read as. -/
namespace Go.Proofs.YtbldpojkpmafpaaGreatDoor
open Go.ChangeShapes Go.WideShapes Go.ChangeAt Go.RowKit
set_option linter.unusedVariables false

theorem tOwn : ownKnob Tryz.prog.godebug = none := by kernel_rfl
theorem tLaidOut : laidOutB Tryz.prog = true := by kernel_rfl

theorem i64_of_wf {x : Int} (h : (Lit.int .i64 x).wf = true) : I64 x := by
  simpa [I64, Lit.wf, IntKind.min, IntKind.max, IntKind.signed, IntKind.bits] using h

theorem list_of {α : Type} {p : Nat → α → Prop} : ∀ {n : Nat}, (∀ i, i < n → ∃ x, p i x) → ∃ l : List α, l.length = n ∧ ∀ i x, l[i]? = some x → p i x
  | 0, _ => ⟨[], rfl, fun i x h => by simp at h⟩
  | n + 1, h => by
    obtain ⟨x, hx⟩ := h 0 (Nat.succ_pos n)
    obtain ⟨l, h1, h2⟩ := list_of (p := fun i => p (i + 1)) (n := n) fun i hi => h (i + 1) (Nat.succ_lt_succ hi)
    refine ⟨x :: l, by simp [h1], fun i y hy => ?_⟩
    cases i with
    | zero => simp at hy; subst hy; exact hx
    | succ i => exact h2 i y (by simpa using hy)

theorem addr_add (b off i : Nat) : (⟨b, off, none⟩ : Addr).add i = ⟨b, off + i, none⟩ := by
  rcases Nat.eq_zero_or_pos i with rfl | hp
  · rfl
  · simp [Addr.add]; omega

set_option maxRecDepth 100000 in
theorem open_ints_cells {H : Type} {enc : TypeId × Value → H} {W : World} {fuel : Nat} {cs : List Value} {x : DataW H × List MemPlace} (hf : DataW.trod enc Tryz.prog W 0 (fun _ => true) true fuel 24 cs = some x) :
    ∃ (A : Option Addr) (c : Nat) (xs : List Int), cs = [.slice A xs.length c] ∧ Row W W.heap.size A (xs.map (Value.int .i64)) ∧ xs.length ≤ c ∧ (∀ n ∈ xs, I64 n) ∧ (x.1 = .nil ∧ xs = [] ∨ ∃ el sp, x.1 = .slice el sp ∧ el.length = xs.length) := by
  rcases open_ints Tryz.underlying24 Tryz.underlying3 (by kernel_rfl) hf with ⟨hcs, hx⟩ | ⟨a, len, cap, zs, hcs, _, hl, hm, hz, hx, hcell, hwz⟩
  · subst hx
    exact ⟨none, 0, [], hcs, Row.nil, Nat.le_refl _, fun n h => (by cases h), .inl ⟨rfl, rfl⟩⟩
  · simp only [if_true] at hz
    subst hx
    have htl : (zs.take len).length = len := by rw [List.length_take]; omega
    refine ⟨some a, cap, zs.take len, by rw [htl]; exact hcs, ?_, by omega, fun n hn => i64_of_wf (hwz n (List.mem_of_mem_take hn)), .inr ⟨_, _, rfl, by simp [lits]⟩⟩
    by_cases h0 : len = 0
    · subst h0
      exact .inl rfl
    · obtain ⟨b, off, spot⟩ := a
      have hc := hcell 0 (by omega)
      have hspot : spot = none := by simpa [Addr.add] using World.cell?_spot hc
      subst hspot
      have hc0 : W.cell? ⟨b, off, none⟩ = some (.int .i64 (zs.getD 0 0)) := by simpa [Addr.add] using hc
      refine .inr ⟨b, off, rfl, World.block_lt_of_cell? W _ hc0, fun i hi => ?_⟩
      rw [List.length_map, htl] at hi
      have hci := hcell i (by omega)
      rw [addr_add] at hci
      rw [hci]
      have hi2 : i < zs.length := by omega
      simp [List.getD_eq_getElem?_getD, hi, hi2]
theorem ncells_getD (l : List NetAt) (k : Nat) (p : NetAt) (h : l[k]? = some p) (u : Value) : (ncells l).getD (2 * k) u = .int .i64 p.sh ∧ (ncells l).getD (2 * k + 1) u = .slice p.loc p.cols.length p.cap := by
  obtain ⟨e1, e2⟩ := ncells_at l k p h
  rw [Nat.mul_comm] at e1 e2
  exact ⟨by rw [List.getD_eq_getElem?_getD, e1]; rfl, by rw [List.getD_eq_getElem?_getD, e2]; rfl⟩

theorem weights_all {H : Type} {P : Program} {e : TypeId} {d : DataW H} : ∀ {l : List (DataW H)}, d ∈ l → ∀ n ∈ d.weights P e, n ∈ DataW.weightsAll P e l
  | a :: l, h, n, hn => by
    simp only [DataW.weightsAll, List.mem_append]
    rcases List.mem_cons.1 h with rfl | h
    · exact .inl hn
    · exact .inr (weights_all h n hn)

set_option maxRecDepth 100000 in
theorem open_nets_cap {H : Type} {enc : TypeId × Value → H} {W : World} {base : Nat} {v : Value} {d : DataW H} {p : List MemPlace} (hv : Value.okWide Tryz.prog W .any base 22 v)
    (h : DataW.Trod enc Tryz.prog W 0 (fun _ => true) true 22 v d p) (hw : ∀ n ∈ d.weights Tryz.prog 22, n ≤ reachBytes) :
    ∃ (A : Option Addr) (c : Nat) (l : List NetAt), v = .slice A l.length c ∧ NetsIn W W.heap.size A l ∧ l.length ≤ c ∧ l.length ≤ 140737488355328 ∧ ∀ q ∈ l, q.cols.length ≤ q.cap := by
  obtain ⟨a, len, cap, rfl⟩ := okWide_slice Tryz.underlying22 hv
  obtain ⟨fuel, hf⟩ := h
  have c2 : Tryz.prog.cellsOf 26 = 2 := by kernel_rfl
  have c1 : Tryz.prog.cellsOf 3 = 1 := by kernel_rfl
  have c1' : Tryz.prog.cellsOf 24 = 1 := by kernel_rfl
  have b1 : Tryz.prog.bytesOf 26 = 32 := by kernel_rfl
  have b2 : Tryz.prog.bytesOf 3 = 8 := by kernel_rfl
  have hr := reachBytes_lt
  rcases DataW.trod_slice Tryz.underlying22 hf with ⟨hcs, hx⟩ | ⟨a', len', cap', elems, rest, n, _, hcs, hx, _, hl, _, hlen, hel, _, _⟩
  · simp [Value.cells] at hcs
    obtain ⟨rfl, rfl, rfl⟩ := hcs
    exact ⟨none, 0, [], rfl, ⟨Row.nil, fun n h => (by cases h), fun n h => (by cases h), fun n h => (by cases h)⟩, Nat.le_refl _, Nat.zero_le _, fun n h => (by cases h)⟩
  · simp [Value.cells] at hcs
    obtain ⟨rfl, rfl, rfl⟩ := hcs
    rw [c2] at hel
    simp only [Prod.mk.injEq] at hx
    obtain ⟨hd, _⟩ := hx
    subst hd
    have each : ∀ i, i < len → ∃ q : NetAt, W.cell? (a'.add (i * 2)) = some (.int .i64 q.sh) ∧ W.cell? ((a'.add (i * 2)).add 1) = some (.slice q.loc q.cols.length q.cap) ∧ Row W W.heap.size q.loc (q.cols.map (Value.int .i64)) ∧ q.cols.length ≤ 140737488355328 ∧ I64 q.sh ∧ (∀ c ∈ q.cols, I64 c) ∧ q.cols.length ≤ q.cap := by
      intro i hi
      have hy : elems[i]? = some (elems[i]'(by omega)) := List.getElem?_eq_getElem (by omega)
      have hb := hel i hi
      rw [hy, Option.bind_eq_some_iff] at hb
      obtain ⟨cs, g1, g2⟩ := hb
      obtain ⟨_, gl, gc⟩ := World.cells?_some g1
      obtain ⟨y0, y1, m, he, hcl, t0, t1⟩ := trod_struct2 Tryz.underlying26 g2
      match cs, gl with
      | [u0, u1], _ =>
        obtain ⟨z, e0, _, w0⟩ := DataW.trod_int Tryz.underlying3 (show DataW.trod enc Tryz.prog W 0 _ true m 3 [u0] = some y0 by simpa [c1] using t0)
        obtain ⟨A, c, xs, e1, r1, r2, r3, r4⟩ := open_ints_cells (show DataW.trod enc Tryz.prog W 0 (fun _ => true) true m 24 [u1] = some y1 by simpa [c1'] using t1)
        simp at e0 e1
        subst e0; subst e1
        refine ⟨⟨z, xs, A, c⟩, by simpa [Addr.add] using gc 0 (by omega), by simpa using gc 1 (by omega), r1, ?_, i64_of_wf w0, r3, r2⟩
        rcases r4 with ⟨_, rfl⟩ | ⟨el, sp, r5, r6⟩
        · exact Nat.zero_le _
        · have hm : (elems[i]'(by omega)).1 ∈ elems.map (·.1) := List.mem_map.2 ⟨_, List.getElem_mem _, rfl⟩
          have hwx := hw ((el.length + sp.length) * Tryz.prog.bytesOf 3) (by
            simp only [DataW.weights, Tryz.underlying22, List.mem_cons, List.mem_append]
            refine .inr (.inl (weights_all hm _ ?_))
            rw [he]
            simp [DataW.weights, Tryz.underlying26, Tryz.underlying24, DataW.weightsEach, r5])
          rw [b2] at hwx
          show xs.length ≤ _
          omega
    obtain ⟨l, hl1, hl2⟩ := list_of each
    have hlw := hw ((elems.length + rest.length) * Tryz.prog.bytesOf 26) (by simp [DataW.weights, Tryz.underlying22])
    rw [b1] at hlw
    have hmem : ∀ q ∈ l, ∃ i, l[i]? = some q := fun q hq => List.mem_iff_getElem?.1 hq
    refine ⟨some a', cap, l, by rw [hl1], ⟨?_, fun q hq => ?_, fun q hq => ?_, fun q hq => ?_⟩, by omega, by omega, fun q hq => ?_⟩
    · by_cases h0 : len = 0
      · left
        have : l = [] := List.length_eq_zero_iff.1 (by omega)
        subst this; rfl
      · obtain ⟨b, off, spot⟩ := a'
        have hq0 : l[0]? = some (l[0]'(by omega)) := List.getElem?_eq_getElem (by omega)
        have hc := (hl2 0 _ hq0).1
        have hspot : spot = none := by simpa [Addr.add] using World.cell?_spot hc
        subst hspot
        rw [addr_add] at hc
        refine .inr ⟨b, off, rfl, World.block_lt_of_cell? W _ hc, fun i hi => ?_⟩
        rw [ncells_len] at hi
        have hk : i / 2 < l.length := by omega
        have hq : l[i / 2]? = some (l[i / 2]'hk) := List.getElem?_eq_getElem hk
        obtain ⟨k1, k2, _⟩ := hl2 _ _ hq
        obtain ⟨n1, n2⟩ := ncells_getD l (i / 2) _ hq (.bool false)
        rw [addr_add] at k1 k2
        rw [addr_add] at k2
        rcases Nat.mod_two_eq_zero_or_one i with hm | hm
        · have e1 : 2 * (i / 2) = i := by omega
          have e2 : off + i / 2 * 2 = off + i := by omega
          rw [e1] at n1; rw [e2] at k1
          rw [n1, k1]
        · have e1 : 2 * (i / 2) + 1 = i := by omega
          have e2 : off + i / 2 * 2 + 1 = off + i := by omega
          rw [e1] at n2; rw [e2] at k2
          rw [n2, k2]
    · obtain ⟨i, hi⟩ := hmem q hq
      exact (hl2 i q hi).2.2.1
    · obtain ⟨i, hi⟩ := hmem q hq
      exact (hl2 i q hi).2.2.2.1
    · obtain ⟨i, hi⟩ := hmem q hq
      exact ⟨(hl2 i q hi).2.2.2.2.1, (hl2 i q hi).2.2.2.2.2.1⟩
    · obtain ⟨i, hi⟩ := hmem q hq
      exact (hl2 i q hi).2.2.2.2.2.2
end Go.Proofs.YtbldpojkpmafpaaGreatDoor

/- The card's words for a layout that comes in. -/
namespace Go.Proofs.YtbldpojkpmafpaaGreatDoor
open Go.ChangeShapes Go.WideShapes Go.ChangeAt Go.RowKit
set_option linter.unusedVariables false
set_option maxRecDepth 100000 in
theorem row_few {H : Type} {d : DataW H} {xs : List Int} (h : d = .nil ∧ xs = [] ∨ ∃ el sp, d = .slice el sp ∧ el.length = xs.length) (hw : ∀ n ∈ d.weights Tryz.prog 24, n ≤ reachBytes) : xs.length ≤ 140737488355328 := by
  rcases h with ⟨_, rfl⟩ | ⟨el, sp, rfl, hel⟩
  · simp
  · have hb : Tryz.prog.bytesOf 3 = 8 := by kernel_rfl
    have := hw ((el.length + sp.length) * Tryz.prog.bytesOf 3) (by simp [DataW.weights, Tryz.underlying24])
    rw [hb] at this
    have hr := reachBytes_lt
    omega

set_option maxRecDepth 100000 in
theorem open_lay {H : Type} {enc : TypeId × Value → H} {W : World} {base : Nat} {v : Value} {d : DataW H} {p : List MemPlace} (hv : Value.okWide Tryz.prog W .any base 29 v)
    (h : DataW.Trod enc Tryz.prog W 0 (fun _ => true) true 29 v d p) (hw : ∀ n ∈ d.weights Tryz.prog 29, n ≤ reachBytes) :
    ∃ (A2 A3 : Option Addr) (c2 c3 : Nat) (order ts : List Int), v = .agg #[.slice A2 order.length c2, .slice A3 ts.length c3] ∧ Row W W.heap.size A2 (order.map (Value.int .i64)) ∧ Row W W.heap.size A3 (ts.map (Value.int .i64)) ∧
      (∀ n ∈ order, I64 n) ∧ (∀ n ∈ ts, I64 n) ∧ order.length ≤ c2 ∧ ts.length ≤ c3 ∧ order.length ≤ 140737488355328 ∧ ts.length ≤ 140737488355328 := by
  simp only [Value.okWide, Tryz.underlying29] at hv
  obtain ⟨cs, rfl, hsz, _⟩ := hv
  have c2' : Tryz.prog.cellsOf 29 = 2 := by kernel_rfl
  have c1' : Tryz.prog.cellsOf 24 = 1 := by kernel_rfl
  rw [c2'] at hsz
  obtain ⟨fuel, hf⟩ := h
  obtain ⟨y0, y1, m, he, _, t0, t1⟩ := trod_struct2 Tryz.underlying29 hf
  obtain ⟨l⟩ := cs
  match l, hsz with
  | [u0, u1], _ =>
    obtain ⟨A2, k2, order, g1, r1, l1, i1, w1⟩ := open_ints_cells (show DataW.trod enc Tryz.prog W 0 (fun _ => true) true m 24 [u0] = some y0 by simpa [Value.cells, c1'] using t0)
    obtain ⟨A3, k3, ts, g2, r2, l2, i2, w2⟩ := open_ints_cells (show DataW.trod enc Tryz.prog W 0 (fun _ => true) true m 24 [u1] = some y1 by simpa [Value.cells, c1'] using t1)
    simp at g1 g2
    subst g1; subst g2
    have hd : d = .agg [y0.1, y1.1] := (Prod.mk.inj he).1
    subst hd
    have hsub : ∀ n, n ∈ y0.1.weights Tryz.prog 24 ∨ n ∈ y1.1.weights Tryz.prog 24 → n ≤ reachBytes := fun n hn => hw n (by
      simp only [DataW.weights, Tryz.underlying29, DataW.weightsEach, List.map_cons, List.map_nil, List.mem_append, List.append_nil]
      exact hn)
    exact ⟨A2, A3, k2, k3, order, ts, rfl, r1, r2, i1, i2, l1, l2, row_few w1 fun n h => hsub n (.inl h), row_few w2 fun n h => hsub n (.inr h)⟩
end Go.Proofs.YtbldpojkpmafpaaGreatDoor
