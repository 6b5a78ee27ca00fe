/- Package bus: nets as they lie in memory, the small functions 'when' and 'first', and a map that serves as a set. -/
import Derived.Test.YtkjjnnbbicoljaaGreatDoorProg
import Derived.Test.YtkjjnnbbicoljaaGreatDoorReads
import Derived.Test.YtkjjnnbbicoljaaGreatDoorBusLaw
import Derived.WalkKit
import Derived.WalkLawsBesides
import Derived.WalkSpells
import Derived.Lib.Hide
import Derived.Outline
import Derived.BigQuiet
import Derived.Deep.QuietTactic
import Derived.Deep.RegionWith
import Derived.IntWalk
import Derived.StillTailTactics
import Derived.Maps.OwnSet
import Derived.Maps.Views
import Derived.Maps.OwnOps
namespace Go.Proofs.YtkjjnnbbicoljaaGreatDoor
open Go.RowKit

/-- an int of 64 bits -/
def I64 (x : Int) : Prop := -9223372036854775808 ≤ x ∧ x ≤ 9223372036854775807
theorem I64.wf {x : Int} (h : I64 x) : (Lit.int .i64 x).wf = true := by
  unfold I64 at h
  simp [Lit.wf, IntKind.min, IntKind.max, IntKind.signed, IntKind.bits]
  omega

theorem ret_i64 {a b : Int} (h : a = b) : Ending.returned (.int .i64 a) = .returned (.int .i64 b) := by rw [h]

/-- a net and where its columns lie -/
structure NetAt where
  sh : Int
  cols : List Int
  loc : Option Addr
  cap : Nat
def NetAt.net (n : NetAt) : Bus.Net := (n.sh, n.cols)
def ncells (l : List NetAt) : List Value := l.flatMap fun n => [.int .i64 n.sh, .slice n.loc n.cols.length n.cap]
theorem ncells_len (l : List NetAt) : (ncells l).length = 2 * l.length := by
  induction l with
  | nil => rfl
  | cons p r ih => simp [ncells] at ih ⊢; omega
theorem ncells_at (l : List NetAt) : ∀ (k : Nat) (p : NetAt), l[k]? = some p → (ncells l)[k * 2]? = some (.int .i64 p.sh) ∧ (ncells l)[k * 2 + 1]? = some (.slice p.loc p.cols.length p.cap) := by
  induction l with
  | nil => intro k p h; simp at h
  | cons q r ih =>
    intro k p h
    cases k with
    | zero => simp at h; subst h; exact ⟨rfl, rfl⟩
    | succ k =>
      have := ih k p (by simpa using h)
      rw [show (k + 1) * 2 = k * 2 + 1 + 1 by omega]
      simpa [ncells] using this
/-- nets that lie below B -/
structure NetsIn (w : World) (B : Nat) (A : Option Addr) (l : List NetAt) : Prop where
  row : Row w B A (ncells l)
  cols : ∀ n ∈ l, Row w B n.loc (n.cols.map (Value.int .i64))
  few : ∀ n ∈ l, n.cols.length ≤ 140737488355328
  ints : ∀ n ∈ l, I64 n.sh ∧ ∀ c ∈ n.cols, I64 c
theorem NetsIn.below {w w' : World} {B B' : Nat} {A : Option Addr} {l : List NetAt} (h : NetsIn w B A l) (hb : Below B' w w') (hB : B ≤ B') : NetsIn w' B A l :=
  ⟨h.row.below hb hB, fun n hn => (h.cols n hn).below hb hB, h.few, h.ints⟩
theorem NetsIn.more {w : World} {B B' : Nat} {A : Option Addr} {l : List NetAt} (h : NetsIn w B A l) (hB : B ≤ B') : NetsIn w B' A l :=
  ⟨h.row.more hB, fun n hn => (h.cols n hn).more hB, h.few, h.ints⟩
/-- the k-th net, under names of its own -/
theorem NetsIn.net {w : World} {B : Nat} {A : Option Addr} {l : List NetAt} (h : NetsIn w B A l) (k : Nat) (hk : k < l.length) :
    ∃ b off n, A = some ⟨b, off, none⟩ ∧ b < B ∧ l[k]? = some n ∧ w.cell? ⟨b, off + k * 2, none⟩ = some (.int .i64 n.sh) ∧ w.cell? ⟨b, off + k * 2 + 1, none⟩ = some (.slice n.loc n.cols.length n.cap) ∧
      Row w B n.loc (n.cols.map (Value.int .i64)) ∧ n.cols.length ≤ 140737488355328 ∧ I64 n.sh ∧ ∀ c ∈ n.cols, I64 c := by
  have hl := ncells_len l
  obtain ⟨b, off, h1, h2, h3⟩ := h.row.open (by omega)
  obtain ⟨e1, e2⟩ := ncells_at l k l[k] (List.getElem?_eq_getElem hk)
  have hm : l[k] ∈ l := List.getElem_mem hk
  refine ⟨b, off, l[k], h1, h2, List.getElem?_eq_getElem hk, ?_, ?_, h.cols _ hm, h.few _ hm, (h.ints _ hm).1, (h.ints _ hm).2⟩
  · rw [h3 (k * 2) (by omega), List.getD_eq_getElem?_getD, e1]; rfl
  · rw [Nat.add_assoc, h3 (k * 2 + 1) (by omega), List.getD_eq_getElem?_getD, e2]; rfl

/-- the first error -/
def firstOf : List Int → Int
  | [] => 0
  | e :: r => if e ≠ 0 then e else firstOf r
theorem when_any (b : Bool) (e : Int) (w : World) :
    Calls Tryz.prog 61 #[.bool b, .int .i64 e] w fun e' w' => e' = .returned (.int .i64 (if b then e else 0)) ∧ w = w' := by
  cases b
  · go_enter Tryz.func61, Tryz.ntmps61
    go_wp2
    go_ret
    exact ⟨rfl, rfl⟩
  · go_enter Tryz.func61, Tryz.ntmps61
    go_wp2
    go_ret
    exact ⟨rfl, rfl⟩

theorem when_no (e : Int) (w : World) : Calls Tryz.prog 61 #[.bool false, .int .i64 e] w fun e' w' => e' = .returned (.int .i64 0) ∧ w = w' := when_any false e w
theorem when_yes (e : Int) (w : World) : Calls Tryz.prog 61 #[.bool true, .int .i64 e] w fun e' w' => e' = .returned (.int .i64 e) ∧ w = w' := when_any true e w

theorem when_no_of (b : Bool) (e : Int) (w : World) (h : b = false) : Calls Tryz.prog 61 #[.bool b, .int .i64 e] w fun e' w' => e' = .returned (.int .i64 0) ∧ w = w' := by subst h; exact when_any false e w
theorem when_yes_of (b : Bool) (e : Int) (w : World) (h : b = true) : Calls Tryz.prog 61 #[.bool b, .int .i64 e] w fun e' w' => e' = .returned (.int .i64 e) ∧ w = w' := by subst h; exact when_any true e w
/-- for a region that draws its order -/
theorem when_st (b : Bool) (e : Int) (w : World) : Calls Tryz.prog 61 #[.bool b, .int .i64 e] w fun e' w' => e' = .returned (.int .i64 (if b then e else 0)) ∧ w' = w :=
  (when_any b e w).mono fun _ _ h => ⟨h.1, h.2.symm⟩
theorem when_off (b : Bool) (e : Int) (w : World) (h : b = false) : Calls Tryz.prog 61 #[.bool b, .int .i64 e] w fun e' w' => e' = .returned (.int .i64 0) ∧ w' = w := by
  subst h; exact (when_any false e w).mono fun _ _ h => ⟨h.1, h.2.symm⟩
theorem when_on (b : Bool) (e : Int) (w : World) (h : b = true) : Calls Tryz.prog 61 #[.bool b, .int .i64 e] w fun e' w' => e' = .returned (.int .i64 e) ∧ w' = w := by
  subst h; exact (when_any true e w).mono fun _ _ h => ⟨h.1, h.2.symm⟩

set_option maxRecDepth 100000 in
theorem first_any (A : Option Addr) (c B : Nat) (es : List Int) (w : World) (hl : es.length ≤ 1000000) (h : Row w B A (es.map (Value.int .i64))) :
    Calls Tryz.prog 60 #[.slice A es.length c] w fun e w' => e = .returned (.int .i64 (firstOf es)) ∧ w = w' := by
  have H := Lib.hid h
  clear h
  obtain ⟨r, hr⟩ : ∃ r, firstOf es = r := ⟨_, rfl⟩
  rw [hr]
  have HR := Lib.hid hr
  clear hr
  go_enter Tryz.func60, Tryz.ntmps60
  go_wp2_with fail
  go_loop [7] (fun i => ∃ k : Nat, k ≤ es.length ∧ i = .int .i64 k ∧ firstOf (es.drop k) = r) (fun i => es.length - (intOf i).toNat)
  case atStart => exact ⟨0, Nat.zero_le _, rfl, HR.out⟩
  case round =>
    obtain ⟨k, hk, rfl, hpre⟩ := hrel
    have HP := Lib.hid hpre
    clear hpre
    by_cases hlt : k < es.length
    · obtain ⟨b, off, x, rfl, hbB, hx, hc⟩ := H.out.int k hlt
      have hd : es.drop k = x :: es.drop (k + 1) := by
        rw [List.drop_eq_getElem_cons hlt]
        rw [List.getElem?_eq_getElem hlt] at hx
        rw [Option.some.inj hx]
      have hp := HP.out
      rw [hd] at hp
      clear hx hd
      by_cases hz : x = 0
      · subst hz
        have HN := Lib.hid (show firstOf (es.drop (k + 1)) = r from hp)
        clear hp
        go_wp2_with fail
        go_round
        case rel => exact ⟨k + 1, by omega, by go_num, HN.out⟩
        case measure => simp [intOf]; omega
      · have hne : (x != 0) = true := by rw [bne_iff_ne]; exact hz
        have HN := Lib.hid (show x = r by rw [← hp]; unfold firstOf; rw [if_pos hz])
        clear hp
        go_wp2_with fail
        go_ret
        exact ⟨ret_i64 HN.out, rfl⟩
    · obtain rfl : k = es.length := by omega
      have HN := Lib.hid (show (0 : Int) = r by rw [← HP.out, List.drop_length]; rfl)
      go_wp2_with fail
      go_ret
      exact ⟨ret_i64 HN.out, rfl⟩

/-- 'first' of a list that was written out -/
theorem first_two (a b : Int) (w : World) (t : TypeId) : Calls Tryz.prog 60 #[.slice (some ⟨w.heap.size, 0, none⟩) 2 2] (w.alloc (.cells #[.int .i64 a, .int .i64 b] t)) fun e w' => e = .returned (.int .i64 (firstOf [a, b])) ∧ w.alloc (.cells #[.int .i64 a, .int .i64 b] t) = w' :=
  first_any (some ⟨w.heap.size, 0, none⟩) 2 (w.heap.size + 1) [a, b] _ (by simp) (Row.new w t _)
theorem first_three (a b d : Int) (w : World) (t : TypeId) : Calls Tryz.prog 60 #[.slice (some ⟨w.heap.size, 0, none⟩) 3 3] (w.alloc (.cells #[.int .i64 a, .int .i64 b, .int .i64 d] t)) fun e w' => e = .returned (.int .i64 (firstOf [a, b, d])) ∧ w.alloc (.cells #[.int .i64 a, .int .i64 b, .int .i64 d] t) = w' :=
  first_any (some ⟨w.heap.size, 0, none⟩) 3 (w.heap.size + 1) [a, b, d] _ (by simp) (Row.new w t _)

theorem firstOf_hit (e : Int) (r : List Int) (h : e ≠ 0) : firstOf (e :: r) = e := by unfold firstOf; rw [if_pos h]
theorem firstOf_miss (r : List Int) : firstOf (0 :: r) = firstOf r := by rw [firstOf, if_neg (by decide)]

theorem first_hit21 (a b : Int) (w : World) (t : TypeId) (h : a ≠ 0) : Calls Tryz.prog 60 #[.slice (some ⟨w.heap.size, 0, none⟩) 2 2] (w.alloc (.cells #[.int .i64 a, .int .i64 b] t)) fun e w' => e = .returned (.int .i64 a) ∧ w.alloc (.cells #[.int .i64 a, .int .i64 b] t) = w' := by
  have H := first_two a b w t
  rwa [firstOf_hit a _ h] at H
theorem first_hit22 (b : Int) (w : World) (t : TypeId) : Calls Tryz.prog 60 #[.slice (some ⟨w.heap.size, 0, none⟩) 2 2] (w.alloc (.cells #[.int .i64 0, .int .i64 b] t)) fun e w' => e = .returned (.int .i64 b) ∧ w.alloc (.cells #[.int .i64 0, .int .i64 b] t) = w' := by
  have H := first_two 0 b w t
  rw [firstOf_miss] at H
  by_cases h : b = 0
  · subst h; exact H
  · rwa [firstOf_hit b _ h] at H
theorem first_hit1 (a b d : Int) (w : World) (t : TypeId) (h : a ≠ 0) : Calls Tryz.prog 60 #[.slice (some ⟨w.heap.size, 0, none⟩) 3 3] (w.alloc (.cells #[.int .i64 a, .int .i64 b, .int .i64 d] t)) fun e w' => e = .returned (.int .i64 a) ∧ w.alloc (.cells #[.int .i64 a, .int .i64 b, .int .i64 d] t) = w' := by
  have H := first_three a b d w t
  rwa [firstOf_hit a _ h] at H
theorem first_hit2 (b d : Int) (w : World) (t : TypeId) (h : b ≠ 0) : Calls Tryz.prog 60 #[.slice (some ⟨w.heap.size, 0, none⟩) 3 3] (w.alloc (.cells #[.int .i64 0, .int .i64 b, .int .i64 d] t)) fun e w' => e = .returned (.int .i64 b) ∧ w.alloc (.cells #[.int .i64 0, .int .i64 b, .int .i64 d] t) = w' := by
  have H := first_three 0 b d w t
  rwa [firstOf_miss, firstOf_hit b _ h] at H
theorem first_hit3 (d : Int) (w : World) (t : TypeId) (h : d ≠ 0) : Calls Tryz.prog 60 #[.slice (some ⟨w.heap.size, 0, none⟩) 3 3] (w.alloc (.cells #[.int .i64 0, .int .i64 0, .int .i64 d] t)) fun e w' => e = .returned (.int .i64 d) ∧ w.alloc (.cells #[.int .i64 0, .int .i64 0, .int .i64 d] t) = w' := by
  have H := first_three 0 0 d w t
  rwa [firstOf_miss, firstOf_miss, firstOf_hit d _ h] at H

/-- block b is a map of ints to true that serves as the set l -/
def IntSet (w : World) (b : Nat) (l : List Int) : Prop :=
  ∃ D : DataW Unit, w.ownsMap Tryz.prog 3 (plainElem Tryz.prog 4) b l.length D ∧ Maps.IsMap D ∧ ∀ x : Int, D.atKey (.int .i64 x) (.lit (.bool false)) = .lit (.bool (decide (x ∈ l)))
theorem IntSet.kept {w w' : World} {b : Nat} {l : List Int} {row : Option Nat} (h : IntSet w b l) (hg : w.grownBy w' row) (hne : some b ≠ row) : IntSet w' b l := by
  obtain ⟨D, h1, h2, h3⟩ := h
  exact ⟨D, h1.kept hg hne, h2, h3⟩
theorem IntSet.lt {w : World} {b : Nat} {l : List Int} (h : IntSet w b l) : b < w.heap.size := by
  obtain ⟨D, h1, _⟩ := h
  exact h1.lt
theorem IntSet.below {w w' : World} {b : Nat} {l : List Int} (h : IntSet w b l) (hb : Below w.heap.size w w') : IntSet w' b l := by
  obtain ⟨D, ⟨es, clock, h1, h4⟩, h2, h3⟩ := h
  exact ⟨D, ⟨es, clock, (hb.block b (Array.getElem?_eq_some_iff.1 h1).1).trans h1, h4⟩, h2, h3⟩
theorem IntSet.made (w : World) : IntSet (w.alloc (.map #[] 0)) w.heap.size [] :=
  ⟨.map [], World.ownsMap_made _ _ _ _, Maps.isMap_empty, fun x => by simp [DataW.atKey]⟩
theorem plainElem_bool_inv {e : TypeId} {H : Type} (he : Tryz.prog.underlying e = some .bool) {v : Value} {z : DataW H × List MemPlace} (h : plainElem Tryz.prog e v = some z) : ∃ x, v = .bool x ∧ z = (.lit (.bool x), []) := by
  unfold plainElem at h
  rw [he] at h
  cases v <;> simp at h
  subst h
  exact ⟨_, rfl, rfl⟩
theorem zero_bool (w : World) : (zeroValue 4).run Tryz.prog w = .ok (.bool false) w := Tryz.zeroValue4 w
end Go.Proofs.YtkjjnnbbicoljaaGreatDoor
