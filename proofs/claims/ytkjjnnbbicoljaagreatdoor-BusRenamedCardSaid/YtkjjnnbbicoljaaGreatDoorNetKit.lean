/- Words for the cards of the statements about nets: what nets, plain rows of numbers and single numbers that came in read as. -/
import Derived.Test.YtkjjnnbbicoljaaGreatDoorRows
import Derived.Test.YtkjjnnbbicoljaaGreatDoorBusMem
import Derived.WalkKit
import Derived.ProofKit
import Derived.LaidMore
import Derived.Lay
import Derived.OpenShut
import Derived.ChangeOld
import Derived.ChangeSame
import Derived.Below
import Derived.Stop.Joined
import Derived.SevenTiedAt
import Derived.SizedLaws
namespace Go.Proofs.YtkjjnnbbicoljaaGreatDoor
open Go.ChangeShapes Go.WideShapes Go.ChangeAt Go.RowKit
set_option linter.unusedVariables false

theorem tOwn : ownKnob Tryz.prog.godebug = none := by kernel_rfl
theorem tLaidOut : laidOutB Tryz.prog = true := by kernel_rfl

theorem i64_of_wf {x : Int} (h : (Lit.int .i64 x).wf = true) : I64 x := by
  simpa [I64, Lit.wf, IntKind.min, IntKind.max, IntKind.signed, IntKind.bits] using h

theorem list_of {α : Type} {p : Nat → α → Prop} : ∀ {n : Nat}, (∀ i, i < n → ∃ x, p i x) → ∃ l : List α, l.length = n ∧ ∀ i x, l[i]? = some x → p i x
  | 0, _ => ⟨[], rfl, fun i x h => by simp at h⟩
  | n + 1, h => by
    obtain ⟨x, hx⟩ := h 0 (Nat.succ_pos n)
    obtain ⟨l, h1, h2⟩ := list_of (p := fun i => p (i + 1)) (n := n) fun i hi => h (i + 1) (Nat.succ_lt_succ hi)
    refine ⟨x :: l, by simp [h1], fun i y hy => ?_⟩
    cases i with
    | zero => simp at hy; subst hy; exact hx
    | succ i => exact h2 i y (by simpa using hy)

theorem addr_add (b off i : Nat) : (⟨b, off, none⟩ : Addr).add i = ⟨b, off + i, none⟩ := by
  rcases Nat.eq_zero_or_pos i with rfl | hp
  · rfl
  · simp [Addr.add]; omega

set_option maxRecDepth 100000 in
/-- a slice of int, as a row -/
theorem open_ints_cells {H : Type} {enc : TypeId × Value → H} {W : World} {fuel : Nat} {cs : List Value} {x : DataW H × List MemPlace} (hf : DataW.trod enc Tryz.prog W 0 (fun _ => true) true fuel 23 cs = some x) :
    ∃ (A : Option Addr) (c : Nat) (xs : List Int), cs = [.slice A xs.length c] ∧ Row W W.heap.size A (xs.map (Value.int .i64)) ∧ xs.length ≤ c ∧ (∀ n ∈ xs, I64 n) ∧ (x.1 = .nil ∧ xs = [] ∨ ∃ el sp, x.1 = .slice el sp ∧ el.length = xs.length) := by
  rcases open_ints Tryz.underlying23 Tryz.underlying3 (by kernel_rfl) hf with ⟨hcs, hx⟩ | ⟨a, len, cap, zs, hcs, _, hl, hm, hz, hx, hcell, hwz⟩
  · subst hx
    exact ⟨none, 0, [], hcs, Row.nil, Nat.le_refl _, fun n h => (by cases h), .inl ⟨rfl, rfl⟩⟩
  · simp only [if_true] at hz
    subst hx
    have htl : (zs.take len).length = len := by rw [List.length_take]; omega
    refine ⟨some a, cap, zs.take len, by rw [htl]; exact hcs, ?_, by omega, fun n hn => i64_of_wf (hwz n (List.mem_of_mem_take hn)), .inr ⟨_, _, rfl, by simp [lits]⟩⟩
    by_cases h0 : len = 0
    · subst h0
      exact .inl rfl
    · obtain ⟨b, off, spot⟩ := a
      have hc := hcell 0 (by omega)
      have hspot : spot = none := by simpa [Addr.add] using World.cell?_spot hc
      subst hspot
      have hc0 : W.cell? ⟨b, off, none⟩ = some (.int .i64 (zs.getD 0 0)) := by simpa [Addr.add] using hc
      refine .inr ⟨b, off, rfl, World.block_lt_of_cell? W _ hc0, fun i hi => ?_⟩
      rw [List.length_map, htl] at hi
      have hci := hcell i (by omega)
      rw [addr_add] at hci
      rw [hci]
      have hi2 : i < zs.length := by omega
      simp [List.getD_eq_getElem?_getD, hi, hi2]
set_option maxRecDepth 100000 in
theorem open_row {H : Type} {enc : TypeId × Value → H} {W : World} {base : Nat} {v : Value} {d : DataW H} {p : List MemPlace} (hv : Value.okWide Tryz.prog W .any base 23 v)
    (h : DataW.Trod enc Tryz.prog W 0 (fun _ => true) true 23 v d p) :
    ∃ (A : Option Addr) (c : Nat) (xs : List Int), v = .slice A xs.length c ∧ Row W W.heap.size A (xs.map (Value.int .i64)) ∧ xs.length ≤ c ∧ (∀ n ∈ xs, I64 n) ∧ (d = .nil ∧ xs = [] ∨ ∃ el sp, d = .slice el sp ∧ el.length = xs.length) := by
  obtain ⟨a, len, cap, rfl⟩ := okWide_slice Tryz.underlying23 hv
  obtain ⟨fuel, hf⟩ := h
  obtain ⟨A, c, xs, h1, h2⟩ := open_ints_cells hf
  simp [Value.cells] at h1
  obtain ⟨rfl, rfl, rfl⟩ := h1
  exact ⟨_, _, xs, rfl, h2⟩

theorem ncells_getD (l : List NetAt) (k : Nat) (p : NetAt) (h : l[k]? = some p) (u : Value) : (ncells l).getD (2 * k) u = .int .i64 p.sh ∧ (ncells l).getD (2 * k + 1) u = .slice p.loc p.cols.length p.cap := by
  obtain ⟨e1, e2⟩ := ncells_at l k p h
  rw [Nat.mul_comm] at e1 e2
  exact ⟨by rw [List.getD_eq_getElem?_getD, e1]; rfl, by rw [List.getD_eq_getElem?_getD, e2]; rfl⟩

theorem weights_all {H : Type} {P : Program} {e : TypeId} {d : DataW H} : ∀ {l : List (DataW H)}, d ∈ l → ∀ n ∈ d.weights P e, n ∈ DataW.weightsAll P e l
  | a :: l, h, n, hn => by
    simp only [DataW.weightsAll, List.mem_append]
    rcases List.mem_cons.1 h with rfl | h
    · exact .inl hn
    · exact .inr (weights_all h n hn)

set_option maxRecDepth 100000 in
/-- nets that came in -/
theorem open_nets_cap {H : Type} {enc : TypeId × Value → H} {W : World} {base : Nat} {v : Value} {d : DataW H} {p : List MemPlace} (hv : Value.okWide Tryz.prog W .any base 22 v)
    (h : DataW.Trod enc Tryz.prog W 0 (fun _ => true) true 22 v d p) (hw : ∀ n ∈ d.weights Tryz.prog 22, n ≤ reachBytes) :
    ∃ (A : Option Addr) (c : Nat) (l : List NetAt), v = .slice A l.length c ∧ NetsIn W W.heap.size A l ∧ l.length ≤ c ∧ l.length ≤ 140737488355328 ∧ ∀ q ∈ l, q.cols.length ≤ q.cap := by
  obtain ⟨a, len, cap, rfl⟩ := okWide_slice Tryz.underlying22 hv
  obtain ⟨fuel, hf⟩ := h
  have c2 : Tryz.prog.cellsOf 37 = 2 := by kernel_rfl
  have c1 : Tryz.prog.cellsOf 3 = 1 := by kernel_rfl
  have c1' : Tryz.prog.cellsOf 23 = 1 := by kernel_rfl
  have b1 : Tryz.prog.bytesOf 37 = 32 := by kernel_rfl
  have b2 : Tryz.prog.bytesOf 3 = 8 := by kernel_rfl
  have hr := reachBytes_lt
  rcases DataW.trod_slice Tryz.underlying22 hf with ⟨hcs, hx⟩ | ⟨a', len', cap', elems, rest, n, _, hcs, hx, _, hl, _, hlen, hel, _, _⟩
  · simp [Value.cells] at hcs
    obtain ⟨rfl, rfl, rfl⟩ := hcs
    exact ⟨none, 0, [], rfl, ⟨Row.nil, fun n h => (by cases h), fun n h => (by cases h), fun n h => (by cases h)⟩, Nat.le_refl _, Nat.zero_le _, fun n h => (by cases h)⟩
  · simp [Value.cells] at hcs
    obtain ⟨rfl, rfl, rfl⟩ := hcs
    rw [c2] at hel
    simp only [Prod.mk.injEq] at hx
    obtain ⟨hd, _⟩ := hx
    subst hd
    have each : ∀ i, i < len → ∃ q : NetAt, W.cell? (a'.add (i * 2)) = some (.int .i64 q.sh) ∧ W.cell? ((a'.add (i * 2)).add 1) = some (.slice q.loc q.cols.length q.cap) ∧ Row W W.heap.size q.loc (q.cols.map (Value.int .i64)) ∧ q.cols.length ≤ 140737488355328 ∧ I64 q.sh ∧ (∀ c ∈ q.cols, I64 c) ∧ q.cols.length ≤ q.cap := by
      intro i hi
      have hy : elems[i]? = some (elems[i]'(by omega)) := List.getElem?_eq_getElem (by omega)
      have hb := hel i hi
      rw [hy, Option.bind_eq_some_iff] at hb
      obtain ⟨cs, g1, g2⟩ := hb
      obtain ⟨_, gl, gc⟩ := World.cells?_some g1
      obtain ⟨y0, y1, m, he, hcl, t0, t1⟩ := trod_struct2 Tryz.underlying37 g2
      match cs, gl with
      | [u0, u1], _ =>
        obtain ⟨z, e0, _, w0⟩ := DataW.trod_int Tryz.underlying3 (show DataW.trod enc Tryz.prog W 0 _ true m 3 [u0] = some y0 by simpa [c1] using t0)
        obtain ⟨A, c, xs, e1, r1, r2, r3, r4⟩ := open_ints_cells (show DataW.trod enc Tryz.prog W 0 (fun _ => true) true m 23 [u1] = some y1 by simpa [c1'] using t1)
        simp at e0 e1
        subst e0; subst e1
        refine ⟨⟨z, xs, A, c⟩, by simpa [Addr.add] using gc 0 (by omega), by simpa using gc 1 (by omega), r1, ?_, i64_of_wf w0, r3, r2⟩
        rcases r4 with ⟨_, rfl⟩ | ⟨el, sp, r5, r6⟩
        · exact Nat.zero_le _
        · have hm : (elems[i]'(by omega)).1 ∈ elems.map (·.1) := List.mem_map.2 ⟨_, List.getElem_mem _, rfl⟩
          have hwx := hw ((el.length + sp.length) * Tryz.prog.bytesOf 3) (by
            simp only [DataW.weights, Tryz.underlying22, List.mem_cons, List.mem_append]
            refine .inr (.inl (weights_all hm _ ?_))
            rw [he]
            simp [DataW.weights, Tryz.underlying37, Tryz.underlying23, DataW.weightsEach, r5])
          rw [b2] at hwx
          show xs.length ≤ _
          omega
    obtain ⟨l, hl1, hl2⟩ := list_of each
    have hlw := hw ((elems.length + rest.length) * Tryz.prog.bytesOf 37) (by simp [DataW.weights, Tryz.underlying22])
    rw [b1] at hlw
    have hmem : ∀ q ∈ l, ∃ i, l[i]? = some q := fun q hq => List.mem_iff_getElem?.1 hq
    refine ⟨some a', cap, l, by rw [hl1], ⟨?_, fun q hq => ?_, fun q hq => ?_, fun q hq => ?_⟩, by omega, by omega, fun q hq => ?_⟩
    · by_cases h0 : len = 0
      · left
        have : l = [] := List.length_eq_zero_iff.1 (by omega)
        subst this; rfl
      · obtain ⟨b, off, spot⟩ := a'
        have hq0 : l[0]? = some (l[0]'(by omega)) := List.getElem?_eq_getElem (by omega)
        have hc := (hl2 0 _ hq0).1
        have hspot : spot = none := by simpa [Addr.add] using World.cell?_spot hc
        subst hspot
        rw [addr_add] at hc
        refine .inr ⟨b, off, rfl, World.block_lt_of_cell? W _ hc, fun i hi => ?_⟩
        rw [ncells_len] at hi
        have hk : i / 2 < l.length := by omega
        have hq : l[i / 2]? = some (l[i / 2]'hk) := List.getElem?_eq_getElem hk
        obtain ⟨k1, k2, _⟩ := hl2 _ _ hq
        obtain ⟨n1, n2⟩ := ncells_getD l (i / 2) _ hq (.bool false)
        rw [addr_add] at k1 k2
        rw [addr_add] at k2
        rcases Nat.mod_two_eq_zero_or_one i with hm | hm
        · have e1 : 2 * (i / 2) = i := by omega
          have e2 : off + i / 2 * 2 = off + i := by omega
          rw [e1] at n1; rw [e2] at k1
          rw [n1, k1]
        · have e1 : 2 * (i / 2) + 1 = i := by omega
          have e2 : off + i / 2 * 2 + 1 = off + i := by omega
          rw [e1] at n2; rw [e2] at k2
          rw [n2, k2]
    · obtain ⟨i, hi⟩ := hmem q hq
      exact (hl2 i q hi).2.2.1
    · obtain ⟨i, hi⟩ := hmem q hq
      exact (hl2 i q hi).2.2.2.1
    · obtain ⟨i, hi⟩ := hmem q hq
      exact ⟨(hl2 i q hi).2.2.2.2.1, (hl2 i q hi).2.2.2.2.2.1⟩
    · obtain ⟨i, hi⟩ := hmem q hq
      exact (hl2 i q hi).2.2.2.2.2.2
set_option maxRecDepth 100000 in
/-- the same, without the capacities -/
theorem open_nets {H : Type} {enc : TypeId × Value → H} {W : World} {base : Nat} {v : Value} {d : DataW H} {p : List MemPlace} (hv : Value.okWide Tryz.prog W .any base 22 v)
    (h : DataW.Trod enc Tryz.prog W 0 (fun _ => true) true 22 v d p) (hw : ∀ n ∈ d.weights Tryz.prog 22, n ≤ reachBytes) :
    ∃ (A : Option Addr) (c : Nat) (l : List NetAt), v = .slice A l.length c ∧ NetsIn W W.heap.size A l ∧ l.length ≤ c ∧ l.length ≤ 140737488355328 :=
  let ⟨A, c, l, h1, h2, h3, h4, _⟩ := open_nets_cap hv h hw
  ⟨A, c, l, h1, h2, h3, h4⟩
end Go.Proofs.YtkjjnnbbicoljaaGreatDoor
