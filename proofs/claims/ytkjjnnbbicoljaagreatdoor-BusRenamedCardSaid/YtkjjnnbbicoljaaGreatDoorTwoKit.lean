/- The card's words for a layout that comes in. -/
import Derived.Test.YtkjjnnbbicoljaaGreatDoorNetKit
namespace Go.Proofs.YtkjjnnbbicoljaaGreatDoor
open Go.ChangeShapes Go.WideShapes Go.ChangeAt Go.RowKit
set_option linter.unusedVariables false
set_option maxRecDepth 100000 in
/-- a slice of int out of a bounded datum -/
theorem row_few {H : Type} {d : DataW H} {xs : List Int} (h : d = .nil ∧ xs = [] ∨ ∃ el sp, d = .slice el sp ∧ el.length = xs.length) (hw : ∀ n ∈ d.weights Tryz.prog 23, n ≤ reachBytes) : xs.length ≤ 140737488355328 := by
  rcases h with ⟨_, rfl⟩ | ⟨el, sp, rfl, hel⟩
  · simp
  · have hb : Tryz.prog.bytesOf 3 = 8 := by kernel_rfl
    have := hw ((el.length + sp.length) * Tryz.prog.bytesOf 3) (by simp [DataW.weights, Tryz.underlying23])
    rw [hb] at this
    have hr := reachBytes_lt
    omega

set_option maxRecDepth 100000 in
/-- a layout that came in -/
theorem open_lay {H : Type} {enc : TypeId × Value → H} {W : World} {base : Nat} {v : Value} {d : DataW H} {p : List MemPlace} (hv : Value.okWide Tryz.prog W .any base 41 v)
    (h : DataW.Trod enc Tryz.prog W 0 (fun _ => true) true 41 v d p) (hw : ∀ n ∈ d.weights Tryz.prog 41, n ≤ reachBytes) :
    ∃ (A2 A3 : Option Addr) (c2 c3 : Nat) (order ts : List Int), v = .agg #[.slice A2 order.length c2, .slice A3 ts.length c3] ∧ Row W W.heap.size A2 (order.map (Value.int .i64)) ∧ Row W W.heap.size A3 (ts.map (Value.int .i64)) ∧
      (∀ n ∈ order, I64 n) ∧ (∀ n ∈ ts, I64 n) ∧ order.length ≤ c2 ∧ ts.length ≤ c3 ∧ order.length ≤ 140737488355328 ∧ ts.length ≤ 140737488355328 := by
  simp only [Value.okWide, Tryz.underlying41] at hv
  obtain ⟨cs, rfl, hsz, _⟩ := hv
  have c2' : Tryz.prog.cellsOf 41 = 2 := by kernel_rfl
  have c1' : Tryz.prog.cellsOf 23 = 1 := by kernel_rfl
  rw [c2'] at hsz
  obtain ⟨fuel, hf⟩ := h
  obtain ⟨y0, y1, m, he, _, t0, t1⟩ := trod_struct2 Tryz.underlying41 hf
  obtain ⟨l⟩ := cs
  match l, hsz with
  | [u0, u1], _ =>
    obtain ⟨A2, k2, order, g1, r1, l1, i1, w1⟩ := open_ints_cells (show DataW.trod enc Tryz.prog W 0 (fun _ => true) true m 23 [u0] = some y0 by simpa [Value.cells, c1'] using t0)
    obtain ⟨A3, k3, ts, g2, r2, l2, i2, w2⟩ := open_ints_cells (show DataW.trod enc Tryz.prog W 0 (fun _ => true) true m 23 [u1] = some y1 by simpa [Value.cells, c1'] using t1)
    simp at g1 g2
    subst g1; subst g2
    have hd : d = .agg [y0.1, y1.1] := (Prod.mk.inj he).1
    subst hd
    have hsub : ∀ n, n ∈ y0.1.weights Tryz.prog 23 ∨ n ∈ y1.1.weights Tryz.prog 23 → n ≤ reachBytes := fun n hn => hw n (by
      simp only [DataW.weights, Tryz.underlying41, DataW.weightsEach, List.map_cons, List.map_nil, List.mem_append, List.append_nil]
      exact hn)
    exact ⟨A2, A3, k2, k3, order, ts, rfl, r1, r2, i1, i2, l1, l2, row_few w1 fun n h => hsub n (.inl h), row_few w2 fun n h => hsub n (.inr h)⟩
end Go.Proofs.YtkjjnnbbicoljaaGreatDoor

/- The card's words for two lists of integers that come in as an array. -/
namespace Go.Proofs.YtkjjnnbbicoljaaGreatDoor
open Go.ChangeShapes Go.WideShapes Go.ChangeAt Go.RowKit
set_option linter.unusedVariables false
set_option maxRecDepth 100000 in
/-- two lists that came in -/
theorem open_two {H : Type} {enc : TypeId × Value → H} {W : World} {base : Nat} {v : Value} {d : DataW H} {p : List MemPlace} (hv : Value.okWide Tryz.prog W .any base 35 v)
    (h : DataW.Trod enc Tryz.prog W 0 (fun _ => true) true 35 v d p) (hw : ∀ n ∈ d.weights Tryz.prog 35, n ≤ reachBytes) :
    ∃ (A2 A3 : Option Addr) (c2 c3 : Nat) (order ts : List Int), v = .agg #[.slice A2 order.length c2, .slice A3 ts.length c3] ∧ Row W W.heap.size A2 (order.map (Value.int .i64)) ∧ Row W W.heap.size A3 (ts.map (Value.int .i64)) ∧
      (∀ n ∈ order, I64 n) ∧ (∀ n ∈ ts, I64 n) ∧ order.length ≤ c2 ∧ ts.length ≤ c3 ∧ order.length ≤ 140737488355328 ∧ ts.length ≤ 140737488355328 := by
  simp only [Value.okWide, Tryz.underlying35] at hv
  obtain ⟨cs, rfl, hsz, _⟩ := hv
  have c2' : Tryz.prog.cellsOf 35 = 2 := by kernel_rfl
  have c1' : Tryz.prog.cellsOf 23 = 1 := by kernel_rfl
  rw [c2'] at hsz
  obtain ⟨fuel, hf⟩ := h
  obtain ⟨xs, m, _, he, _, hl, hel⟩ := DataW.trod_array Tryz.underlying35 hf
  obtain ⟨l⟩ := cs
  match l, hsz, xs, hl with
  | [u0, u1], _, [y0, y1], _ =>
    have t0 := hel 0 (by decide)
    have t1 := hel 1 (by decide)
    obtain ⟨A2, k2, order, g1, r1, l1, i1, w1⟩ := open_ints_cells (show DataW.trod enc Tryz.prog W 0 (fun _ => true) true m 23 [u0] = some y0 by simpa [Value.cells, c1'] using t0)
    obtain ⟨A3, k3, ts, g2, r2, l2, i2, w2⟩ := open_ints_cells (show DataW.trod enc Tryz.prog W 0 (fun _ => true) true m 23 [u1] = some y1 by simpa [Value.cells, c1'] using t1)
    simp at g1 g2
    subst g1; subst g2
    have hd : d = .agg [y0.1, y1.1] := (Prod.mk.inj he).1
    subst hd
    have hsub : ∀ n, n ∈ y0.1.weights Tryz.prog 23 ∨ n ∈ y1.1.weights Tryz.prog 23 → n ≤ reachBytes := fun n hn => hw n (by
      simp only [DataW.weights, Tryz.underlying35, DataW.weightsAll, List.mem_append, List.append_nil]
      exact hn)
    exact ⟨A2, A3, k2, k3, order, ts, rfl, r1, r2, i1, i2, l1, l2, row_few w1 fun n h => hsub n (.inl h), row_few w2 fun n h => hsub n (.inr h)⟩
end Go.Proofs.YtkjjnnbbicoljaaGreatDoor
