/- Package bus: the tracks of no nets at all. -/
import Derived.Test.YtkjjnnbbicoljaaGreatDoorBusSameLaw
namespace Go.Proofs.YtkjjnnbbicoljaaGreatDoor
open Go.RowKit

set_option maxRecDepth 100000 in
theorem insertion_nil (bx : Nat) (w : World) :
    Calls Tryz.prog 178 #[.slice none 0 0, .int .i64 0, .int .i64 0, .func (.func 102) #[] #[.pointer (some ⟨bx, 0, none⟩)]] w fun e w' => (∃ v, e = .returned v) ∧ w' = w := by
  go_enter Tryz.func178, Tryz.ntmps178
  go_wp2_with fail
  refine wp_loop_rounds 1 ?_
  rw [rounds_succ]
  go_wp2_with fail
  go_end0
  exact ⟨⟨_, rfl⟩, rfl⟩
set_option maxRecDepth 100000 in
theorem stable_nil (bx : Nat) (w : World) :
    Calls Tryz.prog 140 #[.slice none 0 0, .int .i64 0, .func (.func 102) #[] #[.pointer (some ⟨bx, 0, none⟩)]] w fun e w' => (∃ v, e = .returned v) ∧ w' = w := by
  have HI := Lib.hid (insertion_nil bx w)
  go_enter Tryz.func140, Tryz.ntmps140
  go_wp2_with fail
  refine wp_loop_rounds 1 ?_
  rw [rounds_succ]
  go_wp2_with fail
  refine HI.out.mono ?_
  rintro e w1 ⟨⟨v, rfl⟩, rfl⟩
  go_wp2_with fail
  refine wp_loop_rounds 1 ?_
  rw [rounds_succ]
  go_wp2_with fail
  go_end0
  exact ⟨⟨_, rfl⟩, rfl⟩
set_option maxRecDepth 100000 in
theorem SortStable_nil (bx : Nat) (w : World) :
    Calls Tryz.prog 101 #[.slice none 0 0, .func (.func 102) #[] #[.pointer (some ⟨bx, 0, none⟩)]] w fun e w' => (∃ v, e = .returned v) ∧ w' = w := by
  have HI := Lib.hid (stable_nil bx w)
  go_enter Tryz.func101, Tryz.ntmps101
  go_wp2_with fail
  refine HI.out.mono ?_
  rintro e w1 ⟨⟨v, rfl⟩, rfl⟩
  go_wp2_with fail
  go_end0
  exact ⟨⟨_, rfl⟩, rfl⟩

set_option maxHeartbeats 4000000 in
set_option maxRecDepth 100000 in
theorem tracks_nil (g : Nat) (F : Nat → Int) (A An : Option Addr) (c cn : Nat) (w : World) (h : RowAt w g (.slice An 0 cn) F (.slice A 0 c)) :
    Calls Tryz.prog 50 #[.pointer (some ⟨g, 0, none⟩)] w fun e w' => ∃ (Ao : Option Addr) (co : Nat), e = .returned (.tuple #[.slice Ao 0 co, .int .i64 0]) ∧ Below w.heap.size w w' := by
  have hgl := h.lt
  have hnets : w.cell? ⟨g, 0, none⟩ = some (.slice An 0 cn) := h.nets
  obtain ⟨i0, hi0, iz0, iz1, iz2⟩ := info_parts Tryz.info3
  clear h
  go_enter Tryz.func50, Tryz.ntmps50
  go_wp2_with fail
  have e0 := (Below.refl w.heap.size w).alloc (Nat.le_refl _) (.cells #[.pointer (some ⟨g, 0, none⟩)] 79)
  have d0 := Blk.new w 79 #[.pointer (some ⟨g, 0, none⟩)]
  have hn2 := (e0.cell (p := ⟨g, 0, none⟩) hgl).trans hnets
  have hp0 : (w.alloc (.cells #[.pointer (some ⟨g, 0, none⟩)] 79)).cell? ⟨w.heap.size, 0, none⟩ = some (.pointer (some ⟨g, 0, none⟩)) := d0.cell 0
  have HS := Lib.hid (SortStable_nil w.heap.size)
  generalize w.alloc (.cells #[.pointer (some ⟨g, 0, none⟩)] 79) = W0 at e0 d0 hn2 hp0 ⊢
  refine wp_loop_rounds 1 ?_
  rw [rounds_succ]
  go_wp2_with fail
  refine (HS.out _).mono ?_
  rintro e w1 ⟨⟨v, rfl⟩, rfl⟩
  go_wp2_with fail
  rw [run_makeSlice w1 23 3 i0 (.int .i64 0) Tryz.underlying23 hi0 iz0 .i64 .i64 0 0 (by decide) (by decide) (by simp) (by simp) (by decide)]
  simp only [Result.andThen]
  rw [Oper.upon_value]
  have e1 := e0.alloc e0.size (.cells (madeCells (Value.int .i64 0).cells ((0 : Int).toNat * i0.size)) 3)
  generalize w1.alloc _ = W2 at e1 ⊢
  go_wp2_with fail
  refine wp_loop_rounds 1 ?_
  rw [rounds_succ]
  go_wp2_with fail
  go_ret2
  exact ⟨_, _, rfl, e1⟩

set_option maxRecDepth 100000 in
theorem Tracks_none (A A2 : Option Addr) (c c2 B : Nat) (order : List Int) (n : Int) (w : World) (h : NetsIn w B A []) (h2 : Row w B A2 (order.map (Value.int .i64))) (hi : ∀ c ∈ order, I64 c) (hB : B ≤ w.heap.size) (hl2 : order.length ≤ 1000000)
    (hE : Bus.bothErr [] n order = 0) :
    Calls Tryz.prog 13 #[.slice A 0 c, .int .i64 n, .slice A2 order.length c2] w (RetTracks w []) := by
  have HC := Lib.hid (checked_any A A2 c c2 B [] order n w h h2 hi hB (Nat.zero_le _) hl2)
  rw [List.map_nil, hE] at HC
  obtain ⟨z1, z2⟩ := both_zero hE
  have HST := Lib.hid (fun w' (hb : Below w.heap.size w w') => stand_any A A2 c c2 B [] order n w' (h.below hb hB) (h2.below hb hB) (by have := hb.size; omega) z2 z1)
  obtain ⟨F, hF⟩ : ∃ F, Bus.atUp order order.length = F := ⟨_, rfl⟩
  rw [hF] at HST
  rw [List.length_nil] at HC HST
  clear h h2 hi hE hF z1 z2
  go_enter Tryz.func13, Tryz.ntmps13
  go_wp2_with fail
  refine HC.out.mono ?_
  rintro e w1 ⟨rfl, hb1⟩
  go_wp2_with fail
  refine (HST.out _ hb1).mono ?_
  rintro e w2 ⟨g, v, rfl, hg, hrow, hown, hb2⟩
  obtain ⟨Av, cv, rfl, _, hr⟩ := own_cap hown
  have e2 := below_after hb1 hb2 (Nat.le_refl _)
  have HT := Lib.hid (tracks_nil g F Av A cv c w2 hrow)
  clear hrow hown hr
  go_wp2_with fail
  refine HT.out.mono ?_
  rintro e w3 ⟨Ao, co, rfl, hb3⟩
  have e3 := below_after e2 hb3 (Nat.le_refl _)
  go_wp2_with fail
  go_ret3
  exact ⟨Ao, co, rfl, .inl rfl, e3, .inl rfl, Nat.zero_le _⟩
theorem Tracks_any (A A2 : Option Addr) (c c2 B : Nat) (l : List NetAt) (order : List Int) (n : Int) (w : World) (h : NetsIn w B A l) (h2 : Row w B A2 (order.map (Value.int .i64))) (hi : ∀ c ∈ order, I64 c) (hB : B ≤ w.heap.size) (hl2 : order.length ≤ 1000000)
    (hE : Bus.bothErr (l.map NetAt.net) n order = 0) (hl20 : l.length < 20) :
    Calls Tryz.prog 13 #[.slice A l.length c, .int .i64 n, .slice A2 order.length c2] w (RetTracks w (Bus.exts (Bus.atUp order order.length) (l.map NetAt.net))) := by
  cases l with
  | nil => exact Tracks_none A A2 c c2 B order n w h h2 hi hB hl2 hE
  | cons x r => exact Tracks_ok A A2 c c2 B (x :: r) order n w h h2 hi hB (by omega) hl2 hE (by simp) hl20
end Go.Proofs.YtkjjnnbbicoljaaGreatDoor
