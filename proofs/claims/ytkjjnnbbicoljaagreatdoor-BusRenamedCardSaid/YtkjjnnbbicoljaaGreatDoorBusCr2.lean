/- Package bus: Crossings of a layout that the check passes. -/
import Derived.Test.YtkjjnnbbicoljaaGreatDoorBusCr
import Derived.Test.YtkjjnnbbicoljaaGreatDoorBusCross
import Derived.Test.YtkjjnnbbicoljaaGreatDoorBusTracks0
import Derived.Deep.RegionWith
namespace Go.Proofs.YtkjjnnbbicoljaaGreatDoor
open Go.RowKit

theorem col_few (n : Int) : ∀ (cs : List Int) (last : Int), last < n → Bus.colErr n last cs = 0 → (cs.length : Int) ≤ n - 1 - last
  | [], last, h, _ => by simp; omega
  | c :: r, last, h, he => by
    unfold Bus.colErr at he
    split at he
    · cases he
    · split at he
      · cases he
      · rename_i h1 h2
        have := col_few n r c (by omega) he
        simp; omega
theorem nets_few (n : Int) (hn : 1 ≤ n) : ∀ (l : List Bus.Net) (seen : List Int), Bus.netsFrom n seen l = 0 → ∀ x ∈ l, (x.2.length : Int) ≤ n
  | [], _, _ => by intro x hx; cases hx
  | x :: r, seen, h => by
    unfold Bus.netsFrom at h
    split at h
    · cases h
    · split at h
      · cases h
      · split at h
        · cases h
        · split at h
          · exact absurd h (by assumption)
          · intro y hy
            rcases List.mem_cons.1 hy with rfl | hy
            · have := col_few n y.2 (-1) (by omega) (by rename_i h4; exact Classical.not_not.1 h4)
              omega
            · exact nets_few n hn r _ h y hy
theorem cnt_bd (M : Nat) : ∀ (ls : List (List Int)), (∀ x ∈ ls, x.length ≤ M) → cntTo ls ls.length ≤ ls.length * M
  | [], _ => by simp [cntTo]
  | c :: r, h => by
    have h1 := h c List.mem_cons_self
    have h2 := cnt_bd M r fun x hx => h x (List.mem_cons_of_mem _ hx)
    show c.length + cntTo r r.length ≤ (r.length + 1) * M
    rw [Nat.add_mul, Nat.one_mul]; omega
theorem taps_few {l : List NetAt} {n : Int} (h : Bus.netsErr (l.map NetAt.net) n = 0) (Fp : Nat → Int) : (tapFrom Fp 0 (l.map NetAt.cols)).length ≤ 6208 := by
  obtain ⟨n1, n97, l64, _⟩ := Bus.netsErr_zero h
  have hf : Bus.netsFrom n [] (l.map NetAt.net) = 0 := by
    unfold Bus.netsErr at h
    rw [if_neg (by omega), if_neg (by omega)] at h
    exact h
  have hc : ∀ x ∈ l.map NetAt.cols, x.length ≤ 97 := fun x hx => by
    obtain ⟨y, hy, rfl⟩ := List.mem_map.1 hx
    have := nets_few n n1 _ [] hf y.net (List.mem_map_of_mem hy)
    have e : y.net.2 = y.cols := rfl
    rw [e] at this
    omega
  have := cnt_bd 97 (l.map NetAt.cols) hc
  rw [tap_len]
  rw [List.length_map] at this l64 ⊢
  omega

/-- the crossings of a layout, by the program's way -/
def crossOf (nets : List Bus.Net) (order ts : List Int) (most : Int) : Int :=
  (crossRun (tapF (Bus.exts (Bus.atUp order order.length) nets) ts (tapFrom (Bus.atUp order order.length) 0 (nets.map Prod.snd))) most 0 (List.range (tapFrom (Bus.atUp order order.length) 0 (nets.map Prod.snd)).length)).1

set_option maxHeartbeats 8000000 in
set_option maxRecDepth 100000 in
theorem Crossings_ok (A A2 A3 : Option Addr) (c c2 c3 B : Nat) (l : List NetAt) (order ts : List Int) (n : Int) (w : World) (h : NetsIn w B A l) (h2 : Row w B A2 (order.map (Value.int .i64))) (h3 : Row w B A3 (ts.map (Value.int .i64))) (hi : ∀ c ∈ order, I64 c) (hB : B ≤ w.heap.size) (hl : l.length ≤ 140737488355328) (hl2 : order.length ≤ 1000000) (hl3 : ts.length ≤ 1000000)
    (hE : Bus.bothErr (l.map NetAt.net) n order = 0) (hL : layErr (l.map NetAt.net) n order ts = 0) :
    Calls Tryz.prog 20 #[.slice A l.length c, .int .i64 n, .agg #[.slice A2 order.length c2, .slice A3 ts.length c3]] w fun e w' => e = .returned (.tuple #[.int .i64 (crossOf (l.map NetAt.net) order ts 1099511627776), .int .i64 0]) ∧ Below w.heap.size w w' := by
  have HC := Lib.hid (fun w' (hb : Below w.heap.size w w') => CheckLayout_any A A2 A3 c c2 c3 B l order ts n w' (h.below hb hB) (h2.below hb hB) (h3.below hb hB) hi (by have := hb.size; omega) hl hl2 hl3)
  rw [hL] at HC
  obtain ⟨z1, z2⟩ := both_zero hE
  have htl : ts.length = l.length := by
    unfold layErr at hL
    rw [if_neg (fun g => g hE)] at hL
    by_cases h1 : ts.length ≠ (l.map NetAt.net).length
    · rw [if_pos h1] at hL; cases hL
    · rw [List.length_map] at h1; exact Classical.not_not.1 h1
  obtain ⟨n1, n97, l64, hcols⟩ := Bus.netsErr_zero z1
  rw [List.length_map] at l64
  have hc97 : ∀ x ∈ l, ∀ c ∈ x.cols, 0 ≤ c ∧ c < 97 := fun x hx c hc => by
    have := (hcols x.net (List.mem_map_of_mem hx)).2 c hc
    omega
  have hT := taps_few z1 (Bus.atUp order order.length)
  have e1 : (l.map NetAt.net).map Prod.snd = l.map NetAt.cols := by rw [List.map_map]; rfl
  obtain ⟨r, hr⟩ : ∃ r, crossOf (l.map NetAt.net) order ts 1099511627776 = r := ⟨_, rfl⟩
  rw [hr]
  unfold crossOf at hr
  rw [e1] at hr
  have HST := Lib.hid (fun w' (hb : Below w.heap.size w w') => stand_any A A2 c c2 B l order n w' (h.below hb hB) (h2.below hb hB) (by have := hb.size; omega) z2 z1)
  obtain ⟨F, hF⟩ : ∃ F, Bus.atUp order order.length = F := ⟨_, rfl⟩
  rw [hF] at HST hr hT
  have hlen := exts_len F l
  obtain ⟨xs, hxs⟩ : ∃ xs, Bus.exts F (l.map NetAt.net) = xs := ⟨_, rfl⟩
  rw [hxs] at hlen hr
  have HXS := Lib.hid hxs
  obtain ⟨M, hM⟩ : ∃ M : Int, (1099511627776 : Int) = M := ⟨_, rfl⟩
  rw [hM] at hr
  have HCR0 : ∀ (g : Nat) (Ax : Option Addr) (cx : Nat) w' (_ : Below w.heap.size w w') (_ : RowAt w' g (.slice A l.length c) F (.slice Ax xs.length cx)) (_ : Row w' w'.heap.size Ax (xcells xs)),
      Calls Tryz.prog 57 #[.pointer (some ⟨g, 0, none⟩), .slice A3 ts.length c3, .int .i64 M] w' fun e w'' => e = .returned (.int .i64 r) ∧ Below w'.heap.size w' w'' := fun g Ax cx w' hb hrow hx => by
    have := crossings_any g A Ax A3 c cx c3 xs ts F l M w' hrow hx ((h.below hb hB).more (by have := hb.size; omega)) ((h3.below hb hB).more (by have := hb.size; omega)) hlen htl (by omega) hc97 (by omega)
    rw [hr] at this
    exact this
  rw [← hM] at HCR0
  have HCR := Lib.hid HCR0
  clear HCR0 hM
  clear h h2 h3 hi hE hL z1 z2 hcols hc97 hT e1 hr hF hxs M htl
  have HL := Lib.hid hlen
  clear hlen
  go_enter Tryz.func20, Tryz.ntmps20
  go_wp2_with fail
  generalize hW0 : World.alloc w _ = W0
  have d0 : Blk W0 w.heap.size 41 #[.slice A2 order.length c2, .slice A3 ts.length c3] := by rw [← hW0]; exact Blk.new _ _ _
  have e0 : Below w.heap.size w W0 := by rw [← hW0]; exact (Below.refl _ w).alloc (Nat.le_refl _) _
  clear hW0
  refine (HC.out _ e0).mono ?_
  rintro e w1 ⟨rfl, hb1⟩
  have e1 := below_after e0 hb1 (Nat.le_refl _)
  have d1 := d0.below hb1 d0.lt
  have x0 := d1.cell 0
  have x1 := d1.cell 1
  clear d0 e0 hb1 HC
  have e1d := e1.drew
  have d1d := d1.drew
  clear e1 d1
  go_wp2_with fail
  go_region_with (first
    | (go_at_call 49; refine (HST.out _ (by with_reducible assumption)).mono ?_; rintro e w2 ⟨g, v, rfl, hg, hrow, hown, hb2⟩; rw [HXS.out] at hown; obtain ⟨Av, cv, rfl, _, hr⟩ := own_cap hown; have hrow2 : RowAt w2 g (.slice A l.length c) F (.slice Av xs.length cv) := (by rw [HL.out]; exact hrow); have e2 := below_after (B := w.heap.size) (by with_reducible assumption) hb2 (Nat.le_refl _); have HRW := Lib.hid (And.intro hrow2 hr); have x1' := (Blk.below d1d hb2 d1d.lt).cell 1; clear hown hrow hrow2 hr)
    | (go_at_call 57; refine (HCR.out _ _ _ _ (by with_reducible assumption) HRW.out.1 HRW.out.2).mono ?_; rintro e w3 ⟨rfl, hb3⟩))
  all_goals go_wp2_with fail
  all_goals go_ret2
  all_goals exact ⟨rfl, below_after (W := w2) (by with_reducible assumption) (by with_reducible assumption) (Nat.le_refl _)⟩
end Go.Proofs.YtkjjnnbbicoljaaGreatDoor
