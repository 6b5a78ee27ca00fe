/- Package bus: Mirror. -/
import Derived.Test.YtbldpojkpmafpaaGreatDoorZtBusPairs
import Derived.Test.YtbldpojkpmafpaaGreatDoorZtVCr
import Derived.Deep.RegionWith
import Derived.Test.YtbldpojkpmafpaaGreatDoorZtVBestLaw
namespace Go.Proofs.YtbldpojkpmafpaaGreatDoor
open Go.RowKit

set_option maxHeartbeats 8000000 in
set_option maxRecDepth 100000 in
theorem Mirror_bad (A A2 A3 : Option Addr) (c c2 c3 B : Nat) (l : List NetAt) (order ts : List Int) (n : Int) (w : World) (h : NetsIn w B A l) (h2 : Row w B A2 (order.map (Value.int .i64))) (h3 : Row w B A3 (ts.map (Value.int .i64))) (hi : ∀ c ∈ order, I64 c) (hB : B ≤ w.heap.size) (hl : l.length ≤ 140737488355328) (hl2 : order.length ≤ 1000000) (hl3 : ts.length ≤ 1000000)
    (E : Int) (hE : layErr (l.map NetAt.net) n order ts = E) (h0 : E ≠ 0) :
    Calls Tryz.prog 17 #[.slice A l.length c, .int .i64 n, .agg #[.slice A2 order.length c2, .slice A3 ts.length c3]] w fun e w' => e = .returned (.tuple #[.agg #[.slice none 0 0, .slice none 0 0], .int .i64 E]) ∧ Below w.heap.size w w' := by
  have HC := Lib.hid (fun w' (hb : Below w.heap.size w w') => CheckLayout_any A A2 A3 c c2 c3 B l order ts n w' (h.below hb hB) (h2.below hb hB) (h3.below hb hB) hi (by have := hb.size; omega) hl hl2 hl3)
  rw [hE] at HC
  have hne : (E != 0) = true := by rw [bne_iff_ne]; exact h0
  clear h h2 h3 hi hE
  go_enter Tryz.func17, Tryz.ntmps17
  go_wp2_with fail
  generalize hW0 : World.alloc (World.alloc w _) _ = W0
  have d6 : Blk W0 (w.heap.size + 1) 29 #[.slice none 0 0, .slice none 0 0] := by rw [← hW0]; exact Blk.new' _ _ _ _ (by simp)
  have e0 : Below w.heap.size w W0 := by rw [← hW0]; exact ((Below.refl _ w).alloc (Nat.le_refl _) _).alloc (by simp) _
  have s0 : W0.heap.size = w.heap.size + 2 := by rw [← hW0]; simp
  clear hW0
  refine (HC.out _ e0).mono ?_
  rintro e w1 ⟨rfl, hb1⟩
  have e1 := below_after e0 hb1 (Nat.le_refl _)
  have d6 := d6.below hb1 d6.lt
  have x0 := d6.cell 0
  have x1 := d6.cell 1
  have n0 := d6.frozen 0
  have n1 := d6.frozen 1
  go_wp2_with fail
  have d7 := d6.put2 (.slice none 0 0) (.slice none 0 0)
  have y0 := d7.cell 0
  have y1 := d7.cell 1
  refine bodyPost_ret (v := .tuple #[.agg #[.slice none 0 0, .slice none 0 0], .int .i64 E]) (by simp [results, Tryz.results17, go_sem, y0, y1]) rfl ?_
  exact ⟨rfl, (e1.setCell (p := ⟨w.heap.size + 1, 0, none⟩) (by show w.heap.size ≤ w.heap.size + 1; omega) _).setCell (p := ⟨w.heap.size + 1, 1, none⟩) (by show w.heap.size ≤ w.heap.size + 1; omega) _⟩

def RetMir (w : World) (order ts : List Int) (e : Ending) (w' : World) : Prop :=
  ∃ A c A' c', e = .returned (.tuple #[.agg #[.slice A order.length c, .slice A' ts.length c'], .int .i64 0]) ∧ Row w' w'.heap.size A (ic order.reverse) ∧ FreshA w.heap.size A ∧ order.length ≤ c ∧ Row w' w'.heap.size A' (ic ts) ∧ FreshA w.heap.size A' ∧ ts.length ≤ c' ∧ Below w.heap.size w w'
structure MirAt (w W : World) (q : Nat) (xs ys : List Int) (A A' : Option Addr) (n c n' c' : Nat) : Prop where
  q9 : Blk W q 29 #[.slice A n c, .slice A' n' c']
  d6 : Blk W (w.heap.size + 1) 29 #[.slice none 0 0, .slice none 0 0]
  o2 : W.ownsRow w.heap.size 3 1 (.slice A n c) n (ic xs)
  o3 : W.ownsRow w.heap.size 3 1 (.slice A' n' c') n' (ic ys)
  e : Below w.heap.size w W
  ne : ∀ b, some b = (Value.slice A' n' c').ownBlock → some b ≠ (Value.slice A n c).ownBlock
theorem own_off {W : World} {base size m q i : Nat} {e t : TypeId} {v u : Value} {vs : List Value} {cs : Array Value} (h : W.ownsRow base e size v m vs) (hb : Blk W q t cs) (hne : t ≠ e) : (W.setCell ⟨q, i, none⟩ u).ownsRow base e size v m vs :=
  own_keep h fun b hb' => Below.heap_setCell W ⟨q, i, none⟩ u b fun e => own_other h hb hne (by rw [← hb', e])
theorem mirAt_set {w w3 : World} {q b2 b3 n c n' c' : Nat} {A A' : Option Addr} {xs ys : List Int} (d9 : Blk w3 q 29 #[.slice none 0 0, .slice none 0 0]) (d6 : Blk w3 (w.heap.size + 1) 29 #[.slice none 0 0, .slice none 0 0]) (o2 : w3.ownsRow b2 3 1 (.slice A n c) n (ic xs)) (o3 : w3.ownsRow b3 3 1 (.slice A' n' c') n' (ic ys))
    (e : Below w.heap.size w w3) (h2 : w.heap.size ≤ b2) (h3 : w.heap.size ≤ b3) (hlt : ∀ b, some b = (Value.slice A n c).ownBlock → b < b3) (hq : w.heap.size + 2 ≤ q) : MirAt w ((w3.setCell ⟨q, 0, none⟩ (.slice A n c)).setCell ⟨q, 1, none⟩ (.slice A' n' c')) q xs ys A A' n c n' c' where
  q9 := d9.put2 _ _
  d6 := (d6.far (by show w.heap.size + 1 ≠ q; omega) _).far (by show w.heap.size + 1 ≠ q; omega) _
  o2 := own_off (own_off (own_base o2 h2) d9 (by decide)) (d9.set 0 _) (by decide)
  o3 := own_off (own_off (own_base o3 h3) d9 (by decide)) (d9.set 0 _) (by decide)
  e := (e.setCell (p := ⟨q, 0, none⟩) (by show w.heap.size ≤ q; omega) _).setCell (p := ⟨q, 1, none⟩) (by show w.heap.size ≤ q; omega) _
  ne := fun b hb hb2 => by have := own_low o3 hb; have := hlt b hb2; omega
theorem mirAt_new {w w3 : World} {b2 b3 n c n' c' : Nat} {A A' : Option Addr} {xs ys : List Int} (d6 : Blk w3 (w.heap.size + 1) 29 #[.slice none 0 0, .slice none 0 0]) (o2 : w3.ownsRow b2 3 1 (.slice A n c) n (ic xs)) (o3 : w3.ownsRow b3 3 1 (.slice A' n' c') n' (ic ys))
    (e : Below w.heap.size w w3) (h2 : w.heap.size ≤ b2) (h3 : w.heap.size ≤ b3) (hlt : ∀ b, some b = (Value.slice A n c).ownBlock → b < b3) : MirAt w (w3.alloc (.cells #[.slice A n c, .slice A' n' c'] 29)) w3.heap.size xs ys A A' n c n' c' where
  q9 := Blk.new _ _ _
  d6 := d6.alloc _
  o2 := own_alloc (own_base o2 h2) _
  o3 := own_alloc (own_base o3 h3) _
  e := e.alloc e.size _
  ne := fun b hb hb2 => by have := own_low o3 hb; have := hlt b hb2; omega
theorem MirAt.rev {w W W' : World} {q n c n' c' : Nat} {A A' : Option Addr} {xs ys zs : List Int} (h : MirAt w W q xs ys A A' n c n' c') (ho : W'.ownsRow w.heap.size 3 1 (.slice A n c) n (ic zs)) (hg : W.grownBy W' (Value.slice A n c).ownBlock) : MirAt w W' q zs ys A A' n c n' c' where
  q9 := h.q9.grownO hg (own_other h.o2 h.q9 (by decide))
  d6 := h.d6.grownO hg (own_other h.o2 h.d6 (by decide))
  o2 := ho
  o3 := own_keep h.o3 fun b hb => hg.block b (own_low h.o3 hb).2 (h.ne b hb)
  e := below_grownO h.e hg (Nat.le_refl _) fun b hb => own_apart h.o2 (.inl hb)
  ne := h.ne
theorem MirAt.fin {w W : World} {q c c' : Nat} {A A' : Option Addr} {order ts : List Int} (h : MirAt w W q order.reverse ts A A' order.length c ts.length c') :
    RetMir w order ts (.returned (.tuple #[.agg #[.slice A order.length c, .slice A' ts.length c'], .int .i64 0])) ((W.setCell ⟨w.heap.size + 1, 0, none⟩ (.slice A order.length c)).setCell ⟨w.heap.size + 1, 1, none⟩ (.slice A' ts.length c')) := by
  have o2 := own_off (i := 1) (u := .slice A' ts.length c') (own_off (i := 0) (u := .slice A order.length c) h.o2 h.d6 (by decide)) (h.d6.set 0 _) (by decide)
  have o3 := own_off (i := 1) (u := .slice A' ts.length c') (own_off (i := 0) (u := .slice A order.length c) h.o3 h.d6 (by decide)) (h.d6.set 0 _) (by decide)
  obtain ⟨_, _, e2, g2, r2⟩ := own_cap o2
  cases e2
  obtain ⟨_, _, e3, g3, r3⟩ := own_cap o3
  cases e3
  exact ⟨A, c, A', c', rfl, r2, own_fresh o2, g2, r3, own_fresh o3, g3, (h.e.setCell (p := ⟨w.heap.size + 1, 0, none⟩) (by show w.heap.size ≤ w.heap.size + 1; omega) _).setCell (p := ⟨w.heap.size + 1, 1, none⟩) (by show w.heap.size ≤ w.heap.size + 1; omega) _⟩
set_option maxHeartbeats 8000000 in
set_option maxRecDepth 100000 in
theorem Mirror_ok (A A2 A3 : Option Addr) (c c2 c3 B : Nat) (l : List NetAt) (order ts : List Int) (n : Int) (w : World) (h : NetsIn w B A l) (h2 : Row w B A2 (ic order)) (h3 : Row w B A3 (ic ts)) (hi : ∀ c ∈ order, I64 c) (hB : B ≤ w.heap.size) (hl : l.length ≤ 140737488355328) (hl2 : order.length ≤ 1000000) (hl3 : ts.length ≤ 1000000)
    (hL : layErr (l.map NetAt.net) n order ts = 0) :
    Calls Tryz.prog 17 #[.slice A l.length c, .int .i64 n, .agg #[.slice A2 order.length c2, .slice A3 ts.length c3]] w (RetMir w order ts) := by
  have HC := Lib.hid (fun w' (hb : Below w.heap.size w w') => CheckLayout_any A A2 A3 c c2 c3 B l order ts n w' (h.below hb hB) (h2.below hb hB) (h3.below hb hB) hi (by have := hb.size; omega) hl hl2 hl3)
  rw [hL] at HC
  have HR2 := Lib.hid (fun w' (hb : Below w.heap.size w w') => clone_any A2 c2 B order w' (h2.below hb hB) hl2)
  have HR3 := Lib.hid (fun w' (hb : Below w.heap.size w w') => clone_any A3 c3 B ts w' (h3.below hb hB) hl3)
  clear h h2 h3 hi hL
  go_enter Tryz.func17, Tryz.ntmps17
  go_wp2_with fail
  generalize hW0 : World.alloc (World.alloc w _) _ = W0
  have d5 : Blk W0 w.heap.size 29 #[.slice A2 order.length c2, .slice A3 ts.length c3] := by rw [← hW0]; exact (Blk.new _ _ _).alloc _
  have d6 : Blk W0 (w.heap.size + 1) 29 #[.slice none 0 0, .slice none 0 0] := by rw [← hW0]; exact Blk.new' _ _ _ _ (by simp)
  have e0 : Below w.heap.size w W0 := by rw [← hW0]; exact ((Below.refl _ w).alloc (Nat.le_refl _) _).alloc (by simp) _
  have s0 : W0.heap.size = w.heap.size + 2 := by rw [← hW0]; simp
  clear hW0
  refine (HC.out _ e0).mono ?_
  rintro e w1 ⟨rfl, hb1⟩
  have e1 := below_after e0 hb1 (Nat.le_refl _)
  have s1 := hb1.size
  have d5 := d5.below hb1 d5.lt
  have d6 := d6.below hb1 d6.lt
  clear hb1 e0
  have x0 := d5.cell 0
  have x1 := d5.cell 1
  go_wp2_with fail
  have e1d := e1.drew
  have d5d := d5.drew
  have d6d := d6.drew
  have e1a : Below w.heap.size w (w1.alloc (.cells #[.slice none 0 0, .slice none 0 0] 29)).drew := (e1.alloc e1.size (.cells #[.slice none 0 0, .slice none 0 0] 29)).drew
  have d5a := (d5.alloc (.cells #[.slice none 0 0, .slice none 0 0] 29)).drew
  have d6a := (d6.alloc (.cells #[.slice none 0 0, .slice none 0 0] 29)).drew
  have d9a := (Blk.new w1 29 #[.slice none 0 0, .slice none 0 0]).drew
  have x0a := (d5.alloc (.cells #[.slice none 0 0, .slice none 0 0] 29)).cell 0
  have x1a := (d5.alloc (.cells #[.slice none 0 0, .slice none 0 0] 29)).cell 1
  go_region_with (first
    | (go_at_call_of 53 A2; refine (HR2.out _ (by with_reducible assumption)).mono ?_; rintro e w2 ⟨v2, rfl, hown2, hb2⟩; obtain ⟨Av2, cv2, rfl, hcv2, hrv2⟩ := own_cap hown2; have e2 := below_after (B := w.heap.size) (by with_reducible assumption) hb2 (Nat.le_refl _); have d5w := Blk.below d5d hb2 d5d.lt; have d6w := Blk.below d6d hb2 d6d.lt; have y0 := d5w.cell 0; have y1 := d5w.cell 1; have y1a := (d5w.alloc (.cells #[.slice none 0 0, .slice none 0 0] 29)).cell 1; have e2a := e2.alloc e2.size (.cells #[.slice none 0 0, .slice none 0 0] 29))
    | (go_at_call_of 53 A2; refine (HR2.out _ (by with_reducible assumption)).mono ?_; rintro e w2 ⟨v2, rfl, hown2, hb2⟩; obtain ⟨Av2, cv2, rfl, hcv2, hrv2⟩ := own_cap hown2; have e2 := below_after (B := w.heap.size) (by with_reducible assumption) hb2 (Nat.le_refl _); have d5w := Blk.below d5a hb2 d5a.lt; have d6w := Blk.below d6a hb2 d6a.lt; have d9 := Blk.below d9a hb2 d9a.lt; have z0 := d9.cell 0; have z1 := d9.cell 1; have m0 := d9.frozen 0; have m1 := d9.frozen 1; have y0 := d5w.cell 0; have y1 := d5w.cell 1)
    | (go_at_call_of 53 A3; refine (HR3.out _ (by with_reducible assumption)).mono ?_; rintro e w3 ⟨v3, rfl, hown3, hb3⟩; obtain ⟨Av3, cv3, rfl, hcv3, hrv3⟩ := own_cap hown3; have e3 := below_after (B := w.heap.size) (by with_reducible assumption) hb3 (Nat.le_refl _); have d9 := Blk.below d9 hb3 d9.lt; have d6x := Blk.below d6w hb3 d6w.lt; have own2 := own_below hown2 hb3; have z0 := d9.cell 0; have z1 := d9.cell 1; have m0 := d9.frozen 0; have m1 := d9.frozen 1)
    | (go_at_call_of 53 A3; refine (HR3.out _ (by with_reducible assumption)).mono ?_; rintro e w3 ⟨v3, rfl, hown3, hb3⟩; obtain ⟨Av3, cv3, rfl, hcv3, hrv3⟩ := own_cap hown3; have e3 := below_after (B := w.heap.size) (by with_reducible assumption) hb3 (Nat.le_refl _); have d9 := (Blk.new w2 29 #[.slice none 0 0, .slice none 0 0]).below hb3 (by simp); have d6x := Blk.below (d6w.alloc (.cells #[.slice none 0 0, .slice none 0 0] 29)) hb3 (d6w.alloc (.cells #[.slice none 0 0, .slice none 0 0] 29)).lt; have own2 := own_below (own_alloc hown2 (.cells #[.slice none 0 0, .slice none 0 0] 29)) hb3; have z0 := d9.cell 0; have z1 := d9.cell 1; have m0 := d9.frozen 0; have m1 := d9.frozen 1)
    | (go_at_call_of 53 A3; refine (HR3.out _ (by with_reducible assumption)).mono ?_; rintro e w3 ⟨v3, rfl, hown3, hb3⟩; obtain ⟨Av3, cv3, rfl, hcv3, hrv3⟩ := own_cap hown3; have e3 := below_after (B := w.heap.size) (by with_reducible assumption) hb3 (Nat.le_refl _); have d6x := Blk.below d6w hb3 d6w.lt; have own2 := own_below hown2 hb3))
  all_goals have hlt2 : ∀ b, some b = (Value.slice Av2 order.length cv2).ownBlock → b < w2.heap.size := fun b hb => (own_low hown2 hb).2
  all_goals have hz2 := hb2.size
  all_goals have hz3 := hb3.size
  all_goals simp only [World.size_drew, World.size_alloc] at hz2 hz3
  all_goals have HREV := Lib.hid (fun (W : World) (q : Nat) (h : MirAt w W q order ts Av2 Av3 order.length cv2 ts.length cv3) => reverse_any w.heap.size order.length _ order W h.o2 hl2)
  all_goals first
    | (have hat := mirAt_set (w := w) d9 d6x own2 hown3 e3 (by (first | omega | (simp only [World.size_drew]; omega) | (simp only [World.size_alloc]; omega) | (simp only [World.size_drew, World.size_alloc]; omega))) (by (first | omega | (simp only [World.size_drew]; omega) | (simp only [World.size_alloc]; omega) | (simp only [World.size_drew, World.size_alloc]; omega))) (fun b hb => by have := hlt2 b hb; (first | omega | (simp only [World.size_drew]; omega) | (simp only [World.size_alloc]; omega) | (simp only [World.size_drew, World.size_alloc]; omega))) (by omega); generalize World.setCell (World.setCell w3 _ _) _ _ = W4 at *)
    | (have hat := mirAt_new (w := w) d6x own2 hown3 e3 (by (first | omega | (simp only [World.size_drew]; omega) | (simp only [World.size_alloc]; omega) | (simp only [World.size_drew, World.size_alloc]; omega))) (by (first | omega | (simp only [World.size_drew]; omega) | (simp only [World.size_alloc]; omega) | (simp only [World.size_drew, World.size_alloc]; omega))) (fun b hb => by have := hlt2 b hb; (first | omega | (simp only [World.size_drew]; omega) | (simp only [World.size_alloc]; omega) | (simp only [World.size_drew, World.size_alloc]; omega))); generalize World.alloc w3 _ = W4 at *)
  all_goals have z0 := hat.q9.cell 0
  all_goals go_wp2_with fail
  all_goals refine (HREV.out _ _ hat).mono ?_
  all_goals rintro e w5 ⟨rfl, ho, hg⟩
  all_goals have h5 := hat.rev ho hg
  all_goals have z0 := h5.q9.cell 0
  all_goals have z1 := h5.q9.cell 1
  all_goals have x0 := h5.d6.cell 0
  all_goals have x1 := h5.d6.cell 1
  all_goals have n0 := h5.d6.frozen 0
  all_goals have n1 := h5.d6.frozen 1
  all_goals go_wp2_with fail
  all_goals have d7 := h5.d6.put2 (.slice Av2 order.length cv2) (.slice Av3 ts.length cv3)
  all_goals have y0 := d7.cell 0
  all_goals have y1 := d7.cell 1
  all_goals refine bodyPost_ret (v := .tuple #[.agg #[.slice Av2 order.length cv2, .slice Av3 ts.length cv3], .int .i64 0]) (by simp [results, Tryz.results17, go_sem, y0, y1]) rfl ?_
  all_goals exact h5.fin
end Go.Proofs.YtbldpojkpmafpaaGreatDoor

/- integraphlaw07.BusCrossings: the walk. -/
namespace Go.Proofs.YtbldpojkpmafpaaGreatDoor
open Go.RowKit Sv
set_option maxRecDepth 100000
set_option linter.unusedVariables false
noncomputable section
def mirB (nets : List (Int × List Int)) (n : Int) (order ts : List Int) : (List Int × List Int) × Int := if layErr nets n order ts = 0 then ((order.reverse, ts), 0) else (([], []), layErr nets n order ts)
noncomputable def cMirB : Ctr := { f := 17, ps := [.list false tN, .int .i64, .pair (.list false (.int .i64)) (.list false (.int .i64))], rs := [.pair (.list false (.int .i64)) (.list false (.int .i64)), .int .i64], fresh := true, pre := fun d => okLay d.1 d.2.2.1.1 d.2.2.1.2, fn := fun d => ((mirB d.1 d.2.1 d.2.2.1.1 d.2.2.1.2).1, ((mirB d.1 d.2.1 d.2.2.1.1 d.2.2.1.2).2, ())) }
theorem mir_bad (nets : List (Int × List Int)) (n : Int) (order ts : List Int) (h : okLay nets order ts = true) : Holds Tryz.prog true 17 [nv nets, iv n, yv order ts] (.tuple [yv (mirB nets n order ts).1.1 (mirB nets n order ts).1.2, iv (mirB nets n order ts).2]) := by
  obtain ⟨h1, h2, h3, h4, h5⟩ := okLay_iff h
  intro w F xs hF hd
  obtain ⟨A, A2, A3, c, c2, c3, l, rfl, hl, hN, hR, hS, q2, q3⟩ := dens_lay hF h1 hd
  have hll : l.length = nets.length := by rw [← hl, List.length_map]
  by_cases hE : layErr nets n order ts = 0
  · have e : mirB nets n order ts = ((order.reverse, ts), 0) := by unfold mirB; rw [if_pos hE]
    rw [e]
    refine (Mirror_ok A A2 A3 c c2 c3 w.heap.size l order ts n w hN hR hS h4 (Nat.le_refl _) (by omega) (by omega) (by omega) (by rw [hl]; exact hE)).mono fun e w' ⟨Ao, co, At, ct, g1, g2, g3, g4, g5, g6, g7, g8⟩ => ?_
    have hd1 := ints_den (n0 := w.heap.size) (at' := F.at') g2 (.inr g3) (by rw [List.length_reverse]; exact g4)
    have hd2 := ints_den (n0 := w.heap.size) (at' := F.at') g5 (.inr g6) g7
    rw [List.length_reverse] at hd1
    refine ⟨_, ⟨F.at', fun b => if w.heap.size ≤ b then cellsOf? w' b else none⟩, g1, .tuple (.cons (.agg (.cons hd1 (.cons hd2 .nil))) (.cons (.raw _) .nil)), ⟨hF.glob, hF.all, fun b A hb => ?_⟩, fun b A hb => .inr ?_, g8⟩
    · have hb : (if w.heap.size ≤ b then cellsOf? w' b else none) = some A := hb
      split at hb
      · exact cellsOf?_some.1 hb
      · cases hb
    · have hb : (if w.heap.size ≤ b then cellsOf? w' b else none) = some A := hb
      split at hb
      · assumption
      · cases hb
  · have e : mirB nets n order ts = (([], []), layErr nets n order ts) := by unfold mirB; rw [if_neg hE]
    rw [e]
    refine (Mirror_bad A A2 A3 c c2 c3 w.heap.size l order ts n w hN hR hS h4 (Nat.le_refl _) (by omega) (by omega) (by omega) (layErr nets n order ts) (by rw [hl]) hE).mono fun e w' ⟨g1, g2⟩ => ?_
    exact ⟨_, ⟨F.at', fun _ => none⟩, g1, .tuple (.cons (.agg (.cons (.lstNil fun e => by cases e) (.cons (.lstNil fun e => by cases e) .nil))) (.cons (.raw _) .nil)), ⟨hF.glob, hF.all, fun b A h => by cases h⟩, (fun b A h => by cases h), g2⟩
theorem cMirB_ok : cMirB.Ok Tryz.prog := fun ⟨nets, n, ⟨order, ts⟩, _⟩ h => mir_bad nets n order ts h
end
end Go.Proofs.YtbldpojkpmafpaaGreatDoor

/- The best numbering of the tracks, in plain Lean. -/
namespace Go.Proofs.YtbldpojkpmafpaaGreatDoor
open Go.RowKit Sv
set_option linter.unusedVariables false
theorem idx_of {u : List Int} (hu : u.Nodup) {t : Int} (ht : t ∈ u) : u.idxOf t < u.length ∧ u.getD (u.idxOf t) 0 = t ∧ ∀ a, a < u.length → (t = u.getD a 0 ↔ a = u.idxOf t) := by
  have h1 : u.idxOf t < u.length := List.idxOf_lt_length_iff.2 ht
  have h2 : u.getD (u.idxOf t) 0 = t := by rw [getD_lt h1]; exact List.getElem_idxOf h1
  refine ⟨h1, h2, fun a ha => ⟨fun e => ?_, fun e => by rw [e, h2]⟩⟩
  rw [← h2, getD_lt h1, getD_lt ha] at e
  exact ((List.getElem_inj hu).1 e).symm
section
variable {nets : List (Int × List Int)} {n : Int} {order ts : List Int}
theorem pos_idx {u : List Int} {t : Int} (ht : t ∈ u) : Bus.pos u t = (u.idxOf t : Int) := by
  suffices h : ∀ (u : List Int) (k : Int), t ∈ u → Bus.posFrom k u t = k + (u.idxOf t : Int) by
    have := h u 0 ht
    unfold Bus.pos
    omega
  intro u
  induction u with
  | nil => intro k h; cases h
  | cons x r ih =>
    intro k h
    unfold Bus.posFrom
    by_cases e : x = t
    · rw [if_pos e, List.idxOf_cons, e]; simp
    · rw [if_neg e, ih (k + 1) ((List.mem_cons.1 h).resolve_left fun e2 => e e2.symm), List.idxOf_cons]
      have : (x == t) = false := by rw [beq_eq_false_iff_ne]; exact e
      rw [this]
      simp
      omega
end
end Go.Proofs.YtbldpojkpmafpaaGreatDoor

/- The numbers of the tracks, in plain Lean: what does not depend on them. -/
namespace Go.Proofs.YtbldpojkpmafpaaGreatDoor
open Go.RowKit Sv
set_option linter.unusedVariables false
structure Pat (a b : List Int) : Prop where
  len : a.length = b.length
  eq : ∀ i k, i < a.length → k < a.length → (a.getD i 0 = a.getD k 0 ↔ b.getD i 0 = b.getD k 0)
theorem Pat.symm {a b : List Int} (h : Pat a b) : Pat b a := ⟨h.len.symm, fun i k hi hk => (h.eq i k (by rw [h.len]; exact hi) (by rw [h.len]; exact hk)).symm⟩
theorem Pat.trans {a b c : List Int} (h : Pat a b) (g : Pat b c) : Pat a c := ⟨h.len.trans g.len, fun i k hi hk => (h.eq i k hi hk).trans (g.eq i k (by rw [← h.len]; exact hi) (by rw [← h.len]; exact hk))⟩
section
variable {nets : List (Int × List Int)} {n : Int} {order ts : List Int}
end
end Go.Proofs.YtbldpojkpmafpaaGreatDoor

/- The columns in the opposite order, in plain Lean. -/
namespace Go.Proofs.YtbldpojkpmafpaaGreatDoor
open Go.RowKit Sv
set_option linter.unusedVariables false
theorem nd_rev {l : List Int} (h : l.Nodup) : l.reverse.Nodup := (List.reverse_perm l).nodup_iff.2 h
theorem pos_rev {o : List Int} (hn : o.Nodup) {c : Int} (hc : c ∈ o) : Bus.pos o.reverse c = (o.length : Int) - 1 - Bus.pos o c := by
  have hr : c ∈ o.reverse := List.mem_reverse.2 hc
  rw [pos_idx hr, pos_idx hc]
  obtain ⟨h1, h2, _⟩ := idx_of hn hc
  obtain ⟨g1, g2, g3⟩ := idx_of (nd_rev hn) hr
  have hk : o.length - 1 - o.idxOf c < o.reverse.length := by rw [List.length_reverse]; omega
  have e : o.reverse.getD (o.length - 1 - o.idxOf c) 0 = c := by
    rw [getD_lt hk, List.getElem_reverse]
    rw [getD_lt h1] at h2
    have : o.length - 1 - (o.length - 1 - o.idxOf c) = o.idxOf c := by omega
    simp only [this]
    exact h2
  have := (g3 _ hk).1 e.symm
  omega
theorem ext_flip {g g' : Int → Int} {N : Int} (hN : N ≤ 96) {l : List Int} (hne : l ≠ []) (h : ∀ c ∈ l, 0 ≤ g c ∧ g c ≤ N ∧ g' c = N - g c) : Bus.ext g' l = (N - (Bus.ext g l).2, N - (Bus.ext g l).1) := by
  unfold Bus.ext
  obtain ⟨a1, a2, a3⟩ := foldMin g l 97
  obtain ⟨b1, b2, b3⟩ := foldMin g' l 97
  obtain ⟨c1, c2, c3⟩ := foldMax g l (-1)
  obtain ⟨d1, d2, d3⟩ := foldMax g' l (-1)
  obtain ⟨c0, hc0⟩ := List.exists_mem_of_ne_nil l hne
  obtain ⟨h1, h2, h3⟩ := h c0 hc0
  have a2' := a2 c0 hc0
  have b2' := b2 c0 hc0
  have c2' := c2 c0 hc0
  have d2' := d2 c0 hc0
  refine Prod.ext ?_ ?_
  · show l.foldl (fun l c => min l (g' c)) 97 = N - l.foldl (fun h c => max h (g c)) (-1)
    refine Int.le_antisymm ?_ (b3 _ (by omega) fun c hc => ?_)
    · have := c3 (N - l.foldl (fun l c => min l (g' c)) 97) (by omega) fun c hc => by
        have := b2 c hc
        have := h c hc
        omega
      omega
    · have := c2 c hc
      have := h c hc
      omega
  · show l.foldl (fun h c => max h (g' c)) (-1) = N - l.foldl (fun l c => min l (g c)) 97
    refine Int.le_antisymm (d3 _ (by omega) fun c hc => ?_) ?_
    · have := a2 c hc
      have := h c hc
      omega
    · have := a3 (N - l.foldl (fun h c => max h (g' c)) (-1)) (by omega) fun c hc => by
        have := d2 c hc
        have := h c hc
        omega
      omega
section
variable {nets : List (Int × List Int)} {n : Int} {order ts : List Int}
theorem rev_err (hO : Bus.orderErr order n = 0) : Bus.orderErr order.reverse n = 0 := by
  obtain ⟨h1, h2, h3⟩ := Bus.orderErr_zero hO
  unfold Bus.orderErr
  rw [if_neg (by rw [List.length_reverse, h1]; exact fun h => h rfl)]
  exact orderFrom_ok _ _ _ (fun c hc => ⟨(h3 c (List.mem_reverse.1 hc)).1, (h3 c (List.mem_reverse.1 hc)).2, by simp⟩) (nd_rev h2)
theorem rev_both (hE : Bus.bothErr nets n order = 0) : Bus.bothErr nets n order.reverse = 0 := both_iff.2 ⟨(both_iff.1 hE).1, rev_err (both_iff.1 hE).2⟩
theorem at_rev (hE : Bus.bothErr nets n order = 0) {c : Int} (hc : 0 ≤ c ∧ c < n) :
    0 ≤ Bus.atUp order order.length c.toNat ∧ Bus.atUp order order.length c.toNat ≤ (order.length : Int) - 1 ∧ Bus.atUp order.reverse order.reverse.length c.toNat = (order.length : Int) - 1 - Bus.atUp order order.length c.toNat := by
  obtain ⟨h1, h2, h3⟩ := Bus.orderErr_zero (both_iff.1 hE).2
  have hm : c ∈ order := has_all order.length order h2 rfl (fun d hd => by have := h3 d hd; omega) c hc.1 (by omega)
  obtain ⟨X, rfl⟩ : ∃ X : Nat, c = (X : Int) := ⟨c.toNat, by omega⟩
  rw [Int.toNat_natCast, atUp_pos order h2 X hm, atUp_pos order.reverse (nd_rev h2) X (List.mem_reverse.2 hm), pos_rev h2 hm]
  have := Bus.pos_bd hm
  omega
def flip2 (N : Int) (p : Int × Int) : Int × Int := (N - p.2, N - p.1)
theorem exts_rev (hE : Bus.bothErr nets n order = 0) : extsOf nets order.reverse = (extsOf nets order).map (flip2 ((order.length : Int) - 1)) := by
  obtain ⟨n1, n97, l64, hcols⟩ := Bus.netsErr_zero (both_iff.1 hE).1
  obtain ⟨h1, h2, h3⟩ := Bus.orderErr_zero (both_iff.1 hE).2
  unfold extsOf Bus.exts
  rw [List.map_map]
  refine List.map_congr_left fun x hx => ?_
  exact ext_flip (by omega) (hcols x hx).1 fun c hc => at_rev hE ((hcols x hx).2 c hc)
theorem getD_flip (xs : List (Int × Int)) (N : Int) {k : Nat} (hk : k < xs.length) : (xs.map (flip2 N)).getD k (0, 0) = flip2 N (xs.getD k (0, 0)) := by
  simp [List.getD_eq_getElem?_getD, hk]
theorem cov_flip (xs : List (Int × Int)) (N p : Int) {k : Nat} (hk : k < xs.length) : covB (xs.map (flip2 N)) k (N - p) = covB xs k p := by
  unfold covB
  rw [getD_flip xs N hk, Bool.and_comm]
  unfold flip2
  congr 1
  · exact decide_eq_decide.2 (by simp only; omega)
  · exact decide_eq_decide.2 (by simp only; omega)
theorem cross_rev (hE : Bus.bothErr nets n order = 0) (ts : List Int) : crossOf nets order.reverse ts manyI = crossOf nets order ts manyI := by
  obtain ⟨n1, n97, l64, hcols⟩ := Bus.netsErr_zero (both_iff.1 hE).1
  rw [show manyI = 1099511627776 from rfl, cross_sum hE, cross_sum (rev_both hE)]
  unfold crossSum
  rw [tap_sm, tap_sm, List.length_map]
  refine sm_congr fun j hj => ?_
  have hjm : (nets.map Prod.snd).getD j [] = (nets.getD j (0, [])).2 := cols_at nets j
  rw [hjm]
  refine sm_congr fun c hc => ?_
  have hin := (hcols (nets.getD j (0, [])) (getN_mem hj)).2 ((nets.getD j (0, [])).2.getD c 0) (by rw [getD_lt hc]; exact List.getElem_mem _)
  obtain ⟨_, _, e⟩ := at_rev hE hin
  simp only [Nat.zero_add]
  rw [e, cross_up_sm, cross_up_sm, extsOf_len, extsOf_len]
  refine sm_congr fun k hk => ?_
  rw [exts_rev hE, cov_flip _ _ _ (by rw [extsOf_len]; exact hk)]
theorem sum_snoc (l : List (Int × Int)) (p : Int × Int) : sumExt (l ++ [p]) = sumExt l + (p.2 - p.1) := by unfold sumExt; rw [List.foldl_append]; rfl
theorem len_rev (hE : Bus.bothErr nets n order = 0) : sumExt (extsOf nets order.reverse) = sumExt (extsOf nets order) := by
  rw [exts_rev hE]
  generalize extsOf nets order = xs
  refine snoc_ind (motive := fun xs => sumExt (xs.map (flip2 ((order.length : Int) - 1))) = sumExt xs) rfl (fun l x ih => ?_) xs
  rw [List.map_append, List.map_cons, List.map_nil, sum_snoc, sum_snoc, ih]
  unfold flip2
  simp only
  omega
theorem conf_flip (xs : List (Int × Int)) (ts : List Int) (N : Int) : ∀ i, i ≤ xs.length → conf (xs.map (flip2 N)) ts i = conf xs ts i
  | 0, _ => rfl
  | i + 1, hi => by
    have hr : ∀ k, k ≤ xs.length → confRow (xs.map (flip2 N)) ts i k = confRow xs ts i k := fun k => by
      induction k with
      | zero => intro _; rfl
      | succ k ih =>
        intro hk
        unfold confRow
        rw [ih (by omega)]
        congr 1
        congr 1
        unfold meetB
        rw [getD_flip xs N (by omega), getD_flip xs N (by omega), Bool.and_comm]
        unfold flip2
        congr 1
        · exact decide_eq_decide.2 (by simp only; omega)
        · exact decide_eq_decide.2 (by simp only; omega)
    unfold conf
    rw [conf_flip xs ts N i (by omega), hr i (by omega)]
theorem lay_rev (h : layErr nets n order ts = 0) : layErr nets n order.reverse ts = 0 := by
  have hE := both_of_lay h
  obtain ⟨l1, l2, l3⟩ := lay_zero hE h
  have e2 := rev_both hE
  unfold layErr at h ⊢
  rw [if_neg (fun g => g hE)] at h
  rw [if_neg (fun g => g e2)]
  have e3 : conf (extsOf nets order.reverse) ts nets.length = conf (extsOf nets order) ts nets.length := by
    rw [exts_rev hE]
    exact conf_flip _ _ _ _ (by rw [extsOf_len]; exact Nat.le_refl _)
  rw [e3]
  exact h
end
end Go.Proofs.YtbldpojkpmafpaaGreatDoor
