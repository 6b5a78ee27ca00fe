/- Package bus: Mirror. -/
import Derived.Test.YtbldpojkpmafpaaGreatDoorZBusPairs
import Derived.Test.YtbldpojkpmafpaaGreatDoorZVPairLaw
import Derived.Deep.RegionWith
namespace Go.Proofs.YtbldpojkpmafpaaGreatDoor
open Go.RowKit

set_option maxHeartbeats 8000000 in
set_option maxRecDepth 100000 in
theorem Mirror_bad (A A2 A3 : Option Addr) (c c2 c3 B : Nat) (l : List NetAt) (order ts : List Int) (n : Int) (w : World) (h : NetsIn w B A l) (h2 : Row w B A2 (order.map (Value.int .i64))) (h3 : Row w B A3 (ts.map (Value.int .i64))) (hi : ∀ c ∈ order, I64 c) (hB : B ≤ w.heap.size) (hl : l.length ≤ 140737488355328) (hl2 : order.length ≤ 1000000) (hl3 : ts.length ≤ 1000000)
    (E : Int) (hE : layErr (l.map NetAt.net) n order ts = E) (h0 : E ≠ 0) :
    Calls Tryz.prog 17 #[.slice A l.length c, .int .i64 n, .agg #[.slice A2 order.length c2, .slice A3 ts.length c3]] w fun e w' => e = .returned (.tuple #[.agg #[.slice none 0 0, .slice none 0 0], .int .i64 E]) ∧ Below w.heap.size w w' := by
  have HC := Lib.hid (fun w' (hb : Below w.heap.size w w') => CheckLayout_any A A2 A3 c c2 c3 B l order ts n w' (h.below hb hB) (h2.below hb hB) (h3.below hb hB) hi (by have := hb.size; omega) hl hl2 hl3)
  rw [hE] at HC
  have hne : (E != 0) = true := by rw [bne_iff_ne]; exact h0
  clear h h2 h3 hi hE
  go_enter Tryz.func17, Tryz.ntmps17
  go_wp2_with fail
  generalize hW0 : World.alloc (World.alloc w _) _ = W0
  have d6 : Blk W0 (w.heap.size + 1) 29 #[.slice none 0 0, .slice none 0 0] := by rw [← hW0]; exact Blk.new' _ _ _ _ (by simp)
  have e0 : Below w.heap.size w W0 := by rw [← hW0]; exact ((Below.refl _ w).alloc (Nat.le_refl _) _).alloc (by simp) _
  have s0 : W0.heap.size = w.heap.size + 2 := by rw [← hW0]; simp
  clear hW0
  refine (HC.out _ e0).mono ?_
  rintro e w1 ⟨rfl, hb1⟩
  have e1 := below_after e0 hb1 (Nat.le_refl _)
  have d6 := d6.below hb1 d6.lt
  have x0 := d6.cell 0
  have x1 := d6.cell 1
  have n0 := d6.frozen 0
  have n1 := d6.frozen 1
  go_wp2_with fail
  have d7 := d6.put2 (.slice none 0 0) (.slice none 0 0)
  have y0 := d7.cell 0
  have y1 := d7.cell 1
  refine bodyPost_ret (v := .tuple #[.agg #[.slice none 0 0, .slice none 0 0], .int .i64 E]) (by simp [results, Tryz.results17, go_sem, y0, y1]) rfl ?_
  exact ⟨rfl, (e1.setCell (p := ⟨w.heap.size + 1, 0, none⟩) (by show w.heap.size ≤ w.heap.size + 1; omega) _).setCell (p := ⟨w.heap.size + 1, 1, none⟩) (by show w.heap.size ≤ w.heap.size + 1; omega) _⟩

def RetMir (w : World) (order ts : List Int) (e : Ending) (w' : World) : Prop :=
  ∃ A c A' c', e = .returned (.tuple #[.agg #[.slice A order.length c, .slice A' ts.length c'], .int .i64 0]) ∧ Row w' w'.heap.size A (ic order.reverse) ∧ FreshA w.heap.size A ∧ order.length ≤ c ∧ Row w' w'.heap.size A' (ic ts) ∧ FreshA w.heap.size A' ∧ ts.length ≤ c' ∧ Below w.heap.size w w'
structure MirAt (w W : World) (q : Nat) (xs ys : List Int) (A A' : Option Addr) (n c n' c' : Nat) : Prop where
  q9 : Blk W q 29 #[.slice A n c, .slice A' n' c']
  d6 : Blk W (w.heap.size + 1) 29 #[.slice none 0 0, .slice none 0 0]
  o2 : W.ownsRow w.heap.size 3 1 (.slice A n c) n (ic xs)
  o3 : W.ownsRow w.heap.size 3 1 (.slice A' n' c') n' (ic ys)
  e : Below w.heap.size w W
  ne : ∀ b, some b = (Value.slice A' n' c').ownBlock → some b ≠ (Value.slice A n c).ownBlock
theorem own_off {W : World} {base size m q i : Nat} {e t : TypeId} {v u : Value} {vs : List Value} {cs : Array Value} (h : W.ownsRow base e size v m vs) (hb : Blk W q t cs) (hne : t ≠ e) : (W.setCell ⟨q, i, none⟩ u).ownsRow base e size v m vs :=
  own_keep h fun b hb' => Below.heap_setCell W ⟨q, i, none⟩ u b fun e => own_other h hb hne (by rw [← hb', e])
theorem own_low {W : World} {base size n c : Nat} {e : TypeId} {A : Option Addr} {vs : List Value} (h : W.ownsRow base e size (.slice A n c) n vs) {b : Nat} (hb : some b = (Value.slice A n c).ownBlock) : base ≤ b ∧ b < W.heap.size := by
  constructor
  · rcases Nat.lt_or_ge b base with g | g
    · exact absurd hb (own_apart h (.inl g))
    · exact g
  · rcases Nat.lt_or_ge b W.heap.size with g | g
    · exact g
    · exact absurd hb (own_apart h (.inr g))
theorem mirAt_set {w w3 : World} {q b2 b3 n c n' c' : Nat} {A A' : Option Addr} {xs ys : List Int} (d9 : Blk w3 q 29 #[.slice none 0 0, .slice none 0 0]) (d6 : Blk w3 (w.heap.size + 1) 29 #[.slice none 0 0, .slice none 0 0]) (o2 : w3.ownsRow b2 3 1 (.slice A n c) n (ic xs)) (o3 : w3.ownsRow b3 3 1 (.slice A' n' c') n' (ic ys))
    (e : Below w.heap.size w w3) (h2 : w.heap.size ≤ b2) (h3 : w.heap.size ≤ b3) (hlt : ∀ b, some b = (Value.slice A n c).ownBlock → b < b3) (hq : w.heap.size + 2 ≤ q) : MirAt w ((w3.setCell ⟨q, 0, none⟩ (.slice A n c)).setCell ⟨q, 1, none⟩ (.slice A' n' c')) q xs ys A A' n c n' c' where
  q9 := d9.put2 _ _
  d6 := (d6.far (by show w.heap.size + 1 ≠ q; omega) _).far (by show w.heap.size + 1 ≠ q; omega) _
  o2 := own_off (own_off (own_base o2 h2) d9 (by decide)) (d9.set 0 _) (by decide)
  o3 := own_off (own_off (own_base o3 h3) d9 (by decide)) (d9.set 0 _) (by decide)
  e := (e.setCell (p := ⟨q, 0, none⟩) (by show w.heap.size ≤ q; omega) _).setCell (p := ⟨q, 1, none⟩) (by show w.heap.size ≤ q; omega) _
  ne := fun b hb hb2 => by have := own_low o3 hb; have := hlt b hb2; omega
theorem mirAt_new {w w3 : World} {b2 b3 n c n' c' : Nat} {A A' : Option Addr} {xs ys : List Int} (d6 : Blk w3 (w.heap.size + 1) 29 #[.slice none 0 0, .slice none 0 0]) (o2 : w3.ownsRow b2 3 1 (.slice A n c) n (ic xs)) (o3 : w3.ownsRow b3 3 1 (.slice A' n' c') n' (ic ys))
    (e : Below w.heap.size w w3) (h2 : w.heap.size ≤ b2) (h3 : w.heap.size ≤ b3) (hlt : ∀ b, some b = (Value.slice A n c).ownBlock → b < b3) : MirAt w (w3.alloc (.cells #[.slice A n c, .slice A' n' c'] 29)) w3.heap.size xs ys A A' n c n' c' where
  q9 := Blk.new _ _ _
  d6 := d6.alloc _
  o2 := own_alloc (own_base o2 h2) _
  o3 := own_alloc (own_base o3 h3) _
  e := e.alloc e.size _
  ne := fun b hb hb2 => by have := own_low o3 hb; have := hlt b hb2; omega
theorem MirAt.rev {w W W' : World} {q n c n' c' : Nat} {A A' : Option Addr} {xs ys zs : List Int} (h : MirAt w W q xs ys A A' n c n' c') (ho : W'.ownsRow w.heap.size 3 1 (.slice A n c) n (ic zs)) (hg : W.grownBy W' (Value.slice A n c).ownBlock) : MirAt w W' q zs ys A A' n c n' c' where
  q9 := h.q9.grownO hg (own_other h.o2 h.q9 (by decide))
  d6 := h.d6.grownO hg (own_other h.o2 h.d6 (by decide))
  o2 := ho
  o3 := own_keep h.o3 fun b hb => hg.block b (own_low h.o3 hb).2 (h.ne b hb)
  e := below_grownO h.e hg (Nat.le_refl _) fun b hb => own_apart h.o2 (.inl hb)
  ne := h.ne
theorem MirAt.fin {w W : World} {q c c' : Nat} {A A' : Option Addr} {order ts : List Int} (h : MirAt w W q order.reverse ts A A' order.length c ts.length c') :
    RetMir w order ts (.returned (.tuple #[.agg #[.slice A order.length c, .slice A' ts.length c'], .int .i64 0])) ((W.setCell ⟨w.heap.size + 1, 0, none⟩ (.slice A order.length c)).setCell ⟨w.heap.size + 1, 1, none⟩ (.slice A' ts.length c')) := by
  have o2 := own_off (i := 1) (u := .slice A' ts.length c') (own_off (i := 0) (u := .slice A order.length c) h.o2 h.d6 (by decide)) (h.d6.set 0 _) (by decide)
  have o3 := own_off (i := 1) (u := .slice A' ts.length c') (own_off (i := 0) (u := .slice A order.length c) h.o3 h.d6 (by decide)) (h.d6.set 0 _) (by decide)
  obtain ⟨_, _, e2, g2, r2⟩ := own_cap o2
  cases e2
  obtain ⟨_, _, e3, g3, r3⟩ := own_cap o3
  cases e3
  exact ⟨A, c, A', c', rfl, r2, own_fresh o2, g2, r3, own_fresh o3, g3, (h.e.setCell (p := ⟨w.heap.size + 1, 0, none⟩) (by show w.heap.size ≤ w.heap.size + 1; omega) _).setCell (p := ⟨w.heap.size + 1, 1, none⟩) (by show w.heap.size ≤ w.heap.size + 1; omega) _⟩
set_option maxHeartbeats 8000000 in
set_option maxRecDepth 100000 in
theorem Mirror_ok (A A2 A3 : Option Addr) (c c2 c3 B : Nat) (l : List NetAt) (order ts : List Int) (n : Int) (w : World) (h : NetsIn w B A l) (h2 : Row w B A2 (ic order)) (h3 : Row w B A3 (ic ts)) (hi : ∀ c ∈ order, I64 c) (hB : B ≤ w.heap.size) (hl : l.length ≤ 140737488355328) (hl2 : order.length ≤ 1000000) (hl3 : ts.length ≤ 1000000)
    (hL : layErr (l.map NetAt.net) n order ts = 0) :
    Calls Tryz.prog 17 #[.slice A l.length c, .int .i64 n, .agg #[.slice A2 order.length c2, .slice A3 ts.length c3]] w (RetMir w order ts) := by
  have HC := Lib.hid (fun w' (hb : Below w.heap.size w w') => CheckLayout_any A A2 A3 c c2 c3 B l order ts n w' (h.below hb hB) (h2.below hb hB) (h3.below hb hB) hi (by have := hb.size; omega) hl hl2 hl3)
  rw [hL] at HC
  have HR2 := Lib.hid (fun w' (hb : Below w.heap.size w w') => clone_any A2 c2 B order w' (h2.below hb hB) hl2)
  have HR3 := Lib.hid (fun w' (hb : Below w.heap.size w w') => clone_any A3 c3 B ts w' (h3.below hb hB) hl3)
  clear h h2 h3 hi hL
  go_enter Tryz.func17, Tryz.ntmps17
  go_wp2_with fail
  generalize hW0 : World.alloc (World.alloc w _) _ = W0
  have d5 : Blk W0 w.heap.size 29 #[.slice A2 order.length c2, .slice A3 ts.length c3] := by rw [← hW0]; exact (Blk.new _ _ _).alloc _
  have d6 : Blk W0 (w.heap.size + 1) 29 #[.slice none 0 0, .slice none 0 0] := by rw [← hW0]; exact Blk.new' _ _ _ _ (by simp)
  have e0 : Below w.heap.size w W0 := by rw [← hW0]; exact ((Below.refl _ w).alloc (Nat.le_refl _) _).alloc (by simp) _
  have s0 : W0.heap.size = w.heap.size + 2 := by rw [← hW0]; simp
  clear hW0
  refine (HC.out _ e0).mono ?_
  rintro e w1 ⟨rfl, hb1⟩
  have e1 := below_after e0 hb1 (Nat.le_refl _)
  have s1 := hb1.size
  have d5 := d5.below hb1 d5.lt
  have d6 := d6.below hb1 d6.lt
  clear hb1 e0
  have x0 := d5.cell 0
  have x1 := d5.cell 1
  go_wp2_with fail
  have e1d := e1.drew
  have d5d := d5.drew
  have d6d := d6.drew
  have e1a : Below w.heap.size w (w1.alloc (.cells #[.slice none 0 0, .slice none 0 0] 29)).drew := (e1.alloc e1.size (.cells #[.slice none 0 0, .slice none 0 0] 29)).drew
  have d5a := (d5.alloc (.cells #[.slice none 0 0, .slice none 0 0] 29)).drew
  have d6a := (d6.alloc (.cells #[.slice none 0 0, .slice none 0 0] 29)).drew
  have d9a := (Blk.new w1 29 #[.slice none 0 0, .slice none 0 0]).drew
  have x0a := (d5.alloc (.cells #[.slice none 0 0, .slice none 0 0] 29)).cell 0
  have x1a := (d5.alloc (.cells #[.slice none 0 0, .slice none 0 0] 29)).cell 1
  go_region_with (first
    | (go_at_call_of 53 A2; refine (HR2.out _ (by with_reducible assumption)).mono ?_; rintro e w2 ⟨v2, rfl, hown2, hb2⟩; obtain ⟨Av2, cv2, rfl, hcv2, hrv2⟩ := own_cap hown2; have e2 := below_after (B := w.heap.size) (by with_reducible assumption) hb2 (Nat.le_refl _); have d5w := Blk.below d5d hb2 d5d.lt; have d6w := Blk.below d6d hb2 d6d.lt; have y0 := d5w.cell 0; have y1 := d5w.cell 1; have y1a := (d5w.alloc (.cells #[.slice none 0 0, .slice none 0 0] 29)).cell 1; have e2a := e2.alloc e2.size (.cells #[.slice none 0 0, .slice none 0 0] 29))
    | (go_at_call_of 53 A2; refine (HR2.out _ (by with_reducible assumption)).mono ?_; rintro e w2 ⟨v2, rfl, hown2, hb2⟩; obtain ⟨Av2, cv2, rfl, hcv2, hrv2⟩ := own_cap hown2; have e2 := below_after (B := w.heap.size) (by with_reducible assumption) hb2 (Nat.le_refl _); have d5w := Blk.below d5a hb2 d5a.lt; have d6w := Blk.below d6a hb2 d6a.lt; have d9 := Blk.below d9a hb2 d9a.lt; have z0 := d9.cell 0; have z1 := d9.cell 1; have m0 := d9.frozen 0; have m1 := d9.frozen 1; have y0 := d5w.cell 0; have y1 := d5w.cell 1)
    | (go_at_call_of 53 A3; refine (HR3.out _ (by with_reducible assumption)).mono ?_; rintro e w3 ⟨v3, rfl, hown3, hb3⟩; obtain ⟨Av3, cv3, rfl, hcv3, hrv3⟩ := own_cap hown3; have e3 := below_after (B := w.heap.size) (by with_reducible assumption) hb3 (Nat.le_refl _); have d9 := Blk.below d9 hb3 d9.lt; have d6x := Blk.below d6w hb3 d6w.lt; have own2 := own_below hown2 hb3; have z0 := d9.cell 0; have z1 := d9.cell 1; have m0 := d9.frozen 0; have m1 := d9.frozen 1)
    | (go_at_call_of 53 A3; refine (HR3.out _ (by with_reducible assumption)).mono ?_; rintro e w3 ⟨v3, rfl, hown3, hb3⟩; obtain ⟨Av3, cv3, rfl, hcv3, hrv3⟩ := own_cap hown3; have e3 := below_after (B := w.heap.size) (by with_reducible assumption) hb3 (Nat.le_refl _); have d9 := (Blk.new w2 29 #[.slice none 0 0, .slice none 0 0]).below hb3 (by simp); have d6x := Blk.below (d6w.alloc (.cells #[.slice none 0 0, .slice none 0 0] 29)) hb3 (d6w.alloc (.cells #[.slice none 0 0, .slice none 0 0] 29)).lt; have own2 := own_below (own_alloc hown2 (.cells #[.slice none 0 0, .slice none 0 0] 29)) hb3; have z0 := d9.cell 0; have z1 := d9.cell 1; have m0 := d9.frozen 0; have m1 := d9.frozen 1)
    | (go_at_call_of 53 A3; refine (HR3.out _ (by with_reducible assumption)).mono ?_; rintro e w3 ⟨v3, rfl, hown3, hb3⟩; obtain ⟨Av3, cv3, rfl, hcv3, hrv3⟩ := own_cap hown3; have e3 := below_after (B := w.heap.size) (by with_reducible assumption) hb3 (Nat.le_refl _); have d6x := Blk.below d6w hb3 d6w.lt; have own2 := own_below hown2 hb3))
  all_goals have hlt2 : ∀ b, some b = (Value.slice Av2 order.length cv2).ownBlock → b < w2.heap.size := fun b hb => (own_low hown2 hb).2
  all_goals have hz2 := hb2.size
  all_goals have hz3 := hb3.size
  all_goals simp only [World.size_drew, World.size_alloc] at hz2 hz3
  all_goals have HREV := Lib.hid (fun (W : World) (q : Nat) (h : MirAt w W q order ts Av2 Av3 order.length cv2 ts.length cv3) => reverse_any w.heap.size order.length _ order W h.o2 hl2)
  all_goals first
    | (have hat := mirAt_set (w := w) d9 d6x own2 hown3 e3 (by (first | omega | (simp only [World.size_drew]; omega) | (simp only [World.size_alloc]; omega) | (simp only [World.size_drew, World.size_alloc]; omega))) (by (first | omega | (simp only [World.size_drew]; omega) | (simp only [World.size_alloc]; omega) | (simp only [World.size_drew, World.size_alloc]; omega))) (fun b hb => by have := hlt2 b hb; (first | omega | (simp only [World.size_drew]; omega) | (simp only [World.size_alloc]; omega) | (simp only [World.size_drew, World.size_alloc]; omega))) (by omega); generalize World.setCell (World.setCell w3 _ _) _ _ = W4 at *)
    | (have hat := mirAt_new (w := w) d6x own2 hown3 e3 (by (first | omega | (simp only [World.size_drew]; omega) | (simp only [World.size_alloc]; omega) | (simp only [World.size_drew, World.size_alloc]; omega))) (by (first | omega | (simp only [World.size_drew]; omega) | (simp only [World.size_alloc]; omega) | (simp only [World.size_drew, World.size_alloc]; omega))) (fun b hb => by have := hlt2 b hb; (first | omega | (simp only [World.size_drew]; omega) | (simp only [World.size_alloc]; omega) | (simp only [World.size_drew, World.size_alloc]; omega))); generalize World.alloc w3 _ = W4 at *)
  all_goals have z0 := hat.q9.cell 0
  all_goals go_wp2_with fail
  all_goals refine (HREV.out _ _ hat).mono ?_
  all_goals rintro e w5 ⟨rfl, ho, hg⟩
  all_goals have h5 := hat.rev ho hg
  all_goals have z0 := h5.q9.cell 0
  all_goals have z1 := h5.q9.cell 1
  all_goals have x0 := h5.d6.cell 0
  all_goals have x1 := h5.d6.cell 1
  all_goals have n0 := h5.d6.frozen 0
  all_goals have n1 := h5.d6.frozen 1
  all_goals go_wp2_with fail
  all_goals have d7 := h5.d6.put2 (.slice Av2 order.length cv2) (.slice Av3 ts.length cv3)
  all_goals have y0 := d7.cell 0
  all_goals have y1 := d7.cell 1
  all_goals refine bodyPost_ret (v := .tuple #[.agg #[.slice Av2 order.length cv2, .slice Av3 ts.length cv3], .int .i64 0]) (by simp [results, Tryz.results17, go_sem, y0, y1]) rfl ?_
  all_goals exact h5.fin
end Go.Proofs.YtbldpojkpmafpaaGreatDoor
