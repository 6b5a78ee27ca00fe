/- Package bus: the tracks of a layout, and the table of their crossings. -/
import Derived.Test.YtbldpojkpmafpaaGreatDoorZdVPairLaw
import Derived.Test.YtbldpojkpmafpaaGreatDoorZdOrdLaw
import Derived.RegionIn
import Derived.Laws.EntriesVeiled
import Derived.Test.YtbldpojkpmafpaaGreatDoorZdVRng
import Derived.Test.YtbldpojkpmafpaaGreatDoorZdVCr
namespace Go.Proofs.YtbldpojkpmafpaaGreatDoor
open Go.RowKit Go.Shelf
attribute [local go_sem] Oper.semAt_some

def rowS (t m j : Nat) : Value := .slice (some ⟨t + 2 + j, 0, none⟩) m m
def outerS (t m j : Nat) : List Value := (List.range j).map (rowS t m) ++ List.replicate (m - j) (.slice none 0 0)
def RetPairs (w : World) (us : List Int) (f : Int → Int → Int) (e : Ending) (w' : World) : Prop :=
  ∃ U cu t, e = .returned (.tuple #[.slice U us.length cu, .slice (some ⟨t, 0, none⟩) us.length us.length]) ∧ w'.ownsRow w.heap.size 3 1 (.slice U us.length cu) us.length (ic us) ∧ w.heap.size ≤ t ∧ Blk w' t 24 (outerS t us.length us.length).toArray ∧ TabIs w' us (fun j => t + 2 + j) f ∧ Below w.heap.size w w'

theorem Row.same {S m B R : Nat} {rb : Nat → Nat} {W0 W : World} {A : Option Addr} {vs : List Value} (h : SameBut S m rb W0 W) (hr : Row W0 R A vs) (hR : R ≤ S) (hf : FreshA B A) (hB : ∀ j, j < m → rb j < B) : Row W R A vs := by
  rcases hr with hr | ⟨b, off, rfl, hb, hc⟩
  · exact .inl hr
  · have hbB := hf b off rfl
    exact .inr ⟨b, off, rfl, hb, fun i hi => (World.cell?_of_block (a := ⟨b, off + i, none⟩) (h.block b (by omega) fun j hj => by have := hB j hj; omega)).trans (hc i hi)⟩
theorem outer_at {T m j : Nat} (h : j < m) : (outerS T m m).toArray[j]? = some (rowS T m j) := by
  unfold outerS
  rw [List.getElem?_toArray, List.getElem?_append_left (by simpa using h)]
  simp [h]
theorem hit_no {xs : List (Int × Int)} {ts : List Int} {t : Nat × Int} {k : Nat} (h : ts.getD k 0 = ts.getD t.1 0 ∨ covB xs k t.2 = false) (a b : Int) : hitI xs ts t a b k = 0 := by
  unfold hitI
  rw [if_neg]
  rintro ⟨_, _, h1, h2⟩
  rcases h with h | h
  · exact h1 h
  · rw [h] at h2; cases h2
theorem outer_set {T m j : Nat} (h : j < m) : (outerS T m j).toArray.setIfInBounds j (rowS T m j) = (outerS T m (j + 1)).toArray := by
  apply Array.ext'
  rw [Array.toList_setIfInBounds]
  show (outerS T m j).set j (rowS T m j) = outerS T m (j + 1)
  unfold outerS
  rw [List.set_append, if_neg (by simp), List.length_map, List.length_range, Nat.sub_self, List.range_succ, List.map_append, List.append_assoc]
  congr 1
  obtain ⟨d, hd⟩ : ∃ d, m - j = d + 1 := ⟨m - j - 1, by omega⟩
  rw [hd, show m - (j + 1) = d by omega, List.replicate_succ]
  rfl
theorem own_other {w : World} {base size n b : Nat} {e t : TypeId} {v : Value} {vs : List Value} {cs : Array Value} (h : w.ownsRow base e size v n vs) (hb : Blk w b t cs) (hne : t ≠ e) : some b ≠ v.ownBlock := by
  rcases h.2 with ⟨rfl, _⟩ | ⟨g, cap, cur, rfl, hbg, hg, rest⟩
  · intro h; cases h
  · intro h
    have h : some b = some g := h
    injection h with h
    subst h
    rw [show w.heap[b]? = some (.cells cs t (0, 0)) from hb] at hg
    cases hg
    exact hne rfl
theorem Blk.grownO {W W' : World} {r : Option Nat} {b : Nat} {t : TypeId} {cs : Array Value} (h : Blk W b t cs) (hg : W.grownBy W' r) (hr : some b ≠ r) : Blk W' b t cs := (hg.block b h.lt hr).trans h
theorem below_grownO {B : Nat} {w W W' : World} {r : Option Nat} (h : Below B w W) (hg : W.grownBy W' r) (hB : B ≤ w.heap.size) (hr : ∀ b, b < B → some b ≠ r) : Below B w W' := h.grown hg (Nat.le_trans hB h.size) fun k e => by
  rcases Nat.lt_or_ge k B with h | h
  · exact absurd e.symm (hr k h)
  · exact h

theorem made_rep (z : Value) (n : Nat) : madeCells #[z] n = (List.replicate n z).toArray := by
  apply Array.ext'
  apply List.ext_getElem
  · simp [madeCells]
  · intro i h1 h2
    simp [madeCells, Nat.mod_one]
theorem make_ints (m : Nat) (hm : m ≤ 64) (W : World) : (Instr.makeSlice 24 (.int .i64 (m : Int)) (.int .i64 (m : Int))).run Tryz.prog W = .ok (.slice (some ⟨W.heap.size, 0, none⟩) m m) (W.alloc (.cells (List.replicate m (.int .i64 0)).toArray 3)) := by
  obtain ⟨i0, hi0, iz0, iz1, iz2⟩ := info_parts (show (Tryz.prog.info? 3).map (fun i => (i.zero, i.size, i.bytes)) = some (some (.int .i64 0), 1, 8) by kernel_rfl)
  have h := run_make (P := Tryz.prog) (w := W) 24 3 i0 (.int .i64 0) Tryz.underlying24 hi0 iz0 .i64 .i64 m m (by omega) (Int.le_refl _) (by rw [iz2]; omega) (by omega)
  rw [h, iz1, Nat.mul_one, Int.toNat_natCast]
  rw [show (Value.int IntKind.i64 0).cells = #[.int .i64 0] from rfl, made_rep]
theorem make_rows (m : Nat) (hm : m ≤ 64) (W : World) : (Instr.makeSlice 80 (.int .i64 (m : Int)) (.int .i64 (m : Int))).run Tryz.prog W = .ok (.slice (some ⟨W.heap.size, 0, none⟩) m m) (W.alloc (.cells (List.replicate m (.slice none 0 0)).toArray 24)) := by
  obtain ⟨i0, hi0, iz0, iz1, iz2⟩ := info_parts (show (Tryz.prog.info? 24).map (fun i => (i.zero, i.size, i.bytes)) = some (some (.slice none 0 0), 1, 24) by kernel_rfl)
  have h := run_make (P := Tryz.prog) (w := W) 80 24 i0 (.slice none 0 0) Tryz.underlying80 hi0 iz0 .i64 .i64 m m (by omega) (Int.le_refl _) (by rw [iz2]; omega) (by omega)
  rw [h, iz1, Nat.mul_one, Int.toNat_natCast]
  rw [show (Value.slice none 0 0).cells = #[.slice none 0 0] from rfl, made_rep]

set_option maxRecDepth 100000 in
set_option maxHeartbeats 8000000 in
theorem pairs_any (A A2 A3 : Option Addr) (c c2 c3 B : Nat) (l : List NetAt) (order ts : List Int) (n : Int) (w : World) (h : NetsIn w B A l) (h2 : Row w B A2 (ic order)) (h3 : Row w B A3 (ic ts)) (hB : B ≤ w.heap.size) (hE : Bus.bothErr (l.map NetAt.net) n order = 0) (htl : ts.length = l.length) :
    Calls Tryz.prog 52 #[.slice A l.length c, .agg #[.slice A2 order.length c2, .slice A3 ts.length c3]] w
      (RetPairs w (trkU ts) (tabI (Bus.exts (Bus.atUp order order.length) (l.map NetAt.net)) ts (tapFrom (Bus.atUp order order.length) 0 (l.map NetAt.cols)))) := by
  obtain ⟨z1, z2⟩ := both_zero hE
  obtain ⟨n1, n97, l64, hcols⟩ := Bus.netsErr_zero z1
  rw [List.length_map] at l64
  have HW := Lib.hid (⟨h, h2, h3, z1, z2, hcols⟩ : NetsIn w B A l ∧ Row w B A2 (ic order) ∧ Row w B A3 (ic ts) ∧ Bus.netsErr (l.map NetAt.net) n = 0 ∧ Bus.orderErr order n = 0 ∧ ∀ x ∈ l.map NetAt.net, x.2 ≠ [] ∧ ∀ c ∈ x.2, 0 ≤ c ∧ c < n)
  have HTL := Lib.hid htl
  obtain ⟨q1, q2⟩ := trkU_ok ts
  have hul : (trkU ts).length ≤ 64 := by
    have h1 := Lib.compact_length_le (ts.mergeSort fun x y => decide (x ≤ y))
    rw [List.length_mergeSort] at h1
    show (Lib.compact _).length ≤ 64
    omega
  obtain ⟨us, hus⟩ : ∃ us, trkU ts = us := ⟨_, rfl⟩
  rw [hus] at q1 q2 hul ⊢
  have HU := Lib.hid (⟨hus, asc_nodup q1, q2⟩ : trkU ts = us ∧ us.Nodup ∧ ∀ x, x ∈ us ↔ x ∈ ts)
  clear q1 q2 hus
  have htl64 : ts.length ≤ 64 := by omega
  clear h h2 h3 z1 z2 hcols hE htl
  refine (callsIn_wide (n := 9)).1 ?_
  refine callsIn_of_wp_marks Tryz.func52 rfl trivial ?_ rfl
  simp only [Tryz.ntmps52, List.size_toArray, List.length_cons, List.length_nil, Nat.reduceAdd, Nat.reduceSub, Array.replicate_succ, Array.replicate_zero, List.push_toArray, List.append_toArray, List.nil_append, List.cons_append]
  gi_wp2_with fail
  generalize hW0 : World.alloc (World.alloc w _) _ = W0
  have d2 : Blk W0 w.heap.size 22 #[.slice A l.length c] := by rw [← hW0]; exact (Blk.new _ _ _).alloc _
  have d3 : Blk W0 (w.heap.size + 1) 29 #[.slice A2 order.length c2, .slice A3 ts.length c3] := by rw [← hW0]; exact Blk.new' _ _ _ _ (by simp)
  have e0 : Below w.heap.size w W0 := by rw [← hW0]; exact ((Below.refl _ w).alloc (Nat.le_refl _) _).alloc (by simp) _
  have s0 : W0.heap.size = w.heap.size + 2 := by rw [← hW0]; simp
  clear hW0
  refine ⟨trivial, (callsIn_wide.2 (clone_any A3 c3 B ts W0 (HW.out.2.2.1.below e0 hB) (by omega))).mono ?_⟩
  rintro e w1 ⟨v, rfl, hown, hb1⟩
  obtain ⟨U, cu, rfl, hcu, hrU⟩ := own_cap hown
  have d2 := d2.below hb1 d2.lt
  have d3 := d3.below hb1 d3.lt
  have e1 := below_after e0 hb1 (by omega)
  have s1 := hb1.size
  clear e0 hb1
  gi_wp2_with fail
  generalize hW2 : World.alloc w1 _ = W2
  have hs2 : W2.heap.size = w1.heap.size + 1 := by rw [← hW2]; simp
  have d6 : Blk W2 w1.heap.size 24 #[.slice U ts.length cu] := by rw [← hW2]; exact Blk.new _ _ _
  have d2 : Blk W2 w.heap.size 22 #[.slice A l.length c] := by rw [← hW2]; exact d2.alloc _
  have d3 : Blk W2 (w.heap.size + 1) 29 #[.slice A2 order.length c2, .slice A3 ts.length c3] := by rw [← hW2]; exact d3.alloc _
  have hown2 : W2.ownsRow W0.heap.size 3 1 (.slice U ts.length cu) ts.length (ic ts) := by rw [← hW2]; exact own_alloc hown _
  have e2 : Below w.heap.size w W2 := by rw [← hW2]; exact e1.alloc (by omega) _
  have hap : ∀ b, b < W0.heap.size ∨ w1.heap.size ≤ b → some b ≠ (Value.slice U ts.length cu).ownBlock := fun b hb => own_apart hown hb
  clear hW2 e1 hown hrU
  refine ⟨trivial, (callsIn_wide.2 (sort_any W0.heap.size ts.length _ ts W2 hown2 (by omega))).mono ?_⟩
  rintro e w3 ⟨rfl, hown3, hg3⟩
  have d6 := d6.grownO hg3 (hap _ (.inr (Nat.le_refl _)))
  have d2 := d2.grownO hg3 (hap _ (.inl (by omega)))
  have d3 := d3.grownO hg3 (hap _ (.inl (by omega)))
  have e3 := below_grownO e2 hg3 (Nat.le_refl _) fun b hb => hap b (.inl (by omega))
  have s3 := hg3.size
  have x6 := d6.cell 0
  clear e2 hg3 hown2
  gi_wp2_with fail
  clear x6
  refine ⟨trivial, (callsIn_wide.2 (compact_any W0.heap.size ts.length _ _ w3 hown3 (by rw [List.length_mergeSort]; omega))).mono ?_⟩
  rintro e w4 ⟨v, rfl, hown4, hg4⟩
  rw [show Lib.compact (ts.mergeSort fun x y => decide (x ≤ y)) = us from HU.out.1] at hown4
  obtain ⟨V, cv, rfl, hcv, hrV⟩ := own_cap hown4
  have d6 := d6.grownO hg4 (hap _ (.inr (Nat.le_refl _)))
  have d2 := d2.grownO hg4 (hap _ (.inl (by omega)))
  have d3 := d3.grownO hg4 (hap _ (.inl (by omega)))
  have e4 := below_grownO e3 hg4 (Nat.le_refl _) fun b hb => hap b (.inl (by omega))
  have s4 := hg4.size
  have x6 := d6.cell 0
  have n6 := d6.frozen 0
  have hmk2 := make_rows us.length hul
  clear e3 hg4 hown3 hap
  have hov := own_other hown4 d6 (by decide)
  have hT : w1.heap.size < w4.heap.size := by omega
  have hub : w.heap.size + 2 ≤ w1.heap.size := by omega
  gi_wp2_with fail
  generalize hW5 : World.alloc (World.alloc (World.setCell w4 _ _) _) _ = W5
  have s5 : W5.heap.size = w4.heap.size + 2 := by rw [← hW5]; simp
  have e5 : Below w.heap.size w W5 := by rw [← hW5]; exact ((e4.setCell (p := ⟨w1.heap.size, 0, none⟩) (by show w.heap.size ≤ w1.heap.size; omega) _).alloc (by simp; omega) _).alloc (by simp; omega) _
  have d7 : Blk W5 (w4.heap.size + 1) 80 #[.slice (some ⟨w4.heap.size, 0, none⟩) us.length us.length] := by rw [← hW5]; exact Blk.new' _ _ _ _ (by simp)
  have dt : Blk W5 w4.heap.size 24 (outerS w4.heap.size us.length 0).toArray := by
    rw [← hW5]
    have : (outerS w4.heap.size us.length 0).toArray = Array.replicate us.length (.slice none 0 0) := by simp [outerS]
    rw [this]
    exact (Blk.new' _ _ _ _ (by simp)).alloc _
  have d6 : Blk W5 w1.heap.size 24 #[.slice V us.length cv] := by rw [← hW5]; exact ((d6.set 0 _).alloc _).alloc _
  have d2 : Blk W5 w.heap.size 22 #[.slice A l.length c] := by rw [← hW5]; exact ((d2.far (by show w.heap.size ≠ w1.heap.size; omega) _).alloc _).alloc _
  have d3 : Blk W5 (w.heap.size + 1) 29 #[.slice A2 order.length c2, .slice A3 ts.length c3] := by rw [← hW5]; exact ((d3.far (by show w.heap.size + 1 ≠ w1.heap.size; omega) _).alloc _).alloc _
  have hown5 : W5.ownsRow W0.heap.size 3 1 (.slice V us.length cv) us.length (ic us) := by
    rw [← hW5]
    exact own_alloc (own_alloc (own_keep hown4 fun b hb => Below.heap_setCell w4 _ _ b (fun e => hov (by rw [hb.symm, e]))) _) _
  have hVT : ∀ b, some b = (Value.slice V us.length cv).ownBlock → b < w4.heap.size := fun b hb => Nat.lt_of_not_le fun hle => own_apart hown4 (.inr hle) hb
  have s0' : W0.heap.size = w.heap.size + 2 := s0
  have hmk1 := make_ints us.length hul
  clear hW5 e4 hown4 hrV hov x6 n6 hmk2
  generalize w4.heap.size = T at *
  generalize w1.heap.size = ub at *
  gi_loopw [26] (fun i wr => ∃ j : Nat, j ≤ us.length ∧ i = .int .i64 j ∧ Blk wr T 24 (outerS T us.length j).toArray ∧ (∀ k, k < j → Blk wr (T + 2 + k) 3 (Array.replicate us.length (.int .i64 0))) ∧ wr.heap.size = T + 2 + j ∧ Below T W5 wr ∧ Blk wr (T + 1) 80 #[.slice (some ⟨T, 0, none⟩) us.length us.length]) (fun i _ => us.length - (intOf i).toNat)
  case atStart => exact ⟨0, Nat.zero_le _, rfl, dt, fun k hk => absurd hk (Nat.not_lt_zero _), by rw [s5], Below.refl _ _, d7⟩
  case round =>
    obtain ⟨j, hj, rfl, kt, kr, ks, eb, k7⟩ := hrel
    have k6 := d6.below eb hT
    by_cases hlt : j < us.length
    · have hjm : (j : Int) < (us.length : Int) := by omega
      have xt : wr.cell? ⟨T, j, none⟩ = some (.slice none 0 0) := by
        rw [kt.cell j]
        unfold outerS
        rw [List.getElem?_toArray, List.getElem?_append_right (by simp), List.length_map, List.length_range, Nat.sub_self, List.getElem?_replicate, if_pos (by omega)]
      have nt := kt.frozen j
      have x7 := k7.cell 0
      have x6 := k6.cell 0
      have y7 := (k7.alloc (.cells (Array.replicate us.length (.int .i64 0)) 3)).cell 0
      have y6 := (k6.alloc (.cells (Array.replicate us.length (.int .i64 0)) 3)).cell 0
      have yt : (wr.alloc (.cells (Array.replicate us.length (.int .i64 0)) 3)).cell? ⟨T, j, none⟩ = some (.slice none 0 0) := (World.cell?_of_block (a := ⟨T, j, none⟩) (Below.heap_alloc wr _ T kt.lt)).trans xt
      have yn := (kt.alloc (.cells (Array.replicate us.length (.int .i64 0)) 3)).frozen j
      gi_wp2_with fail
      gi_region
      gi_wp2
      go_roundw
      case rel =>
        refine ⟨j + 1, hlt, by go_num, ?_, fun k hk => ?_, by simp [ks]; omega, ?_, ?_⟩
        · have := (kt.alloc (.cells (Array.replicate us.length (.int .i64 0)) 3)).set j (rowS T us.length j)
          rw [outer_set hlt] at this
          exact this.drew
        · by_cases e : k = j
          · subst e
            exact ((Blk.new' wr _ _ _ ks.symm).far (by show T + 2 + k ≠ T; omega) _).drew
          · exact (((kr k (by omega)).alloc _).far (by show T + 2 + k ≠ T; omega) _).drew
        · exact ((eb.alloc (by omega) _).setCell (p := ⟨T, j, none⟩) (Nat.le_refl _) _).drew
        · exact ((k7.alloc _).far (by show T + 1 ≠ T; omega) _).drew
      case measure => simp [intOf]; omega
    · obtain rfl : j = us.length := by omega
      have k2 := d2.below eb (by omega)
      have k3 := d3.below eb (by omega)
      have KS := Lib.hid ks
      have y2 := (k2.alloc (.cells #[.func (.func 98) #[] #[.pointer (some ⟨ub, 0, none⟩), .pointer (some ⟨w.heap.size + 1, 0, none⟩)]] 150)).cell 0
      have y3 := (k3.alloc (.cells #[.func (.func 98) #[] #[.pointer (some ⟨ub, 0, none⟩), .pointer (some ⟨w.heap.size + 1, 0, none⟩)]] 150)).cell 0
      clear ks
      gi_wp2_with fail
      clear y2 y3
      generalize hW6 : World.alloc wr _ = W6
      have s6 : W6.heap.size = T + 2 + us.length + 1 := by rw [← hW6, World.size_alloc, KS.out]
      have k2 : Blk W6 w.heap.size 22 #[.slice A l.length c] := by rw [← hW6]; exact k2.alloc _
      have k3 : Blk W6 (w.heap.size + 1) 29 #[.slice A2 order.length c2, .slice A3 ts.length c3] := by rw [← hW6]; exact k3.alloc _
      have k6 : Blk W6 ub 24 #[.slice V us.length cv] := by rw [← hW6]; exact k6.alloc _
      have k7 : Blk W6 (T + 1) 80 #[.slice (some ⟨T, 0, none⟩) us.length us.length] := by rw [← hW6]; exact k7.alloc _
      have k9 : Blk W6 (T + 2 + us.length) 150 #[.func (.func 98) #[] #[.pointer (some ⟨ub, 0, none⟩), .pointer (some ⟨w.heap.size + 1, 0, none⟩)]] := by rw [← hW6]; exact Blk.new' _ _ _ _ KS.out.symm
      have kt : Blk W6 T 24 (outerS T us.length us.length).toArray := by rw [← hW6]; exact kt.alloc _
      have ktab : TabIs W6 us (fun j => T + 2 + j) (fun _ _ => 0) := fun k hk => by
        have := (kr k hk).alloc (.cells #[.func (.func 98) #[] #[.pointer (some ⟨ub, 0, none⟩), .pointer (some ⟨w.heap.size + 1, 0, none⟩)]] 150)
        rw [hW6] at this
        have e : (us.map fun _ => Value.int .i64 0).toArray = Array.replicate us.length (.int .i64 0) := by
          apply Array.ext'
          rw [Array.toList_replicate]
          exact List.eq_replicate_iff.2 ⟨by simp, fun b hb => by obtain ⟨_, _, rfl⟩ := List.mem_map.1 hb; rfl⟩
        rw [← e] at this
        exact this
      have own6 : W6.ownsRow W0.heap.size 3 1 (.slice V us.length cv) us.length (ic us) := by
        rw [← hW6]; exact own_alloc (own_keep hown5 fun b hb => eb.block b (hVT b hb)) _
      have e6 : Below w.heap.size w W6 := by rw [← hW6]; exact (e5.trans (eb.mono (by omega))).alloc (by rw [KS.out]; omega) _
      have KS9 : wr.heap.size = T + 2 + us.length := KS.out
      rw [KS9]
      clear hW6 kr eb hown5 e5 d7 dt d6 d2 d3 KS KS9 hmk1 hcu s1 hs2 s4 s5
      refine ⟨trivial, (callsIn_wide.2 (stand_any A A2 c c2 B l order n W6 (HW.out.1.below e6 hB) (HW.out.2.1.below e6 hB) (by have := e6.size; omega) HW.out.2.2.2.2.1 HW.out.2.2.2.1)).mono ?_⟩
      rintro e w7 ⟨g, v, rfl, hg, hrow, hown7, hb7⟩
      obtain ⟨Ax, cx, rfl, hcx, hrx⟩ := own_cap hown7
      have hfx := own_fresh hown7
      obtain ⟨F, hF⟩ : ∃ F, Bus.atUp order order.length = F := ⟨_, rfl⟩
      rw [hF] at hrow hrx hown7 ⊢
      have k2 := k2.below hb7 k2.lt
      have k3 := k3.below hb7 k3.lt
      have k6 := k6.below hb7 k6.lt
      have k7 := k7.below hb7 k7.lt
      have k9 := k9.below hb7 k9.lt
      have kt := kt.below hb7 kt.lt
      have ktab : TabIs w7 us (fun j => T + 2 + j) (fun _ _ => 0) := fun k hk => (ktab k hk).below hb7 (ktab k hk).lt
      have own7 := own_below own6 hb7
      have e7 := below_after e6 hb7 (Nat.le_refl _)
      have s7 := hb7.size
      clear hb7 own6 e6
      gi_wp2_with fail
      generalize hW8 : World.alloc w7 _ = W8
      obtain ⟨R, hR⟩ : ∃ R, w7.heap.size = R := ⟨_, rfl⟩
      have s8 : W8.heap.size = R + 1 := by rw [← hW8, World.size_alloc, hR]
      have k10 : Blk W8 R 73 #[.pointer (some ⟨g, 0, none⟩)] := by rw [← hW8]; exact Blk.new' _ _ _ _ hR.symm
      have k2 : Blk W8 w.heap.size 22 #[.slice A l.length c] := by rw [← hW8]; exact k2.alloc _
      have k3 : Blk W8 (w.heap.size + 1) 29 #[.slice A2 order.length c2, .slice A3 ts.length c3] := by rw [← hW8]; exact k3.alloc _
      have k6 : Blk W8 ub 24 #[.slice V us.length cv] := by rw [← hW8]; exact k6.alloc _
      have k7 : Blk W8 (T + 1) 80 #[.slice (some ⟨T, 0, none⟩) us.length us.length] := by rw [← hW8]; exact k7.alloc _
      have k9 : Blk W8 (T + 2 + us.length) 150 #[.func (.func 98) #[] #[.pointer (some ⟨ub, 0, none⟩), .pointer (some ⟨w.heap.size + 1, 0, none⟩)]] := by rw [← hW8]; exact k9.alloc _
      have kt : Blk W8 T 24 (outerS T us.length us.length).toArray := by rw [← hW8]; exact kt.alloc _
      have ktab : TabIs W8 us (fun j => T + 2 + j) (fun _ _ => 0) := fun k hk => by rw [← hW8]; exact (ktab k hk).alloc _
      have own8 : W8.ownsRow W0.heap.size 3 1 (.slice V us.length cv) us.length (ic us) := by rw [← hW8]; exact own_alloc own7 _
      have hrow8 : RowAt W8 g (.slice A l.length c) F (.slice Ax l.length cx) := by rw [← hW8]; exact hrow.alloc _
      have hrx8 : Row W8 R Ax (xcells (Bus.exts F (l.map NetAt.net))) := by rw [← hW8, ← hR]; exact hrx.alloc (Nat.le_refl _) _
      have e8 : Below w.heap.size w W8 := by rw [← hW8]; exact e7.alloc (by have := e7.size; omega) _
      have hgR : g < R := by rw [← hR]; exact hrow.lt
      have hR2 : w7.heap.size = R := hR
      rw [hR2]
      clear hW8 e7 own7 hrow hrx hown7 s7 hR hR2
      refine ⟨trivial, (callsIn_wide.2 (taps_any g W8)).mono ?_⟩
      rintro e w9 ⟨bx, rfl, hb1, hb2, hb3, hb9⟩
      have k10 := k10.below hb9 k10.lt
      have k2 := k2.below hb9 k2.lt
      have k3 := k3.below hb9 k3.lt
      have k6 := k6.below hb9 k6.lt
      have k7 := k7.below hb9 k7.lt
      have k9 := k9.below hb9 k9.lt
      have kt := kt.below hb9 kt.lt
      have ktab : TabIs w9 us (fun j => T + 2 + j) (fun _ _ => 0) := fun k hk => (ktab k hk).below hb9 (ktab k hk).lt
      have own9 := own_below own8 hb9
      have hrow9 := hrow8.below hb9
      have hrx9 : Row w9 R Ax (xcells (Bus.exts F (l.map NetAt.net))) := hrx8.below hb9 (by omega)
      have e9 := below_after e8 hb9 (Nat.le_refl _)
      have s9 := hb9.size
      clear hb9 own8 hrow8 hrx8 e8
      have hxl := exts_len F l
      have hc97 : ∀ x ∈ l, ∀ c ∈ x.cols, 0 ≤ c ∧ c < 97 := fun x hx c hc => by
        have := (HW.out.2.2.2.2.2 x.net (List.mem_map_of_mem hx)).2 c hc
        omega
      have hTF := taps_few HW.out.2.2.2.1 F
      have hN9 : NetsIn w9 w.heap.size A l := (HW.out.1.below e9 hB).more hB
      obtain ⟨xs, hxs⟩ : ∃ xs, Bus.exts F (l.map NetAt.net) = xs := ⟨_, rfl⟩
      rw [hxs] at hxl hrx9 ⊢
      have hst := taps2_stops Fence.wide (9 - 1) trivial rfl (by omega) bx w.heap.size g A c (.slice Ax l.length cx) F l w9 hb3 hb2 hrow9 hN9 hc97 (by omega) e9.size
      obtain ⟨taps, htaps⟩ : ∃ taps, tapFrom F 0 (l.map NetAt.cols) = taps := ⟨_, rfl⟩
      rw [htaps] at hst hTF ⊢
      have hok : ∀ x, 0 < taps.length → (taps.getD x (0, 0)).1 < l.length := fun x hx => by
        have := tap_ok F (l.map NetAt.cols) x (by rw [htaps]; exact hx)
        rw [htaps] at this
        simpa using this
      have HEQ := Lib.hid (⟨hF, hxs, htaps⟩ : Bus.atUp order order.length = F ∧ Bus.exts F (l.map NetAt.net) = xs ∧ tapFrom F 0 (l.map NetAt.cols) = taps)
      clear hxs htaps hF
      gi_wp2_with fail
      have hbx9 : bx < w9.heap.size := hb2
      refine wpIn_rangeFunc_ownF rfl (by omega) (gf := 133) (lb := #[.pointer (some ⟨bx, 0, none⟩)]) rfl trivial (enters_of Tryz.func133 (by kernel_rfl) rfl)
        hst (fun h1 h2 => h1.trans h2) (fun W lp o o' hl' h1 h2 h3 => ⟨belowK_b (w := w) (Nat.le_refl _) W lp o o' (by have := e9.size; omega) h1 h2 h3, World.putObj_heap_other (by omega), World.putObj_heap_other (by omega)⟩) (Below.refl _ _) (fun _ => rfl)
        (fun pre W => SameBut w9.heap.size us.length (fun j => T + 2 + j) w9 W ∧ TabIs W us (fun j => T + 2 + j) (fun a b => isum (pre.map fun x => tapI xs ts (taps.getD x (0, 0)) a b xs.length)))
        (fun _ _ _ => False)
        (fun pre W W' row hs hg hr => ⟨hs.1.grown (Nat.le_refl _) hg (fun r e => (hr r e).1), hs.2.grown hg (fun r e => (hr r e).2)⟩)
        (fun _ pre W W' row hs hg hr => hs)
        ⟨SameBut.refl _ _ _ _, ktab⟩ ?a1 ?assign ?body ?done ?stop
      case assign =>
        intro lp x W K hK
        gi_wp2
        exact hK
      case stop =>
        rintro D q pre W hD hpre hF hK
        exact hF.elim
      case body =>
        rintro lp pre x W ⟨hS, hT⟩ hlt
        have hti := hok x (by omega)
        have HPRE := Lib.hid (fun (a b : Int) => (show isum ((pre ++ [x]).map fun x => tapI xs ts (taps.getD x (0, 0)) a b xs.length) = isum (pre.map fun x => tapI xs ts (taps.getD x (0, 0)) a b xs.length) + tapI xs ts (taps.getD x (0, 0)) a b xs.length by rw [List.map_append, isum_app]; show _ + (_ + 0) = _; rw [Int.add_zero]))
        have hbd : ∀ a b, 0 ≤ isum (pre.map fun x => tapI xs ts (taps.getD x (0, 0)) a b xs.length) ∧ isum (pre.map fun x => tapI xs ts (taps.getD x (0, 0)) a b xs.length) ≤ 397312 := fun a b => by
          have h1 := isum_bd (fun x => tapI xs ts (taps.getD x (0, 0)) a b xs.length) 64 (fun x => by have := tap_bd xs ts (taps.getD x (0, 0)) a b xs.length; omega) pre
          have h2 : pre.length * 64 ≤ 6208 * 64 := Nat.mul_le_mul_right _ (by omega)
          omega
        obtain ⟨f0, hf0⟩ : ∃ f0 : Int → Int → Int, (fun a b => isum (pre.map fun x => tapI xs ts (taps.getD x (0, 0)) a b xs.length)) = f0 := ⟨_, rfl⟩
        have hfa : ∀ a b, isum (pre.map fun x => tapI xs ts (taps.getD x (0, 0)) a b xs.length) = f0 a b := fun a b => congrFun (congrFun hf0 a) b
        rw [hf0] at hT
        simp only [hfa] at hbd HPRE
        clear hf0 hfa
        simp only [← List.getD_eq_getElem?_getD]
        generalize taps.getD x (0, 0) = tp at *
        obtain ⟨ti, ta⟩ := tp
        simp only at hti HPRE ⊢
        clear hst hok hTF
        obtain ⟨b2, off2, yi, hA3, hbB2, hyi, hci⟩ := HW.out.2.2.1.int ti (by rw [HTL.out]; exact hti)
        subst hA3
        have hgd : ts.getD ti 0 = yi := by rw [List.getD_eq_getElem?_getD, hyi]; rfl
        have hym : yi ∈ us := (HU.out.2.2 yi).2 (List.mem_of_getElem? hyi)
        have HN : ∀ (net : Nat) (wr : World), net < l.length → SameBut w9.heap.size us.length (fun j => T + 2 + j) w9 wr → ∀ q, Calls Tryz.prog 98 #[.int .i64 (net : Int), .pointer (some ⟨ub, 0, none⟩), .pointer (some ⟨w.heap.size + 1, 0, none⟩)] (wr.drewN q) fun e w' => e = .returned (.int .i64 (Lib.idxOf us (ts.getD net 0))) ∧ ∃ m, w' = (wr.drewN q).drewN m := by
          intro net wr hnet hs q
          obtain ⟨U9, c9, e9', _, hr9⟩ := own_cap (own_keep own9 fun b hb => hs.block b (by have := hVT b hb; omega) fun j _ => by have := hVT b hb; omega)
          cases e9'
          have hbl := e9.trans (hs.below (B := w.heap.size) (by omega) fun j _ => by omega)
          exact number_any ub (w.heap.size + 1) _ B V (some ⟨b2, off2, none⟩) cv c3 _ us ts (wr.drewN q) ((k6.same hs (by omega) fun j _ => by omega).drewN q) ((k3.same hs (by omega) fun j _ => by omega).drewN q) (hr9.drewN q) ((HW.out.2.2.1.below hbl hB).drewN q) net (by rw [HTL.out]; exact hnet) (by omega)
        have HNN := Lib.hid HN
        have HCV := Lib.hid (fun (i : Nat) (wr : World) (hs : SameBut w9.heap.size us.length (fun j => T + 2 + j) w9 wr) (hi : i < xs.length) (q : Nat) => covers_any g _ F Ax cx wr.heap.size i ta xs (wr.drewN q) (by
            have := (hrow9.block (hs.block g (by omega) fun j _ => by omega))
            rw [← hxl] at this
            exact this.block rfl) ((Row.same hs hrx9 (by omega) hfx (by intro j hj; omega)).more (by have := hs.size; omega) |>.drewN q) hi (by omega))
        have HB := Lib.hid (fun (wr : World) (hs : SameBut w9.heap.size us.length (fun j => T + 2 + j) w9 wr) => e9.trans (hs.below (B := w.heap.size) (by omega) fun j _ => by omega))
        have x2 := (k2.same hS (by omega) fun j _ => by omega).cell 0
        have hmix : Tryz.prog.follows .mixedOrders = true := by kernel_rfl
        clear HN
        gi_wp2
        gi_loopw [47] (fun i wr => ∃ k : Nat, k ≤ l.length ∧ i = .int .i64 k ∧ SameBut w9.heap.size us.length (fun j => T + 2 + j) w9 wr ∧ TabIs wr us (fun j => T + 2 + j) (fun a b => f0 a b + tapI xs ts (ti, ta) a b k) ∧ KeepsOthers W wr ∧ W.heap.size ≤ wr.heap.size) (fun i _ => l.length - (intOf i).toNat)
        case atStart => exact ⟨0, Nat.zero_le _, rfl, hS, hT.congr (fun a _ b _ => (Int.add_zero _).symm), KeepsOthers.refl _, Nat.le_refl _⟩
        case round =>
          obtain ⟨k, hk, rfl, hs, ht, ho, hz⟩ := hrel
          by_cases hlk : k < l.length
          · obtain ⟨b4, off4, yk, hA4, hbB4, hyk, hck⟩ := HW.out.2.2.1.int k (by rw [HTL.out]; exact hlk)
            obtain ⟨rfl, rfl⟩ : b2 = b4 ∧ off2 = off4 := by injection hA4 with e; injection e with e1 e2; exact ⟨e1, e2⟩
            have hkd : ts.getD k 0 = yk := by rw [List.getD_eq_getElem?_getD, hyk]; rfl
            have hkm : yk ∈ us := (HU.out.2.2 yk).2 (List.mem_of_getElem? hyk)
            have hbl := HB.out wr hs
            have hckr := (hbl.cell (p := ⟨b2, off2 + k, none⟩) (by show b2 < _; omega)).trans hck
            have hcir := (hbl.cell (p := ⟨b2, off2 + ti, none⟩) (by show b2 < _; omega)).trans hci
            have hkk : (k : Int) < (l.length : Int) := by omega
            have hkt : (k : Int) < (ts.length : Int) := by rw [HTL.out]; omega
            have hit' : (ti : Int) < (ts.length : Int) := by rw [HTL.out]; omega
            have x3 := (k3.same hs (by omega) fun j _ => by omega).cell 1
            have x10 := (k10.same hs (by omega) fun j _ => by omega).cell 0
            have hcv := Lib.hid (HCV.out k wr hs (by omega))
            clear hyk hck
            by_cases hyy : yk = yi
            · have hd2 : (yk != yi) = false := by rw [hyy]; simp
              have hd3 : decide (yk = yi) = true := decide_eq_true hyy
              have HH := Lib.hid (fun a b => hit_no (xs := xs) (ts := ts) (t := (ti, ta)) (k := k) (.inl (by rw [hkd, hgd]; exact hyy)) a b)
              gi_wp2
              refine quietR_region (lp := lp) rfl (by kernel_rfl) hmix (by kernel_rfl) ?_
              repeat (refine wpQuietIn_step (fun _ _ _ _ => True.intro) (fun K hK => ?_); go_simp; refine hK _ ?_; clear hK K)
              refine wpQuietIn_nil ?_
              rintro _ ⟨nq, rfl⟩
              gi_wp2
              go_roundw
              case rel => exact ⟨k + 1, by omega, by go_num, hs.drewN nq, (ht.drewN nq).congr (fun a _ b _ => by show _ = f0 a b + (tapI xs ts (ti, ta) a b k + hitI xs ts (ti, ta) a b k); rw [HH.out, Int.add_zero]), ho.trans (others_drewN wr nq), hz⟩
              case measure => simp [intOf]; omega
            · have hd2 : (yk != yi) = true := by simpa using hyy
              have hd3 : decide (yk = yi) = false := decide_eq_false hyy
              cases hcb : covB xs k ta
              · have HH := Lib.hid (fun a b => hit_no (xs := xs) (ts := ts) (t := (ti, ta)) (k := k) (.inr hcb) a b)
                have hcv2 : ∀ j, Calls Tryz.prog 63 #[.pointer (some ⟨g, 0, none⟩), .int .i64 (k : Int), .int .i64 ta] (wr.drewN j) fun e w' => e = .returned (.bool false) ∧ w' = wr.drewN j := fun j => (hcv.out j).mono fun e w' h => by rw [hcb] at h; exact ⟨h.1, h.2.symm⟩
                clear hcv
                gi_wp2
                refine quietR_region (lp := lp) rfl (by kernel_rfl) hmix (by kernel_rfl) ?_
                repeat (refine wpQuietIn_step (fun _ _ _ _ => True.intro) (fun K hK => ?_); go_simp; first | (refine hK _ ?_; clear hK K) | (apply Exists.intro; refine ⟨fun _ => ?_, hK _ ?_⟩; exact CallsIn.quiet_of_same (CallsIn.inRound lp (callsIn_wide.2 (hcv2 _))); clear hK K))
                refine wpQuietIn_nil ?_
                rintro _ ⟨nq, rfl⟩
                clear hcv2
                gi_wp2
                go_roundw
                case rel => exact ⟨k + 1, by omega, by go_num, hs.drewN nq, (ht.drewN nq).congr (fun a _ b _ => by show _ = f0 a b + (tapI xs ts (ti, ta) a b k + hitI xs ts (ti, ta) a b k); rw [HH.out, Int.add_zero]), ho.trans (others_drewN wr nq), hz⟩
                case measure => simp [intOf]; omega
              · have hcv2 : ∀ j, Calls Tryz.prog 63 #[.pointer (some ⟨g, 0, none⟩), .int .i64 (k : Int), .int .i64 ta] (wr.drewN j) fun e w' => e = .returned (.bool true) ∧ w' = wr.drewN j := fun j => (hcv.out j).mono fun e w' h => by rw [hcb] at h; exact ⟨h.1, h.2.symm⟩
                clear hcv
                gi_wp2
                refine quietR_region (lp := lp) rfl (by kernel_rfl) hmix (by kernel_rfl) ?_
                repeat (refine wpQuietIn_step (fun _ _ _ _ => True.intro) (fun K hK => ?_); go_simp; first | (refine hK _ ?_; clear hK K) | (apply Exists.intro; refine ⟨fun _ => ?_, hK _ ?_⟩; exact CallsIn.quiet_of_same (CallsIn.inRound lp (callsIn_wide.2 (hcv2 _))); clear hK K))
                refine wpQuietIn_nil ?_
                rintro _ ⟨nq, rfl⟩
                clear hcv2 x3 x10 hckr hcir hd2 hd3
                have hs := hs.drewN nq
                have ht := ht.drewN nq
                have ho := ho.trans (others_drewN wr nq)
                have hz : W.heap.size ≤ (wr.drewN nq).heap.size := hz
                generalize wr.drewN nq = wz at *
                obtain ⟨Ai, hAi, hAe, hAx⟩ := idx_at HU.out.2.1 hkm
                obtain ⟨Bi, hBi, hBe, hBx⟩ := idx_at HU.out.2.1 hym
                have HNk : ∀ q, Calls Tryz.prog 98 #[.int .i64 (k : Int), .pointer (some ⟨ub, 0, none⟩), .pointer (some ⟨w.heap.size + 1, 0, none⟩)] (wz.drewN q) fun e w' => e = .returned (.int .i64 (Ai : Int)) ∧ ∃ m, w' = (wz.drewN q).drewN m := fun q => by
                  have := HNN.out k wz hlk hs q
                  rw [hkd, hAx] at this
                  exact this
                have HNi : ∀ q, Calls Tryz.prog 98 #[.int .i64 (ti : Int), .pointer (some ⟨ub, 0, none⟩), .pointer (some ⟨w.heap.size + 1, 0, none⟩)] (wz.drewN q) fun e w' => e = .returned (.int .i64 (Bi : Int)) ∧ ∃ m, w' = (wz.drewN q).drewN m := fun q => by
                  have := HNN.out ti wz hti hs q
                  rw [hgd, hBx] at this
                  exact this
                have x7 := (k7.same hs (by omega) fun j _ => by omega).cell 0
                have x9 := (k9.same hs (by omega) fun j _ => by omega).cell 0
                have xt : wz.cell? ⟨T, Ai, none⟩ = some (.slice (some ⟨T + 2 + Ai, 0, none⟩) us.length us.length) := ((kt.same hs (by omega) fun j _ => by omega).cell Ai).trans (outer_at hAi)
                have xv := ht.cell hAi hBi
                have xn := (ht Ai hAi).frozen Bi
                have hinc := Lib.hid (fun q => (ht.drewN q).inc HU.out.2.1 (fun i j _ _ e => by omega) hAi hBi)
                have hbv := hbd yk yi
                have hbt := tap_bd xs ts (ti, ta) yk yi k
                rw [hAe, hBe] at xv hinc
                have HHT := Lib.hid (show ∀ a b, hitI xs ts (ti, ta) a b k = if a = yk ∧ b = yi then 1 else 0 from fun a b => by
                  unfold hitI
                  rw [hkd]
                  simp only [hgd, hcb]
                  by_cases h1 : yk = a <;> by_cases h2 : yi = b
                  · subst h1; subst h2; simp [hyy]
                  · rw [if_neg (fun h => h2 h.2.1), if_neg (fun h => h2 h.2.symm)]
                  · rw [if_neg (fun h => h1 h.1), if_neg (fun h => h1 h.1.symm)]
                  · rw [if_neg (fun h => h1 h.1), if_neg (fun h => h1 h.1.symm)])
                have hAm : (Ai : Int) < (us.length : Int) := by omega
                have hBm : (Bi : Int) < (us.length : Int) := by omega
                obtain ⟨v, hv⟩ : ∃ v, f0 yk yi + tapI xs ts (ti, ta) yk yi k = v := ⟨_, rfl⟩
                rw [hv] at xv hinc
                have hv0 : 0 ≤ v := by omega
                have hv1 : v ≤ 1000000 := by omega
                clear hv hbv hbt hAx hBx hAe hBe hcb hgd hkd hkm hym
                gi_wp2
                refine quietT_lit (m := 13) (lp := lp) rfl rfl rfl rfl rfl (by kernel_rfl) hmix (by kernel_rfl) (by kernel_rfl) (by kernel_rfl) (by kernel_rfl) ?_
                simp only [List.take_succ_cons, List.take_zero, List.cons_append, List.nil_append, noop]
                repeat (refine wpQuietIn_step (fun _ _ _ _ => True.intro) (fun K hK => ?_); go_simp; first | (refine hK _ ?_; clear hK K) | (apply Exists.intro; refine ⟨fun _ => ?_, hK _ ?_⟩; first | exact CallsIn.quiet_of (CallsIn.inRound lp (callsIn_wide.2 (HNk _))) | exact CallsIn.quiet_of (CallsIn.inRound lp (callsIn_wide.2 (HNi _))); clear hK K))
                refine wpQuietIn_nil ?_
                rintro _ ⟨nq2, rfl⟩
                unfold Oper.wpIn
                refine ⟨fun _ _ => True.intro, ?_⟩
                go_simp
                clear HNk HNi x7 x9 xt xv xn
                gi_wp2
                go_roundw
                case rel =>
                  refine ⟨k + 1, by omega, by go_num, (hs.drewN nq2).put hAi Bi _, (hinc.out nq2).congr (fun a _ b _ => ?_), (ho.trans (others_drewN wz nq2)).trans (KeepsOthers.setCell _ _ _), by simp; exact hz⟩
                  show _ = f0 a b + (tapI xs ts (ti, ta) a b k + hitI xs ts (ti, ta) a b k)
                  rw [HHT.out, Int.add_assoc]
                case measure => simp [intOf]; omega
          · obtain rfl : k = l.length := by omega
            gi_wp2
            refine ⟨ho, hS.two hs hz (by omega) (fun j _ => by omega) hbx9 (fun j _ => by omega) (by omega) (fun j _ => by omega), hs, ht.congr fun a _ b _ => ?_⟩
            rw [HPRE.out, hxl]
      case done =>
        rintro D ys W hD rfl ⟨hS, hT⟩ hK
        have x6 := (k6.same hS (by omega) fun j _ => by omega).cell 0
        have x7 := (k7.same hS (by omega) fun j _ => by omega).cell 0
        gi_wp2
        gi_quiet_th (fail)
        gi_wp2
        have hK2 : (W.drewN nq).heap[D]? = some (.deferred (some [])) := hK
        have hgr := grownBy_putObj' (W.drewN nq) D (.deferred none)
        refine ⟨by simp, .inl ⟨_, _, rfl, run_takeDeferred hK2, ?_⟩⟩
        refine ⟨_, results_tmp2 rfl _ _ _, ?_⟩
        rw [HEQ.out.1, HEQ.out.2.1, HEQ.out.2.2]
        have hTD : T + 2 + us.length < D := by omega
        refine ⟨V, cv, T, rfl, own_base (own_keep own9 fun b hb => ?_) (by omega), by omega, ((kt.same hS (by omega) fun j _ => by omega).drewN nq).grownO hgr (fun e => by cases e; omega), fun j hj => ?_, ?_⟩
        · have hbT := hVT b hb
          exact (hgr.block b (by show b < W.heap.size; have := hS.size; omega) (fun e => by cases e; omega)).trans (hS.block b (by omega) fun j _ => by omega)
        · have h1 := ((hT.congr (g := tabI xs ts taps) fun a _ b _ => ?_) j hj)
          · exact (h1.drewN nq).grownO hgr (fun e => by injection e with e; have e : T + 2 + j = D := e; omega)
          · unfold tabI
            rw [← range_getD taps (fun t => tapI xs ts t a b xs.length)]
        · exact (below_drewN (e9.trans (hS.below (B := w.heap.size) (by omega) fun j _ => by omega)) nq).trans (belowK_b (w := w) (Nat.le_refl _) (W.drewN nq) D _ _ (by omega) hK2 rfl rfl)
end Go.Proofs.YtbldpojkpmafpaaGreatDoor

/- The reference of package bus: over, Under, used, Crossings, Bound, Mirror as contracts on plain data. -/
namespace Go.Proofs.YtbldpojkpmafpaaGreatDoor
open Go.RowKit Sv
set_option maxRecDepth 100000
set_option linter.unusedVariables false
noncomputable section
abbrev layE (j : Nat) (order ts : List Int) : Nat × Ent := (j, .blk (.cells 29 [lv order, lv ts] true false false))
abbrev nilLay (j : Nat) : Nat × Ent := (j, .blk (.cells 29 [.raw (.slice none 0 0), .raw (.slice none 0 0)] true false false))
end
end Go.Proofs.YtbldpojkpmafpaaGreatDoor

/- Package bus: pairs and Bound as contracts on plain data: the ways of Bound. -/
namespace Go.Proofs.YtbldpojkpmafpaaGreatDoor
open Go.RowKit Sv
set_option maxRecDepth 100000
set_option linter.unusedVariables false
noncomputable section
abbrev tII : Ty := .list false (.int .i64)
abbrev llv (l : List (List Int)) : AV := .lst false (.list false (.int .i64)) l
def tabF (nets : List (Int × List Int)) (order ts : List Int) (a b : Int) : Int := tabI (extsOf nets order) ts (tapFrom (Bus.atUp order order.length) 0 (nets.map Prod.snd)) a b
def tabOf (nets : List (Int × List Int)) (order ts : List Int) : List (List Int) := (trkU ts).map fun a => (trkU ts).map fun b => tabF nets order ts a b
def okPr (nets : List (Int × List Int)) (order ts : List Int) : Bool := okLay nets order ts && decide (layErr nets order.length order ts = 0)
noncomputable def cPairs : Ctr := { f := 52, ps := [.list false (.pair (.int .i64) (.list false (.int .i64))), .pair (.list false (.int .i64)) (.list false (.int .i64))], rs := [.list false (.int .i64), .list false (.list false (.int .i64))], fresh := true, pre := fun d => okPr d.1 d.2.1.1 d.2.1.2, fn := fun d => (trkU d.2.1.2, (tabOf d.1 d.2.1.1 d.2.1.2, ())) }
def BBd : Code := (Tryz.f16.body).getD .skip
def bdCs : VCaller := ctrs [cLayB, cPairs]
abbrev dO : List Nat := [1,1,1,1,0,1,0,0]
abbrev dB : List Nat := [1,1,1,1,0,1,0,0,1,1,0,0]
abbrev dK : List Nat := [1,1,1,1,0,1,0,0,1,1,0,0,1,1,0,0]
def SBd (tab : List (List Int)) (s : Int) (i : Nat) : St := { n := 56, sl := [(10, llv tab), (11, iv s), (28, iv tab.length), (29, iv i)], en := [], next := 64 }
def SBk (tab : List (List Int)) (s : Int) (i k : Nat) : St := { n := 56, sl := [(10, llv tab), (11, iv s), (12, iv i), (28, iv tab.length), (29, iv i), (32, iv i), (33, iv k)], en := [], next := 64 }
theorem bb_bad (nets : List (Int × List Int)) (n : Int) (order ts : List Int) (h1 : (okLay nets order ts) = true) (h2 : ¬layErr nets n order ts = (0 : Int)) :
    Tst.path (vrun0 Tryz.prog bdCs (fl BBd []) 4 56 [nv nets, iv n, yv order ts]) [true] (toRet Tryz.prog Tryz.f16 true (.tuple [iv 0, iv (layErr nets n order ts)])) := by
  have eTst : (Tst.path (vrun0 Tryz.prog bdCs (fl BBd []) 4 56 [nv nets, iv n, yv order ts]) [true] (toRet Tryz.prog Tryz.f16 true (.tuple [iv 0, iv (layErr nets n order ts)]))) = (((okLay nets order ts) = true) ∧ ((layErr nets n order ts != (0 : Int)) = true) ∧ (((0 : Int)) = ((0 : Int))) ∧ ((layErr nets n order ts) = (layErr nets n order ts)) ∧ True) := by kernel_rfl
  exact eTst.mpr ⟨h1, ⟨bne_iff_ne.mpr h2, ⟨rfl, ⟨rfl, trivial⟩⟩⟩⟩
theorem bb_start (nets : List (Int × List Int)) (n : Int) (order ts : List Int) (h1 : (okLay nets order ts) = true) (h2 : layErr nets n order ts = (0 : Int)) (h3 : (okPr nets order ts) = true) :
    Tst.path (vrun0 Tryz.prog bdCs (fl BBd []) 7 56 [nv nets, iv n, yv order ts]) [false] (toSt Tryz.prog 56 .normal [] (SBd (tabOf nets order ts) 0 0)) := by
  have eTst : (Tst.path (vrun0 Tryz.prog bdCs (fl BBd []) 7 56 [nv nets, iv n, yv order ts]) [false] (toSt Tryz.prog 56 .normal [] (SBd (tabOf nets order ts) 0 0))) = (((okLay nets order ts) = true) ∧ ((layErr nets n order ts != (0 : Int)) = false) ∧ ((okPr nets order ts) = true) ∧ ((tabOf nets order ts) = (tabOf nets order ts)) ∧ (((0 : Int)) = ((0 : Int))) ∧ (((↑(List.length (tabOf nets order ts)) : Int)) = ((↑(List.length (tabOf nets order ts)) : Int))) ∧ (((0 : Int)) = ((↑(0 : Nat) : Int))) ∧ True) := by kernel_rfl
  exact eTst.mpr ⟨h1, ⟨bne_eq_false_iff_eq.mpr h2, ⟨h3, ⟨rfl, ⟨rfl, ⟨rfl, ⟨rfl, trivial⟩⟩⟩⟩⟩⟩⟩
theorem bb_row (tab : List (List Int)) (s : Int) (i : Nat) (h1 : (↑i : Int) < (↑(List.length tab) : Int)) :
    Tst.path (vrun Tryz.prog bdCs (fl BBd dO) 2 (SBd tab s i)) [true] (toSt Tryz.prog 56 .normal [] (SBd tab s i)) := by
  have eTst : (Tst.path (vrun Tryz.prog bdCs (fl BBd dO) 2 (SBd tab s i)) [true] (toSt Tryz.prog 56 .normal [] (SBd tab s i))) = (((decide ((↑i : Int) < (↑(List.length tab) : Int))) = true) ∧ ((tab) = (tab)) ∧ ((s) = (s)) ∧ (((↑(List.length tab) : Int)) = ((↑(List.length tab) : Int))) ∧ (((↑i : Int)) = ((↑i : Int))) ∧ True) := by kernel_rfl
  exact eTst.mpr ⟨decide_eq_true h1, ⟨rfl, ⟨rfl, ⟨rfl, ⟨rfl, trivial⟩⟩⟩⟩⟩
theorem bb_stop (tab : List (List Int)) (s : Int) (i : Nat) (h1 : ¬(↑i : Int) < (↑(List.length tab) : Int)) :
    Tst.path (vrun Tryz.prog bdCs (fl BBd dO) 2 (SBd tab s i)) [false] (toSt Tryz.prog 56 (.exit 0) [] (SBd tab s i)) := by
  have eTst : (Tst.path (vrun Tryz.prog bdCs (fl BBd dO) 2 (SBd tab s i)) [false] (toSt Tryz.prog 56 (.exit 0) [] (SBd tab s i))) = (((decide ((↑i : Int) < (↑(List.length tab) : Int))) = false) ∧ ((tab) = (tab)) ∧ ((s) = (s)) ∧ (((↑(List.length tab) : Int)) = ((↑(List.length tab) : Int))) ∧ (((↑i : Int)) = ((↑i : Int))) ∧ True) := by kernel_rfl
  exact eTst.mpr ⟨decide_eq_false h1, ⟨rfl, ⟨rfl, ⟨rfl, ⟨rfl, trivial⟩⟩⟩⟩⟩
theorem bb_in (tab : List (List Int)) (s : Int) (i : Nat)  :
    Tst.path (vrun Tryz.prog bdCs (fl BBd dB) 2 (SBd tab s i)) [] (toSt Tryz.prog 56 .normal [] (SBk tab s i 0)) := by
  have eTst : (Tst.path (vrun Tryz.prog bdCs (fl BBd dB) 2 (SBd tab s i)) [] (toSt Tryz.prog 56 .normal [] (SBk tab s i 0))) = (((tab) = (tab)) ∧ ((s) = (s)) ∧ (((↑i : Int)) = ((↑i : Int))) ∧ (((↑(List.length tab) : Int)) = ((↑(List.length tab) : Int))) ∧ (((↑i : Int)) = ((↑i : Int))) ∧ (((↑i : Int)) = ((↑i : Int))) ∧ (((0 : Int)) = ((↑(0 : Nat) : Int))) ∧ True) := by kernel_rfl
  exact eTst.mpr ⟨rfl, ⟨rfl, ⟨rfl, ⟨rfl, ⟨rfl, ⟨rfl, ⟨rfl, trivial⟩⟩⟩⟩⟩⟩⟩
theorem bb_add (tab : List (List Int)) (s : Int) (i k : Nat) (h1 : (↑k : Int) < (↑i : Int)) (h2 : i < List.length tab) (h3 : k < List.length (List.getD tab i [])) (h4 : k < List.length tab) (h5 : i < List.length (List.getD tab k [])) (h6 : -9223372036854775808 ≤ s + (if List.getD (List.getD tab k []) i (0 : Int) < List.getD (List.getD tab i []) k (0 : Int) then List.getD (List.getD tab k []) i (0 : Int) else List.getD (List.getD tab i []) k (0 : Int)) ∧ s + (if List.getD (List.getD tab k []) i (0 : Int) < List.getD (List.getD tab i []) k (0 : Int) then List.getD (List.getD tab k []) i (0 : Int) else List.getD (List.getD tab i []) k (0 : Int)) ≤ 9223372036854775807) (h7 : -9223372036854775808 ≤ (↑k : Int) + (1 : Int) ∧ (↑k : Int) + (1 : Int) ≤ 9223372036854775807) :
    Tst.path (vall Tryz.prog bdCs (fl BBd dK) (SBk tab s i k)) [true] (toSt Tryz.prog 56 .normal [] (SBk tab (s + (if (tab.getD k []).getD i 0 < (tab.getD i []).getD k 0 then (tab.getD k []).getD i 0 else (tab.getD i []).getD k 0)) i (k + 1))) := by
  have eTst : (Tst.path (vall Tryz.prog bdCs (fl BBd dK) (SBk tab s i k)) [true] (toSt Tryz.prog 56 .normal [] (SBk tab (s + (if (tab.getD k []).getD i 0 < (tab.getD i []).getD k 0 then (tab.getD k []).getD i 0 else (tab.getD i []).getD k 0)) i (k + 1)))) = (((decide ((↑k : Int) < (↑i : Int))) = true) ∧ ((decide ((0 : Int) ≤ (↑i : Int))) = true) ∧ ((decide (i < List.length tab)) = true) ∧ ((AV.same (AV.lst false (Ty.int IntKind.i64) (List.getD tab i [])) (AV.lst false (Ty.int IntKind.i64) (List.getD tab i []))) = true) ∧ ((decide ((0 : Int) ≤ (↑k : Int))) = true) ∧ ((decide (k < List.length (List.getD tab i []))) = true) ∧ ((AV.same (AV.raw (Value.int IntKind.i64 (List.getD (List.getD tab i []) k (0 : Int)))) (AV.raw (Value.int IntKind.i64 (List.getD (List.getD tab i []) k (0 : Int))))) = true) ∧ ((decide ((0 : Int) ≤ (↑k : Int))) = true) ∧ ((decide (k < List.length tab)) = true) ∧ ((AV.same (AV.lst false (Ty.int IntKind.i64) (List.getD tab k [])) (AV.lst false (Ty.int IntKind.i64) (List.getD tab k []))) = true) ∧ ((decide ((0 : Int) ≤ (↑i : Int))) = true) ∧ ((decide (i < List.length (List.getD tab k []))) = true) ∧ ((AV.same (AV.raw (Value.int IntKind.i64 (List.getD (List.getD tab k []) i (0 : Int)))) (AV.raw (Value.int IntKind.i64 (List.getD (List.getD tab k []) i (0 : Int))))) = true) ∧ ((fits IntKind.i64 (s + (if List.getD (List.getD tab k []) i (0 : Int) < List.getD (List.getD tab i []) k (0 : Int) then List.getD (List.getD tab k []) i (0 : Int) else List.getD (List.getD tab i []) k (0 : Int))) = true)) ∧ ((fits IntKind.i64 ((↑k : Int) + (1 : Int))) = true) ∧ ((tab) = (tab)) ∧ ((s + (if List.getD (List.getD tab k []) i (0 : Int) < List.getD (List.getD tab i []) k (0 : Int) then List.getD (List.getD tab k []) i (0 : Int) else List.getD (List.getD tab i []) k (0 : Int)) = (s + if List.getD (List.getD tab k []) i (0 : Int) < List.getD (List.getD tab i []) k (0 : Int) then List.getD (List.getD tab k []) i (0 : Int) else List.getD (List.getD tab i []) k (0 : Int)))) ∧ (((↑i : Int)) = ((↑i : Int))) ∧ (((↑(List.length tab) : Int)) = ((↑(List.length tab) : Int))) ∧ (((↑i : Int)) = ((↑i : Int))) ∧ (((↑i : Int)) = ((↑i : Int))) ∧ (((↑k : Int) + (1 : Int)) = ((↑(k + (1 : Nat)) : Int))) ∧ True) := by kernel_rfl
  exact eTst.mpr ⟨decide_eq_true h1, ⟨decide_eq_true (by omega), ⟨decide_eq_true h2, ⟨same_refl (by kernel_rfl), ⟨decide_eq_true (by omega), ⟨decide_eq_true h3, ⟨same_refl (by kernel_rfl), ⟨decide_eq_true (by omega), ⟨decide_eq_true h4, ⟨same_refl (by kernel_rfl), ⟨decide_eq_true (by omega), ⟨decide_eq_true h5, ⟨same_refl (by kernel_rfl), ⟨fits_i64 h6, ⟨fits_i64 h7, ⟨rfl, ⟨(by omega), ⟨rfl, ⟨rfl, ⟨rfl, ⟨rfl, ⟨(by omega), trivial⟩⟩⟩⟩⟩⟩⟩⟩⟩⟩⟩⟩⟩⟩⟩⟩⟩⟩⟩⟩⟩⟩
theorem bb_end (tab : List (List Int)) (s : Int) (i k : Nat) (h1 : ¬(↑k : Int) < (↑i : Int)) :
    Tst.path (vall Tryz.prog bdCs (fl BBd dK) (SBk tab s i k)) [false] (toSt Tryz.prog 56 (.exit 2) [] (SBd tab s i)) := by
  have eTst : (Tst.path (vall Tryz.prog bdCs (fl BBd dK) (SBk tab s i k)) [false] (toSt Tryz.prog 56 (.exit 2) [] (SBd tab s i))) = (((decide ((↑k : Int) < (↑i : Int))) = false) ∧ ((tab) = (tab)) ∧ ((s) = (s)) ∧ (((↑(List.length tab) : Int)) = ((↑(List.length tab) : Int))) ∧ (((↑i : Int)) = ((↑i : Int))) ∧ True) := by kernel_rfl
  exact eTst.mpr ⟨decide_eq_false h1, ⟨rfl, ⟨rfl, ⟨rfl, ⟨rfl, trivial⟩⟩⟩⟩⟩
theorem bb_next (tab : List (List Int)) (s : Int) (i : Nat) (h1 : -9223372036854775808 ≤ (↑i : Int) + (1 : Int) ∧ (↑i : Int) + (1 : Int) ≤ 9223372036854775807) :
    Tst.path (vall Tryz.prog bdCs (List.drop 3 (fl BBd dO)) (SBd tab s i)) [] (toSt Tryz.prog 56 .normal [] (SBd tab s (i + 1))) := by
  have eTst : (Tst.path (vall Tryz.prog bdCs (List.drop 3 (fl BBd dO)) (SBd tab s i)) [] (toSt Tryz.prog 56 .normal [] (SBd tab s (i + 1)))) = (((fits IntKind.i64 ((↑i : Int) + (1 : Int))) = true) ∧ ((tab) = (tab)) ∧ ((s) = (s)) ∧ (((↑(List.length tab) : Int)) = ((↑(List.length tab) : Int))) ∧ (((↑i : Int) + (1 : Int)) = ((↑(i + (1 : Nat)) : Int))) ∧ True) := by kernel_rfl
  exact eTst.mpr ⟨fits_i64 h1, ⟨rfl, ⟨rfl, ⟨rfl, ⟨(by omega), trivial⟩⟩⟩⟩⟩
theorem bb_ret (tab : List (List Int)) (s : Int) (i : Nat)  :
    Tst.path (vall Tryz.prog bdCs (List.drop 8 (fl BBd [])) (SBd tab s i)) [] (toRet Tryz.prog Tryz.f16 true (.tuple [iv s, iv 0])) := by
  have eTst : (Tst.path (vall Tryz.prog bdCs (List.drop 8 (fl BBd [])) (SBd tab s i)) [] (toRet Tryz.prog Tryz.f16 true (.tuple [iv s, iv 0]))) = (((s) = (s)) ∧ (((0 : Int)) = ((0 : Int))) ∧ True) := by kernel_rfl
  exact eTst.mpr ⟨rfl, ⟨rfl, trivial⟩⟩
theorem dens_pr {F : Env} {w : World} {nets : List (Int × List Int)} {order ts : List Int} {xs : List Value} (hF : OkF w F) (hg : GoodNets nets) (hd : Dens F [nv nets, yv order ts] xs) :
    ∃ (A A2 A3 : Option Addr) (c c2 c3 : Nat) (l : List NetAt), xs = [.slice A l.length c, .agg #[.slice A2 order.length c2, .slice A3 ts.length c3]] ∧ l.map NetAt.net = nets ∧ NetsIn w w.heap.size A l ∧ Row w w.heap.size A2 (ic order) ∧ Row w w.heap.size A3 (ic ts) := by
  cases hd with
  | cons d1 d2 =>
    cases d2 with
    | cons d3 d4 =>
      cases d4
      obtain ⟨A, c, l, rfl, h1, h2⟩ := den_nets hF hg d1
      obtain ⟨ys, e1, rfl⟩ := Den.agg_inv (cs := [lv order, lv ts]) d3
      cases e1 with
      | cons e1 e2 =>
        cases e2 with
        | cons e2 e3 =>
          cases e3
          obtain ⟨A2, c2, rfl, hc2, h3⟩ := den_ints hF e1
          obtain ⟨A3, c3, rfl, hc3, h4⟩ := den_ints hF e2
          exact ⟨A, A2, A3, c, c2, c3, l, rfl, h1, h2, h3, h4⟩
theorem row_of_blk {w : World} {b : Nat} {t : TypeId} {vs : List Value} (h : Blk w b t vs.toArray) : Row w w.heap.size (some ⟨b, 0, none⟩) vs := .inr ⟨b, 0, rfl, h.lt, fun i hi => by
  rw [Nat.zero_add, h.cell i]
  simp [List.getD_eq_getElem?_getD, hi]⟩
theorem rows_den {w' : World} {n0 : Nat} {at' : Nat → Option (Nat × Nat)} {us : List Int} {f : Int → Int → Int} {t : Nat} (ht : TabIs w' us (fun j => t + 2 + j) f) (hn : n0 ≤ t) :
    ∀ (k : Nat), k ≤ us.length → Dens ⟨at', fun b => if n0 ≤ b then cellsOf? w' b else none⟩ (Ty.flat tII ((us.take k).map fun a => us.map fun b => f a b)) ((List.range k).map (rowS t us.length))
  | 0, _ => .nil
  | k + 1, hk => by
    rw [take_next (show k < us.length by omega), List.map_append, Ty.flat_append, List.range_succ, List.map_append]
    refine (rows_den ht hn k (by omega)).append ?_
    have h1 := ht k (by omega)
    have e : (us.map fun b => Value.int .i64 (f (us.getD k 0) b)) = (us.map fun b => f (us.getD k 0) b).map (Value.int .i64) := by rw [List.map_map]; rfl
    rw [e] at h1
    have h2 := ints_den (n0 := n0) (at' := at') (c := us.length) (row_of_blk h1) (.inr fun b off h => by cases h; show n0 ≤ t + 2 + k; omega) (by simp)
    rw [List.length_map] at h2
    exact .cons h2 .nil
theorem pairs_holds (nets : List (Int × List Int)) (order ts : List Int) (h : okPr nets order ts = true) : Holds Tryz.prog true 52 [nv nets, yv order ts] (.tuple [lv (trkU ts), llv (tabOf nets order ts)]) := fun w F xs hF hd => by
  obtain ⟨h0, hE⟩ := Bool.and_eq_true_iff.1 h
  have hE := of_decide_eq_true hE
  obtain ⟨h1, h2, h3, h4, h5⟩ := okLay_iff h0
  have hB := both_of_lay hE
  have htl : ts.length = nets.length := by
    unfold layErr at hE
    rw [if_neg (fun g => g hB)] at hE
    by_cases g : ts.length ≠ nets.length
    · rw [if_pos g] at hE; cases hE
    · exact Classical.not_not.1 g
  obtain ⟨A, A2, A3, c, c2, c3, l, rfl, hl, hN, hR, hS⟩ := dens_pr hF h1 hd
  have hll : l.length = nets.length := by rw [← hl, List.length_map]
  have e1 : l.map NetAt.cols = nets.map Prod.snd := by rw [← hl, List.map_map]; rfl
  have hp := pairs_any A A2 A3 c c2 c3 w.heap.size l order ts order.length w hN hR hS (Nat.le_refl _) (by rw [hl]; exact hB) (by omega)
  rw [hl, e1] at hp
  refine hp.mono fun e w' ⟨U, cu, t, g1, g2, g3, g4, g5, g6⟩ => ?_
  obtain ⟨U', cu', eU, hcu, hr⟩ := own_cap g2
  cases eU
  have hd1 := ints_den (n0 := w.heap.size) (at' := F.at') hr (.inr (own_fresh g2)) hcu
  have hlen : (tabOf nets order ts).length = (trkU ts).length := by unfold tabOf; rw [List.length_map]
  have hrows := rows_den (n0 := w.heap.size) (at' := F.at') g5 g3 (trkU ts).length (Nat.le_refl _)
  rw [List.take_length] at hrows
  have hout : (outerS t (trkU ts).length (trkU ts).length) = (List.range (trkU ts).length).map (rowS t (trkU ts).length) := by unfold outerS; simp
  rw [hout] at g4
  have hd2 := fresh_den (n0 := w.heap.size) (at' := F.at') (t := tII) (xs := tabOf nets order ts) (c := (trkU ts).length) (row_of_blk g4) hrows (by decide) (.inr fun b off h => by cases h; omega) (by omega)
  rw [hlen] at hd2
  refine ⟨_, ⟨F.at', fun b => if w.heap.size ≤ b then cellsOf? w' b else none⟩, g1, .tuple (.cons hd1 (.cons hd2 .nil)), ⟨hF.glob, hF.all, fun b A hb => ?_⟩, fun b A hb => .inr ?_, g6⟩
  · have hb : (if w.heap.size ≤ b then cellsOf? w' b else none) = some A := hb
    split at hb
    · exact cellsOf?_some.1 hb
    · cases hb
  · have hb : (if w.heap.size ≤ b then cellsOf? w' b else none) = some A := hb
    split at hb
    · assumption
    · cases hb
theorem cPairs_ok : cPairs.Ok Tryz.prog := fun ⟨nets, ⟨order, ts⟩, _⟩ h => pairs_holds nets order ts h
end
end Go.Proofs.YtbldpojkpmafpaaGreatDoor

/- The best order of the columns, in plain Lean. -/
namespace Go.Proofs.YtbldpojkpmafpaaGreatDoor
open Go.RowKit Sv
set_option linter.unusedVariables false
section
variable {nets : List (Int × List Int)} {n : Int} {o : List Int}
abbrev manyI : Int := 1099511627776
abbrev numO (nets : List (Int × List Int)) (o : List Int) : Int := (((tracksOf (extsOf nets o)).1.length : Nat) : Int)
theorem tapF_bd (hE : Bus.bothErr nets n o = 0) (ts : List Int) (taps : List (Nat × Int)) (x : Nat) : 0 ≤ tapF (extsOf nets o) ts taps x ∧ tapF (extsOf nets o) ts taps x ≤ (64 : Nat) := by
  obtain ⟨n1, n97, l64, hcols⟩ := Bus.netsErr_zero (both_iff.1 hE).1
  unfold tapF
  have := crossUp_lo (extsOf nets o) ts (taps.getD x (0, 0)).1 (taps.getD x (0, 0)).2 (extsOf nets o).length
  have := extsOf_len nets o
  omega
theorem cross_full (hE : Bus.bothErr nets n o = 0) (ts : List Int) : crossOf nets o ts manyI = 0 + isum ((List.range (tapFrom (Bus.atUp o o.length) 0 (nets.map Prod.snd)).length).map (tapF (extsOf nets o) ts (tapFrom (Bus.atUp o o.length) 0 (nets.map Prod.snd)))) := by
  rw [show manyI = 1099511627776 from rfl, cross_sum hE, Int.zero_add]
  unfold crossSum
  rw [← range_getD]
  rfl
theorem cross_bd (hE : Bus.bothErr nets n o = 0) (ts : List Int) : 0 ≤ crossOf nets o ts manyI ∧ crossOf nets o ts manyI ≤ 397312 := by
  have hf := tapF_bd hE ts (tapFrom (Bus.atUp o o.length) 0 (nets.map Prod.snd))
  have h := isum_bd _ 64 hf (List.range (tapFrom (Bus.atUp o o.length) 0 (nets.map Prod.snd)).length)
  have hT := taps_few (l := mkNets nets) (n := n) (by rw [mkNets_net]; exact (both_iff.1 hE).1) (Bus.atUp o o.length)
  have e : (mkNets nets).map NetAt.cols = nets.map Prod.snd := by
    have : (mkNets nets).map NetAt.cols = ((mkNets nets).map NetAt.net).map Prod.snd := by rw [List.map_map]; rfl
    rw [this, mkNets_net]
  rw [e] at hT
  rw [cross_full hE, Int.zero_add]
  have hb : (List.range (tapFrom (Bus.atUp o o.length) 0 (nets.map Prod.snd)).length).length * 64 ≤ 6208 * 64 := Nat.mul_le_mul_right _ (by rw [List.length_range]; exact hT)
  omega
theorem ext_ne (m : Nat) : ext m m [] ≠ [] := fun h => by
  have : ((List.range m).map fun (k : Nat) => (k : Int)) ∈ ext m m [] := (ord_mem m _).2 ⟨by simp, fun x hx => by
    obtain ⟨k, hk, rfl⟩ := List.mem_map.1 hx
    have := List.mem_range.1 hk
    omega, nodup_map_cast m⟩
  rw [h] at this
  cases this
end
end Go.Proofs.YtbldpojkpmafpaaGreatDoor

/- The reference of package bus: over, Under, used, Crossings, Bound, Mirror: what they return. -/
namespace Go.Proofs.YtbldpojkpmafpaaGreatDoor
open Go.RowKit Sv
set_option maxRecDepth 100000
set_option linter.unusedVariables false
noncomputable section
theorem mn_bd {a b L : Int} (h1 : 0 ≤ a ∧ a ≤ L) (h2 : 0 ≤ b ∧ b ≤ L) : 0 ≤ mn a b ∧ mn a b ≤ L := by
  unfold mn; split <;> omega
end
end Go.Proofs.YtbldpojkpmafpaaGreatDoor
