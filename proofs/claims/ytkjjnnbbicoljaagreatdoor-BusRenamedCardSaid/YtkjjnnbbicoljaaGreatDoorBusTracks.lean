/- Package bus: the tracks of nets that stand in an order (from 1 to 19 nets). -/
import Derived.Test.YtkjjnnbbicoljaaGreatDoorBusStable
namespace Go.Proofs.YtkjjnnbbicoljaaGreatDoor
open Go.RowKit

/-- the low of a net -/
def lowAt (xs : List (Int × Int)) (i : Nat) : Int := (xs.getD i (0, 0)).1
/-- one more net: the ends of the tracks, and the track of each net -/
def trackStep (xs : List (Int × Int)) (s : List Int × List Nat) (i : Nat) : List Int × List Nat :=
  let x := xs.getD i (0, 0)
  let t := freeFrom x.1 0 s.1
  if t < 0 then (s.1 ++ [x.2], s.2.set i s.1.length) else (s.1.set t.toNat x.2, s.2.set i t.toNat)
def tracksOf (xs : List (Int × Int)) : List Int × List Nat := (sortTo (lowAt xs) (List.range xs.length) xs.length).foldl (trackStep xs) ([], List.replicate xs.length 0)

theorem own_drow {w : World} {base n : Nat} {e : TypeId} {v : Value} {d : List Nat} (h : w.ownsRow base e 1 v n (d.map fun x => Value.int .i64 ((x : Nat) : Int))) (hn : 0 < n) :
    ∃ g c, v = .slice (some ⟨g, 0, none⟩) n c ∧ base ≤ g ∧ d.length = n ∧ DRow w g d := by
  have hlen := h.1
  rw [List.length_map, Nat.mul_one] at hlen
  have hcs := @World.ownsRow.cells _ _ _ _ _ _ _ h
  rcases h.2 with ⟨_, h2⟩ | ⟨g, cap, cur, h1, h2, h3, h4⟩
  · omega
  · refine ⟨g, cap, h1, h2, hlen, fun i hi => ?_, fun i => ?_, (Array.getElem?_eq_some_iff.1 h3).1⟩
    · have := hcs (g := g) (by rw [h1]; rfl) i (.int .i64 ((d[i] : Nat) : Int)) (by rw [List.getElem?_map, List.getElem?_eq_getElem hi]; rfl)
      have e : (⟨g, 0, none⟩ : Addr).add i = ⟨g, i, none⟩ := by
        rcases Nat.eq_zero_or_pos i with rfl | hp
        · rfl
        · simp [Addr.add]; omega
      rw [e] at this
      rw [this, List.getD_eq_getElem?_getD, List.getElem?_eq_getElem hi]; rfl
    · simp [World.frozen?, h3]
theorem range_snoc (k : Nat) : (List.range (k + 1)).map (fun x => Value.int .i64 ((x : Nat) : Int)) = (List.range k).map (fun x => Value.int .i64 ((x : Nat) : Int)) ++ [.int .i64 (k : Int)] := by
  rw [List.range_succ]; simp
theorem DRow.block {w w' : World} {g : Nat} {d : List Nat} (h : DRow w g d) (hb : w'.heap[g]? = w.heap[g]?) (hs : w.heap.size ≤ w'.heap.size) : DRow w' g d :=
  ⟨fun i hi => (World.cell?_of_block (a := ⟨g, i, none⟩) hb).trans (h.cell i hi), fun i => (World.frozen?_of_block (a := ⟨g, i, none⟩) hb).trans (h.free i), by have := h.lt; omega⟩

theorem made_zero (n : Nat) : (madeCells #[.int .i64 0] n).toList = (List.replicate n 0).map fun x => Value.int .i64 ((x : Nat) : Int) := by
  apply List.ext_getElem
  · simp [madeCells]
  · intro i h1 h2
    simp [madeCells, Nat.mod_one]
/-- a store into a slice of the call's own -/
theorem own_store {w : World} {base g n c i : Nat} {e : TypeId} {d : List Int} {x : Int} (h : w.ownsRow base e 1 (.slice (some ⟨g, 0, none⟩) n c) n (d.map (Value.int .i64))) (_ : i < n) :
    (w.setCell ⟨g, i, none⟩ (.int .i64 x)).ownsRow base e 1 (.slice (some ⟨g, 0, none⟩) n c) n ((d.set i x).map (Value.int .i64)) := by
  refine ⟨by have := h.1; simpa using this, ?_⟩
  rcases h.2 with ⟨h1, _⟩ | ⟨b, cap, cur, h1, h2, h3, h4, h5, h6, h7⟩
  · cases h1
  · injection h1 with h1 _ h8
    injection h1 with h1
    injection h1 with h1
    subst h1; subst h8
    refine .inr ⟨g, c, cur.setIfInBounds i (.int .i64 x), rfl, h2, ?_, h4, h5, by rw [Array.size_setIfInBounds]; exact h6, ?_⟩
    · simp [World.setCell, Array.getElem?_modify, h3]
    · rw [Array.toList_setIfInBounds, List.take_set, h7, List.map_set]
theorem own_free {w : World} {base g n c : Nat} {e : TypeId} {vs : List Value} (h : w.ownsRow base e 1 (.slice (some ⟨g, 0, none⟩) n c) n vs) (i : Nat) : w.frozen? ⟨g, i, none⟩ = false := by
  rcases h.2 with ⟨h1, _⟩ | ⟨b, cap, cur, h1, h2, h3, _⟩
  · cases h1
  · injection h1 with h1
    injection h1 with h1
    injection h1 with h1
    subst h1
    simp [World.frozen?, h3]
theorem grow_alloc {w w' : World} {r : Option Nat} (h : w.grownBy w' r) (o : Obj) : w.grownBy (w'.alloc o) r :=
  ⟨h.os, h.tape, h.output, by have := h.size; simp; omega, fun k hk hne => (Below.heap_alloc w' o k (by have := h.size; omega)).trans (h.block k hk hne)⟩
theorem grow_grow {w w' w'' : World} {r row : Option Nat} (h : w.grownBy w' r) (h2 : w'.grownBy w'' row) (hr : ∀ b, row = some b → w.heap.size ≤ b) : w.grownBy w'' r :=
  ⟨h2.os.trans h.os, h2.tape.trans h.tape, h2.output.trans h.output, Nat.le_trans h.size h2.size, fun k hk hne => (h2.block k (Nat.lt_of_lt_of_le hk h.size) (fun e => by have := hr k e.symm; omega)).trans (h.block k hk hne)⟩
theorem grow_set {w w' : World} {r : Option Nat} {g i : Nat} (h : w.grownBy w' r) (hg : w.heap.size ≤ g ∨ r = some g) (u : Value) : w.grownBy (w'.setCell ⟨g, i, none⟩ u) r :=
  ⟨h.os, h.tape, h.output, by simpa using h.size, fun k hk hne => (Below.heap_setCell w' ⟨g, i, none⟩ u k (fun e => by
    have e' : k = g := e
    rcases hg with h1 | h1
    · omega
    · exact hne (by rw [h1, e']))).trans (h.block k hk hne)⟩
theorem DRow.far {w : World} {g b i : Nat} {d : List Nat} {u : Value} (h : DRow w g d) (hb : g ≠ b) : DRow (w.setCell ⟨b, i, none⟩ u) g d := h.block (Below.heap_setCell w ⟨b, i, none⟩ u g hb) (by simp)
theorem own_cell {w : World} {base g n c : Nat} {e : TypeId} {vs : List Value} (h : w.ownsRow base e 1 (.slice (some ⟨g, 0, none⟩) n c) n vs) (i : Nat) (u : Value) (hu : vs[i]? = some u) : w.cell? ⟨g, i, none⟩ = some u := by
  have := h.cells (g := g) rfl i u hu
  have e : (⟨g, 0, none⟩ : Addr).add i = ⟨g, i, none⟩ := by
    rcases Nat.eq_zero_or_pos i with rfl | hp
    · rfl
    · simp [Addr.add]; omega
  rwa [e] at this
theorem own_some {w : World} {base n : Nat} {e : TypeId} {v : Value} {vs : List Value} (h : w.ownsRow base e 1 v n vs) (hn : 0 < n) : ∃ g c, v = .slice (some ⟨g, 0, none⟩) n c ∧ base ≤ g ∧ g < w.heap.size := by
  rcases h.2 with ⟨_, h2⟩ | ⟨g, cap, cur, h1, h2, h3, _⟩
  · omega
  · exact ⟨g, cap, h1, h2, (Array.getElem?_eq_some_iff.1 h3).1⟩
theorem freeFrom_lt (lo : Int) : ∀ (le : List Int) (k : Nat), freeFrom lo k le < 0 ∨ (k : Int) ≤ freeFrom lo k le ∧ freeFrom lo k le < k + le.length
  | [], k => by simp [freeFrom]
  | e :: r, k => by
      unfold freeFrom
      split
      · right; simp; omega
      · rcases freeFrom_lt lo r (k + 1) with h | h
        · exact .inl h
        · right; simp at h ⊢; omega

set_option maxHeartbeats 4000000 in
set_option maxRecDepth 100000 in
theorem tracks_any (g : Nat) (F : Nat → Int) (A An : Option Addr) (c cn B : Nat) (xs : List (Int × Int)) (w : World) (h : RowAt w g (.slice An xs.length cn) F (.slice A xs.length c)) (hr : Row w B A (xcells xs)) (hB : B ≤ w.heap.size)
    (hn0 : 0 < xs.length) (hn : xs.length < 20) :
    Calls Tryz.prog 50 #[.pointer (some ⟨g, 0, none⟩)] w fun e w' => ∃ (Ao : Option Addr) (co : Nat), e = .returned (.tuple #[.slice Ao xs.length co, .int .i64 ((tracksOf xs).1.length : Int)]) ∧
      Row w' w'.heap.size Ao ((tracksOf xs).2.map fun x => Value.int .i64 ((x : Nat) : Int)) ∧ Below w.heap.size w w' ∧ (∀ b off, Ao = some ⟨b, off, none⟩ → w.heap.size ≤ b) ∧ xs.length ≤ co := by
  have hgl := h.lt
  obtain ⟨i0, hi0, iz0, iz1, iz2⟩ := info_parts Tryz.info3
  obtain ⟨n, hnx⟩ : ∃ n, xs.length = n := ⟨_, rfl⟩
  have HNX := Lib.hid hnx
  have HG := Lib.hid h
  have HR := Lib.hid hr
  rw [hnx] at hn0 hn
  have hnets : w.cell? ⟨g, 0, none⟩ = some (.slice An n cn) := by rw [← hnx]; exact h.nets
  rw [hnx]
  clear h hr hnx
  go_enter Tryz.func50, Tryz.ntmps50
  go_wp2_with fail
  obtain ⟨W0, hW0⟩ : ∃ W, w.alloc (.cells #[.pointer (some ⟨g, 0, none⟩)] 79) = W := ⟨_, rfl⟩
  obtain ⟨bx, hbx⟩ : ∃ bx, w.heap.size = bx := ⟨_, rfl⟩
  have d0 : Blk W0 bx 79 #[.pointer (some ⟨g, 0, none⟩)] := by rw [← hW0, ← hbx]; exact Blk.new _ _ _
  have e0 : Below w.heap.size w W0 := by rw [← hW0]; exact (Below.refl _ w).alloc (Nat.le_refl _) _
  have hs0 : W0.heap.size = bx + 1 := by rw [← hW0, ← hbx]; simp
  have hb0 : W0.cell? ⟨bx, 0, none⟩ = some (.pointer (some ⟨g, 0, none⟩)) := d0.cell 0
  have hn00 : W0.cell? ⟨g, 0, none⟩ = some (.slice An n cn) := (e0.cell (p := ⟨g, 0, none⟩) hgl).trans hnets
  try rw [hW0]
  try rw [hbx]
  clear hW0
  go_loopw [4, 17] (fun v i wr => ∃ k : Nat, k ≤ n ∧ i = .int .i64 k ∧ wr.ownsRow (bx + 1) 3 1 v k ((List.range k).map fun x => Value.int .i64 ((x : Nat) : Int)) ∧ Below (bx + 1) W0 wr) (fun _ i _ => n - (intOf i).toNat)
  case atStart => exact ⟨0, Nat.zero_le _, rfl, World.ownsRow_nil _ _ _ _, Below.refl _ _⟩
  case round =>
    obtain ⟨k, hk, rfl, hown, eb⟩ := hrel
    have hsz := eb.size
    by_cases hlt : k < n
    · have hkn : (k : Int) < (n : Int) := by omega
      go_wp2_with (at_builtin; refine wpList_append_own_at _ rfl (.tmp 20) (.tmp 22) 23 rfl (bx + 1) 3 i0 (.int .i64 0) 1 8 Tryz.underlying23 hi0 iz0 iz1 iz2 rfl (by decide) _ _ _ rfl (hown.alloc _) ⟨_, 0, none⟩ 1 1 [.int .i64 (k : Int)] rfl rfl (cell_one_new _ _ _) ?hone ?c3 ?c4 ?c5 ?_)
      case hone => intro u hu; simp at hu; subst hu; rfl
      case c3 => unfold maxLen; omega
      case c4 => omega
      case c5 => simp; omega
      intro v' w4 hown4 hgrow4 _ hat
      have eb4 : Below (bx + 1) W0 w4 := below_grown eb (by omega) hown hgrow4
      have HRS := Lib.hid (range_snoc k)
      clear hgrow4 hat hown eb
      go_wp2_with fail
      go_roundw
      case rel => exact ⟨k + 1, by omega, by go_num, by rw [HRS.out]; exact hown4, eb4⟩
      case measure => simp [intOf]; omega
    · obtain rfl : k = n := by omega
      have hkn : ¬ (k : Int) < (k : Int) := by omega
      obtain ⟨gb, cb, rfl, hgb, hdl, hdr⟩ := own_drow hown hn0
      have e1 : Below w.heap.size w wr := e0.trans (eb.mono (by omega))
      have hBL : ByLow bx (bx + 1) k (lowAt xs) wr := by
        intro i j wx hi hj hbx'
        have ew : Below w.heap.size w wx := e1.trans (hbx'.mono (by omega))
        have eW : Below (bx + 1) W0 wx := eb.trans hbx'
        exact byLow_any bx g _ F A c B i j xs wx ((eW.cell (p := ⟨bx, 0, none⟩) (by show bx < bx + 1; omega)).trans hb0) (HG.out.block (ew.block g hgl)) (HR.out.below ew hB) (by rw [HNX.out]; exact hi) (by rw [HNX.out]; exact hj)
      have hSS := SortStable_any bx gb cb (bx + 1) k (List.range k) (lowAt xs) wr hdr hgb (by simpa using hn) (fun x hx => List.mem_range.1 hx) hBL
      rw [List.length_range] at hSS
      have HSS := Lib.hid hSS
      clear hSS hBL hown hdr
      go_wp2_with fail
      refine HSS.out.mono ?_
      rintro e w2 ⟨⟨v, rfl⟩, hd2, hg2⟩
      obtain ⟨ds, hds⟩ : ∃ ds, sortTo (lowAt xs) (List.range k) k = ds := ⟨_, rfl⟩
      have hso := sortTo_ok (lowAt xs) k (List.range k) (fun x hx => List.mem_range.1 hx) k (by simp)
      rw [hds] at hd2 hso
      rw [List.length_range] at hso
      have HDS := Lib.hid hds
      obtain ⟨hdl2, hdm⟩ := hso
      have HDM := Lib.hid hdm
      have e2 : Below w.heap.size w w2 := e1.grown hg2 (by have := e1.size; omega) (fun j hj => by cases hj; omega)
      have eW2 : Below (bx + 1) W0 w2 := eb.grown hg2 (by omega) (fun j hj => by cases hj; exact hgb)
      have hn2 : w2.cell? ⟨g, 0, none⟩ = some (.slice An k cn) := (e2.cell (p := ⟨g, 0, none⟩) hgl).trans hnets
      have hb2 : w2.cell? ⟨bx, 0, none⟩ = some (.pointer (some ⟨g, 0, none⟩)) := (eW2.cell (p := ⟨bx, 0, none⟩) (by show bx < bx + 1; omega)).trans hb0
      have hs2 := eW2.size
      clear HSS hds hdm hg2 eb e1 hnets hn00 e0 hb0 d0
      go_wp2_with (at_make; refine wpList_make_full _ rfl (.tmp 32) (.tmp 32) 23 rfl w2.heap.size 3 i0 (.int .i64 0) 1 Tryz.underlying23 hi0 iz0 iz1 .i64 .i64 (k : Int) (k : Int) k rfl rfl rfl rfl ?b2 ?b3 (Nat.le_refl _) ?_)
      case b2 => rw [iz2]; omega
      case b3 => unfold maxLen; omega
      intro W4 hown4 hg4
      rw [made_zero] at hown4
      obtain ⟨G4, hG4⟩ : ∃ G, w2.heap.size = G := ⟨_, rfl⟩
      rw [hG4] at hown4 ⊢
      obtain ⟨g', c', hgo, _, _, hdo⟩ := own_drow hown4 hn0
      have hgo' : g' = G4 := by injection hgo with h1; injection h1 with h1; injection h1 with h1; exact h1.symm
      subst hgo'
      have e4 : Below w.heap.size w W4 := e2.grown hg4 (by have := e2.size; omega) (fun j hj => by cases hj)
      have hd4 : DRow W4 gb ds := hd2.block (hg4.block gb hd2.lt (fun h => by cases h)) hg4.size
      have hb4 : W4.cell? ⟨bx, 0, none⟩ = some (.pointer (some ⟨g, 0, none⟩)) := hg4.cell hb2 (fun h => by cases h)
      have hgb4 : gb < g' := by have := hd2.lt; omega
      have hs4 : g' < W4.heap.size := hdo.lt
      have hbx4 : bx < g' := by omega
      have hgg : g < g' := by omega
      have hww : w.heap.size ≤ g' := by omega
      clear hg4 hown4 hgo hd2 hb2 e2 eW2 hn2 hG4
      go_wp2_with fail
      go_loopw [7, 36] (fun lv i wr => ∃ (j : Nat) (le : List Int) (ou : List Nat), j ≤ k ∧ i = .int .i64 (j : Int) ∧ (ds.take j).foldl (trackStep xs) ([], List.replicate k 0) = (le, ou) ∧ le.length ≤ j ∧ wr.ownsRow W4.heap.size 3 1 lv le.length (le.map (Value.int .i64)) ∧ DRow wr g' ou ∧ ou.length = k ∧ W4.grownBy wr (some g')) (fun _ i _ => k - (intOf i).toNat)
      case atStart => exact ⟨0, [], List.replicate k 0, Nat.zero_le _, rfl, rfl, Nat.le_refl _, World.ownsRow_nil _ _ _ _, hdo, by simp, ⟨rfl, rfl, rfl, Nat.le_refl _, fun _ _ _ => rfl⟩⟩
      case round =>
        obtain ⟨j, le, ou, hj, rfl, hfold, hle, hown, hdou, hol, hgr⟩ := hrel
        have HFO := Lib.hid hfold
        clear hfold
        have ew : Below w.heap.size w wr := e4.grown hgr (by omega) (fun j hj => by cases hj; exact hww)
        by_cases hlt : j < k
        · have hdj := (hd4.block (hgr.block gb (by omega) (fun h => by injection h with h; omega)) hgr.size).cell j (by omega)
          have hbw := hgr.cell hb4 (fun h => by injection h with h; have h' : bx = g' := h; omega)
          have hiiM := HDM.out (ds.getD j 0) (by rw [List.getD_eq_getElem?_getD, List.getElem?_eq_getElem (by omega)]; exact List.getElem_mem _)
          have HSTEP := Lib.hid (show (ds.take (j + 1)).foldl (trackStep xs) ([], List.replicate k 0) = trackStep xs (le, ou) (ds.getD j 0) by
            rw [List.take_add_one, List.getElem?_eq_getElem (by omega), Option.toList_some, List.foldl_append, HFO.out, List.getD_eq_getElem?_getD, List.getElem?_eq_getElem (by omega)]; rfl)
          generalize ds.getD j 0 = ii at *
          have x98 := (HG.out.block (ew.block g hgl)).ext
          obtain ⟨b, off, x, y, hA, hbB, hx, hc1, hc2⟩ := (HR.out.below ew hB).extent ii (by rw [HNX.out]; exact hiiM)
          subst hA
          have hxs : xs.getD ii (0, 0) = (x, y) := by rw [List.getD_eq_getElem?_getD, hx]; rfl
          have HTS := Lib.hid (show trackStep xs (le, ou) ii = if freeFrom x 0 le < 0 then (le ++ [y], ou.set ii le.length) else (le.set (freeFrom x 0 le).toNat y, ou.set ii (freeFrom x 0 le).toNat) by
            unfold trackStep; rw [hxs])
          rw [HNX.out] at x98
          have hik : (ii : Int) < (k : Int) := by omega
          have hjk : (j : Int) < (k : Int) := by omega
          obtain ⟨Al, cl, rfl, _, hrl⟩ := own_cap hown
          clear hx hxs
          go_wp2_with fail
          generalize hW5 : World.alloc wr _ = W5
          obtain ⟨Gx, hGx⟩ : ∃ G, wr.heap.size = G := ⟨_, rfl⟩
          have d5 : Blk W5 Gx 45 #[.int .i64 x, .int .i64 y] := by rw [← hW5, ← hGx]; exact Blk.new _ _ _
          have hown5 : W5.ownsRow W4.heap.size 3 1 (.slice Al le.length cl) le.length (le.map (Value.int .i64)) := by rw [← hW5]; exact hown.alloc _
          have hrl5 : Row W5 W5.heap.size Al (le.map (Value.int .i64)) := by rw [← hW5]; exact (hrl.alloc (Nat.le_refl _) _).more (by simp)
          have hou5 : DRow W5 g' ou := by rw [← hW5]; exact hdou.block (Below.heap_alloc wr _ g' hdou.lt) (by simp)
          have hgr5 : W4.grownBy W5 (some g') := by rw [← hW5]; exact grow_alloc hgr _
          have hs5 : Gx < W5.heap.size := by rw [← hW5, ← hGx]; simp
          have hGx4 : W4.heap.size ≤ Gx := by have := hgr.size; omega
          have x5 : W5.cell? ⟨Gx, 0, none⟩ = some (.int .i64 x) := d5.cell 0
          have y5 : W5.cell? ⟨Gx, 1, none⟩ = some (.int .i64 y) := d5.cell 1
          have hlown := hown.lt
          try rw [hGx]
          rw [hGx] at hlown
          have HIF := Lib.hid (IndexFunc_any Al cl W5.heap.size Gx x le W5 (by omega) hrl5 x5)
          clear hW5 hGx hown hrl hdou hgr hdj hbw x98 hc1 hc2 ew hrl5
          refine HIF.out.mono ?_
          rintro e w6 ⟨rfl, rfl⟩
          clear HIF
          have hfr := freeFrom_lt x le 0
          generalize freeFrom x 0 le = tv at *
          by_cases htv : tv < 0
          · rw [if_pos htv] at HTS
            have htd : decide (tv < 0) = true := decide_eq_true htv
            go_wp2_with (at_builtin; refine wpList_append_own_at _ rfl (.tmp 54) (.tmp 55) 23 rfl W4.heap.size 3 i0 (.int .i64 0) 1 8 Tryz.underlying23 hi0 iz0 iz1 iz2 rfl (by decide) _ _ _ rfl (hown5.alloc _) ⟨_, 0, none⟩ 1 1 [.int .i64 0] rfl rfl (cell_one_new _ _ _) ?hone ?c3 ?c4 ?c5 ?_)
            case hone => intro u hu; simp at hu; subst hu; rfl
            case c3 => unfold maxLen; omega
            case c4 => omega
            case c5 => simp; omega
            intro v' W6 hown6 hgrow6 _ hat
            have hz : le.map (Value.int .i64) ++ [.int .i64 0] = (le ++ [0]).map (Value.int .i64) := by simp
            rw [hz] at hown6
            obtain ⟨gl, cl2, rfl, hgl4, hglw⟩ := own_some hown6 (by omega)
            have hg6 : W4.grownBy W6 (some g') := grow_grow (grow_alloc hgr5 _) hgrow6 (fun b hb => (hown5.lt b hb).1)
            have hou6 : DRow W6 g' ou := (hou5.block (Below.heap_alloc W5 _ g' hou5.lt) (by simp)).block (hgrow6.block g' (by have := hou5.lt; simp; omega) (fun e => by have := (hown5.lt g' e.symm).1; omega)) hgrow6.size
            have y6 : W6.cell? ⟨Gx, 1, none⟩ = some (.int .i64 y) := hgrow6.cell ((World.cell?_alloc_lt W5 _ ⟨Gx, 1, none⟩ (by show Gx < _; omega)).trans y5) (fun e => by have := (hlown Gx e.symm).2; omega)
            have fl := own_free hown6 le.length
            have fo := hou6.free ii
            have co := hou6.cell ii (by omega)
            have cl1 := own_cell hown6 le.length (.int .i64 0) (by simp)
            have hne : g' ≠ gl := by omega
            have hset : (le ++ [0]).set le.length y = le ++ [y] := by simp
            have ho1 := own_set (g := g') (i := ii) (u := .int .i64 (le.length : Int)) (own_store (i := le.length) (x := y) hown6 (by omega)) (by omega)
            rw [hset] at ho1
            have hd1 := (hou6.far (b := gl) (i := le.length) (u := .int .i64 y) hne).set (i := ii) (x := le.length)
            have hg1 := grow_set (g := g') (i := ii) (grow_set (g := gl) (i := le.length) hg6 (.inl hgl4) (.int .i64 y)) (.inr rfl) (.int .i64 (le.length : Int))
            have hll : (le.length : Int) < (le.length : Int) + 1 := by omega
            clear hou5 hgr5 hown5 hgrow6 hat hown6 hou6 hg6 hz hset
            go_wp2_with fail
            go_roundw
            case rel => exact ⟨j + 1, le ++ [y], ou.set ii le.length, by omega, by go_num, by rw [HSTEP.out, HTS.out], by simp; omega, by rw [List.length_append]; exact ho1, hd1, by rw [List.length_set]; exact hol, hg1⟩
            case measure => simp [intOf]; omega
          · rw [if_neg htv] at HTS
            have htl : 0 ≤ tv ∧ tv < le.length := by omega
            obtain ⟨T, rfl⟩ : ∃ T : Nat, tv = (T : Int) := ⟨tv.toNat, by omega⟩
            rw [Int.toNat_natCast] at HTS
            obtain ⟨gl, cl2, hv, hgl4, hglw⟩ := own_some hown5 (by omega)
            have hAl : Al = some ⟨gl, 0, none⟩ := by injection hv
            subst hAl
            have fl := own_free hown5 T
            have fo := hou5.free ii
            have hTl : (T : Int) < (le.length : Int) := by omega
            have co := hou5.cell ii (by omega)
            have cl1 := own_cell hown5 T (.int .i64 (le[T]'(by omega))) (by rw [List.getElem?_map, List.getElem?_eq_getElem (by omega)]; rfl)
            have hne : g' ≠ gl := by omega
            have ho1 := own_set (g := g') (i := ii) (u := .int .i64 (T : Int)) (own_store (i := T) (x := y) hown5 (by omega)) (by omega)
            have hd1 := (hou5.far (b := gl) (i := T) (u := .int .i64 y) hne).set (i := ii) (x := T)
            have hg1 := grow_set (g := g') (i := ii) (grow_set (g := gl) (i := T) hgr5 (.inl hgl4) (.int .i64 y)) (.inr rfl) (.int .i64 (T : Int))
            clear hou5 hgr5 hown5
            go_wp2_with fail
            go_roundw
            case rel => exact ⟨j + 1, le.set T y, ou.set ii T, by omega, by go_num, by rw [HSTEP.out, HTS.out], by rw [List.length_set]; omega, by rw [List.length_set]; exact ho1, hd1, by rw [List.length_set]; exact hol, hg1⟩
            case measure => simp [intOf]; omega
        · obtain rfl : j = k := by omega
          rw [show ds.take j = ds by rw [← hdl2]; exact List.take_length] at HFO
          have hres : tracksOf xs = (le, ou) := by unfold tracksOf; rw [HNX.out, HDS.out]; exact HFO.out
          obtain ⟨Al, cl, rfl, _, hrl⟩ := own_cap hown
          go_wp2_with fail
          go_ret2
          rw [hres]
          exact ⟨some ⟨g', 0, none⟩, j, rfl, .inr ⟨g', 0, rfl, hdou.lt, fun i hi => by
            rw [List.length_map] at hi
            rw [Nat.zero_add, hdou.cell i hi]
            simp only [List.getD_eq_getElem?_getD, List.getElem?_map, List.getElem?_eq_getElem (show i < ou.length from hi)]; rfl⟩, ew, fun b off h => by injection h with h; injection h with h1 _ _; rw [← h1]; exact hww, Nat.le_refl _⟩

/-- what Tracks returns, of 1 to 19 nets -/
def RetTracks (w0 : World) (xs : List (Int × Int)) (e : Ending) (w' : World) : Prop :=
  ∃ (Ao : Option Addr) (co : Nat), e = .returned (.tuple #[.slice Ao xs.length co, .int .i64 ((tracksOf xs).1.length : Int), .int .i64 0]) ∧
    Row w' w'.heap.size Ao ((tracksOf xs).2.map fun x => Value.int .i64 ((x : Nat) : Int)) ∧ Below w0.heap.size w0 w' ∧ (xs = [] ∨ ∀ b off, Ao = some ⟨b, off, none⟩ → w0.heap.size ≤ b) ∧ xs.length ≤ co
theorem Tracks_bad (A A2 : Option Addr) (c c2 B : Nat) (l : List NetAt) (order : List Int) (n : Int) (w : World) (h : NetsIn w B A l) (h2 : Row w B A2 (order.map (Value.int .i64))) (hi : ∀ c ∈ order, I64 c) (hB : B ≤ w.heap.size) (hl : l.length ≤ 140737488355328) (hl2 : order.length ≤ 1000000)
    (E : Int) (hE : Bus.bothErr (l.map NetAt.net) n order = E) (h0 : E ≠ 0) :
    Calls Tryz.prog 13 #[.slice A l.length c, .int .i64 n, .slice A2 order.length c2] w fun e w' => e = .returned (.tuple #[.slice none 0 0, .int .i64 0, .int .i64 E]) ∧ Below w.heap.size w w' := by
  have HC := Lib.hid (checked_any A A2 c c2 B l order n w h h2 hi hB hl hl2)
  rw [hE] at HC
  have hne : (E != 0) = true := by rw [bne_iff_ne]; exact h0
  clear h h2 hi hE
  go_enter Tryz.func13, Tryz.ntmps13
  go_wp2_with fail
  refine HC.out.mono ?_
  rintro e w1 ⟨rfl, hb1⟩
  go_wp2_with fail
  go_ret3
  exact ⟨rfl, hb1⟩
set_option maxRecDepth 100000 in
theorem Tracks_ok (A A2 : Option Addr) (c c2 B : Nat) (l : List NetAt) (order : List Int) (n : Int) (w : World) (h : NetsIn w B A l) (h2 : Row w B A2 (order.map (Value.int .i64))) (hi : ∀ c ∈ order, I64 c) (hB : B ≤ w.heap.size) (hl : l.length ≤ 140737488355328) (hl2 : order.length ≤ 1000000)
    (hE : Bus.bothErr (l.map NetAt.net) n order = 0) (hl0 : 0 < l.length) (hl20 : l.length < 20) :
    Calls Tryz.prog 13 #[.slice A l.length c, .int .i64 n, .slice A2 order.length c2] w (RetTracks w (Bus.exts (Bus.atUp order order.length) (l.map NetAt.net))) := by
  have HC := Lib.hid (checked_any A A2 c c2 B l order n w h h2 hi hB hl hl2)
  rw [hE] at HC
  obtain ⟨z1, z2⟩ := both_zero hE
  have HST := Lib.hid (fun w' (hb : Below w.heap.size w w') => stand_any A A2 c c2 B l order n w' (h.below hb hB) (h2.below hb hB) (by have := hb.size; omega) z2 z1)
  obtain ⟨F, hF⟩ : ∃ F, Bus.atUp order order.length = F := ⟨_, rfl⟩
  rw [hF] at HST ⊢
  have hlen := exts_len F l
  obtain ⟨xs, hxs⟩ : ∃ xs, Bus.exts F (l.map NetAt.net) = xs := ⟨_, rfl⟩
  rw [hxs] at hlen ⊢
  have HXS := Lib.hid hxs
  clear h h2 hi hE hF z1 z2 hxs
  go_enter Tryz.func13, Tryz.ntmps13
  go_wp2_with fail
  refine HC.out.mono ?_
  rintro e w1 ⟨rfl, hb1⟩
  go_wp2_with fail
  refine (HST.out _ hb1).mono ?_
  rintro e w2 ⟨g, v, rfl, hg, hrow, hown, hb2⟩
  rw [HXS.out] at hown
  obtain ⟨Av, cv, rfl, _, hr⟩ := own_cap hown
  rw [← hlen] at hrow
  have e2 := below_after hb1 hb2 (Nat.le_refl _)
  have HT := Lib.hid (tracks_any g F Av A cv c w2.heap.size xs w2 hrow hr (Nat.le_refl _) (by omega) (by omega))
  clear hrow hown hr
  go_wp2_with fail
  refine HT.out.mono ?_
  rintro e w3 ⟨Ao, co, rfl, hro, hb3, hfr, hco⟩
  have e3 := below_after e2 hb3 (Nat.le_refl _)
  go_wp2_with fail
  go_ret3
  exact ⟨Ao, co, by rw [hlen]; rfl, hro, e3, .inr fun b off h => Nat.le_trans e2.size (hfr b off h), hco⟩
end Go.Proofs.YtkjjnnbbicoljaaGreatDoor
