/- More plain facts on extents. -/
import Derived.Test.YtkjjnnbbicoljaaGreatDoorBusMem
import Derived.Test.YtkjjnnbbicoljaaGreatDoorBusNets
import Derived.Maps.AppendAt
namespace Go.Proofs.YtkjjnnbbicoljaaGreatDoor
open Go.RowKit

/-- the cells of extents -/
def xcells (l : List (Int × Int)) : List Value := l.flatMap fun p => [.int .i64 p.1, .int .i64 p.2]
theorem xcells_len (l : List (Int × Int)) : (xcells l).length = l.length * 2 := by
  induction l with
  | nil => rfl
  | cons p r ih => simp [xcells] at ih ⊢; omega
/-- low and high, behind some columns -/
def lowOf (F : Nat → Int) (cols : List Int) : Int := cols.foldl (fun l c => min l (F c.toNat)) 97
def highOf (F : Nat → Int) (cols : List Int) : Int := cols.foldl (fun h c => max h (F c.toNat)) (-1)
theorem lowOf_snoc (F : Nat → Int) (cols : List Int) (c : Int) : lowOf F (cols ++ [c]) = min (lowOf F cols) (F c.toNat) := by simp [lowOf]
theorem highOf_snoc (F : Nat → Int) (cols : List Int) (c : Int) : highOf F (cols ++ [c]) = max (highOf F cols) (F c.toNat) := by simp [highOf]
theorem exts_snoc (F : Nat → Int) (l : List NetAt) (k : Nat) (x : NetAt) (h : l[k]? = some x) :
    xcells (Bus.exts F ((l.take (k + 1)).map NetAt.net)) = xcells (Bus.exts F ((l.take k).map NetAt.net)) ++ [.int .i64 (lowOf F x.cols), .int .i64 (highOf F x.cols)] := by
  rw [List.take_add_one, h]
  simp [Bus.exts, xcells, Bus.ext, NetAt.net, lowOf, highOf]
theorem own_below {w w' : World} {base size n : Nat} {e : TypeId} {v : Value} {vs : List Value} (h : w.ownsRow base e size v n vs) (hb : Below w.heap.size w w') : w'.ownsRow base e size v n vs := by
  refine ⟨h.1, ?_⟩
  rcases h.2 with h2 | ⟨g, cap, cur, h1, h2, h3, h4⟩
  · exact .inl h2
  · exact .inr ⟨g, cap, cur, h1, h2, (hb.block g (Array.getElem?_eq_some_iff.1 h3).1).trans h3, h4⟩
theorem own_cap {w : World} {base size n : Nat} {e : TypeId} {v : Value} {vs : List Value} (h : w.ownsRow base e size v n vs) : ∃ A c, v = .slice A n c ∧ n ≤ c ∧ Row w w.heap.size A vs := by
  obtain ⟨A, c, rfl, _, hr⟩ := Row.of_own h
  refine ⟨A, c, rfl, ?_, hr⟩
  rcases h.2 with ⟨h1, h2⟩ | ⟨g, cap, cur, h1, _, _, h4, _⟩
  · omega
  · injection h1 with _ _ h1; omega
theorem own_set {w : World} {base size n g i : Nat} {e : TypeId} {v u : Value} {vs : List Value} (h : w.ownsRow base e size v n vs) (hg : g < base) : (w.setCell ⟨g, i, none⟩ u).ownsRow base e size v n vs := by
  refine ⟨h.1, ?_⟩
  rcases h.2 with h2 | ⟨b, cap, cur, h1, h2, h3, h4⟩
  · exact .inl h2
  · exact .inr ⟨b, cap, cur, h1, h2, (Below.heap_setCell w ⟨g, i, none⟩ u b (by show b ≠ g; omega)).trans h3, h4⟩
end Go.Proofs.YtkjjnnbbicoljaaGreatDoor

/- Package bus: nets that stand in an order of columns: where each column stands, and the extents of the nets. -/
namespace Go.Proofs.YtkjjnnbbicoljaaGreatDoor
open Go.RowKit

theorem checked_any (A A2 : Option Addr) (c c2 B : Nat) (l : List NetAt) (order : List Int) (n : Int) (w : World) (h : NetsIn w B A l) (h2 : Row w B A2 (order.map (Value.int .i64))) (hi : ∀ c ∈ order, I64 c) (hB : B ≤ w.heap.size) (hl : l.length ≤ 140737488355328) (hl2 : order.length ≤ 1000000) :
    Calls Tryz.prog 48 #[.slice A l.length c, .int .i64 n, .slice A2 order.length c2] w fun e w' => e = .returned (.int .i64 (Bus.bothErr (l.map NetAt.net) n order)) ∧ Below w.heap.size w w' := by
  have HN := Lib.hid (CheckNets_any A c B l n w h hB hl)
  have HO := Lib.hid (fun w' (hb : Below w.heap.size w w') => checkOrder_any A2 c2 B order n w' hl2 (h2.below hb hB) hi (by have := hb.size; omega))
  obtain ⟨e1, he1⟩ : ∃ e, Bus.netsErr (l.map NetAt.net) n = e := ⟨_, rfl⟩
  obtain ⟨e2, he2⟩ : ∃ e, Bus.orderErr order n = e := ⟨_, rfl⟩
  have e : Bus.bothErr (l.map NetAt.net) n order = if e1 ≠ 0 then e1 else e2 := by unfold Bus.bothErr; rw [he1, he2]
  rw [he1] at HN
  rw [he2] at HO
  rw [e]
  clear e he1 he2 h h2 hi
  by_cases h0 : e1 = 0
  · subst h0
    rw [if_neg (by decide)]
    go_enter Tryz.func48, Tryz.ntmps48
    go_wp2_with fail
    refine HN.out.mono ?_
    rintro e w1 ⟨rfl, hb1⟩
    go_wp2_with fail
    refine (HO.out _ hb1).mono ?_
    rintro e w2 ⟨rfl, hb2⟩
    go_wp2_with fail
    go_ret
    exact ⟨rfl, below_after hb1 hb2 (Nat.le_refl _)⟩
  · rw [if_pos h0]
    have hne : (e1 != 0) = true := by rw [bne_iff_ne]; exact h0
    go_enter Tryz.func48, Tryz.ntmps48
    go_wp2_with fail
    refine HN.out.mono ?_
    rintro e w1 ⟨rfl, hb1⟩
    go_wp2_with fail
    go_ret
    exact ⟨rfl, hb1⟩

/-- block g is a row: its nets, where each column stands, its extents -/
structure RowAt (w : World) (g : Nat) (v : Value) (f : Nat → Int) (e : Value) : Prop where
  nets : w.cell? ⟨g, 0, none⟩ = some v
  pos : ∀ i, i < 97 → w.cell? ⟨g, 1 + i, none⟩ = some (.int .i64 (f i))
  ext : w.cell? ⟨g, 98, none⟩ = some e
  free : ∀ i, w.frozen? ⟨g, i, none⟩ = false
theorem RowAt.lt {w : World} {g : Nat} {v e : Value} {f : Nat → Int} (h : RowAt w g v f e) : g < w.heap.size := World.block_lt_of_cell? w _ h.nets
theorem RowAt.block {w w' : World} {g : Nat} {v e : Value} {f : Nat → Int} (h : RowAt w g v f e) (hb : w'.heap[g]? = w.heap[g]?) : RowAt w' g v f e :=
  ⟨(World.cell?_of_block hb).trans h.nets, fun i hi => (World.cell?_of_block (a := ⟨g, 1 + i, none⟩) hb).trans (h.pos i hi), (World.cell?_of_block hb).trans h.ext, fun i => (World.frozen?_of_block (a := ⟨g, i, none⟩) hb).trans (h.free i)⟩
theorem RowAt.drew {w : World} {g : Nat} {v e : Value} {f : Nat → Int} (h : RowAt w g v f e) : RowAt w.drew g v f e := h.block rfl
theorem RowAt.below {w w' : World} {g : Nat} {v e : Value} {f : Nat → Int} (h : RowAt w g v f e) (hb : Below w.heap.size w w') : RowAt w' g v f e := h.block (hb.block g h.lt)
theorem RowAt.alloc {w : World} {g : Nat} {v e : Value} {f : Nat → Int} (h : RowAt w g v f e) (o : Obj) : RowAt (w.alloc o) g v f e := h.block (Below.heap_alloc w o g h.lt)
theorem RowAt.put {w : World} {g X : Nat} {v e : Value} {f : Nat → Int} {k : Int} (h : RowAt w g v f e) (hX : X < 97) : RowAt (w.setCell ⟨g, 1 + X, none⟩ (.int .i64 k)) g v (fun i => if i = X then k else f i) e := by
  refine ⟨?_, fun i hi => ?_, ?_, fun i => by rw [World.frozen?_setCell]; exact h.free i⟩
  · rw [World.cell?_setCell_other _ _ _ _ (fun e => by injection e; omega)]; exact h.nets
  · by_cases hiX : i = X
    · subst hiX
      rw [if_pos rfl]
      exact World.cell?_setCell_same' _ _ _ (by rw [h.pos i hi]; rfl)
    · rw [if_neg hiX, World.cell?_setCell_other _ _ _ _ (fun e => by injection e; omega)]; exact h.pos i hi
  · rw [World.cell?_setCell_other _ _ _ _ (fun e => by injection e; omega)]; exact h.ext
theorem RowAt.setExt {w : World} {g : Nat} {v e e' : Value} {f : Nat → Int} (h : RowAt w g v f e) : RowAt (w.setCell ⟨g, 98, none⟩ e') g v f e' := by
  refine ⟨?_, fun i hi => ?_, ?_, fun i => by rw [World.frozen?_setCell]; exact h.free i⟩
  · rw [World.cell?_setCell_other _ _ _ _ (fun e => by injection e; omega)]; exact h.nets
  · rw [World.cell?_setCell_other _ _ _ _ (fun e => by injection e; omega)]; exact h.pos i hi
  · exact World.cell?_setCell_same' _ _ _ (by rw [h.ext]; rfl)

theorem zero_row : Tryz.zeroCells92.toList = Value.slice none 0 0 :: (List.replicate 97 (.int .i64 0) ++ [.slice none 0 0]) := by kernel_rfl
theorem RowAt.new (w : World) (v : Value) : RowAt (w.alloc (.cells (Tryz.zeroCells92.setIfInBounds 0 v) 92)) w.heap.size v (fun _ => 0) (.slice none 0 0) := by
  have hb := Blk.new w 92 (Tryz.zeroCells92.setIfInBounds 0 v)
  have hz : (Tryz.zeroCells92.setIfInBounds 0 v).toList = v :: (List.replicate 97 (.int .i64 0) ++ [.slice none 0 0]) := by
    rw [Array.toList_setIfInBounds, zero_row]; rfl
  have hc : ∀ i, (Tryz.zeroCells92.setIfInBounds 0 v)[i]? = (v :: (List.replicate 97 (.int .i64 0) ++ [.slice none 0 0]))[i]? := fun i => by rw [← hz, Array.getElem?_toList]
  refine ⟨?_, fun i hi => ?_, ?_, fun i => hb.frozen i⟩
  · rw [hb.cell 0, hc]; rfl
  · rw [hb.cell (1 + i), hc, Nat.add_comm, List.getElem?_cons_succ, List.getElem?_append_left (by simp; omega), List.getElem?_replicate, if_pos hi]
  · rw [hb.cell 98, hc]; rfl

theorem Tryz.info45 : (Tryz.prog.info? 45).map (fun i => (i.zero, i.size, i.bytes)) = some (some (.agg #[.int .i64 0, .int .i64 0]), 2, 16) := by kernel_rfl

/-- what 'stand' returns -/
def Stood (w0 : World) (A : Option Addr) (c : Nat) (l : List NetAt) (F : Nat → Int) (e : Ending) (w' : World) : Prop :=
  ∃ (g : Nat) (v : Value), e = .returned (.pointer (some ⟨g, 0, none⟩)) ∧ w0.heap.size ≤ g ∧ RowAt w' g (.slice A l.length c) F v ∧
    w'.ownsRow (g + 1) 45 2 v l.length (xcells (Bus.exts F (l.map NetAt.net))) ∧ Below w0.heap.size w0 w'

set_option maxHeartbeats 4000000 in
set_option maxRecDepth 100000 in
theorem stand_any (A A2 : Option Addr) (c c2 B : Nat) (l : List NetAt) (order : List Int) (n : Int) (w : World) (h : NetsIn w B A l) (h2 : Row w B A2 (order.map (Value.int .i64))) (hB : B ≤ w.heap.size)
    (ho : Bus.orderErr order n = 0) (hnets : Bus.netsErr (l.map NetAt.net) n = 0) :
    Calls Tryz.prog 49 #[.slice A l.length c, .slice A2 order.length c2] w (Stood w A c l (Bus.atUp order order.length)) := by
  obtain ⟨F, hF⟩ : ∃ F, Bus.atUp order order.length = F := ⟨_, rfl⟩
  rw [hF]
  have HF := Lib.hid hF
  clear hF
  obtain ⟨V, hV⟩ : ∃ V, Value.slice A l.length c = V := ⟨_, rfl⟩
  have HV := Lib.hid hV
  have hst : Stood w A c l F = fun e w' => ∃ (g : Nat) (v : Value), e = .returned (.pointer (some ⟨g, 0, none⟩)) ∧ w.heap.size ≤ g ∧ RowAt w' g V F v ∧
    w'.ownsRow (g + 1) 45 2 v l.length (xcells (Bus.exts F (l.map NetAt.net))) ∧ Below w.heap.size w w' := by rw [← hV]; rfl
  rw [hst]
  clear hst hV
  obtain ⟨n1, n97, l64, hcols⟩ := Bus.netsErr_zero hnets
  obtain ⟨on, _, oin⟩ := Bus.orderErr_zero ho
  rw [List.length_map] at l64
  have H := Lib.hid h
  have H2 := Lib.hid h2
  have HO := Lib.hid oin
  have HC := Lib.hid hcols
  clear h h2 oin hcols ho hnets
  have ho97 : order.length ≤ 97 := by omega
  clear on
  go_enter Tryz.func49, Tryz.ntmps49
  go_wp2_with fail
  generalize hZ : Value.agg (Array.setIfInBounds Tryz.zeroCells92 0 _) = Z
  generalize hW0 : World.alloc w _ = W0
  obtain ⟨G, hG⟩ : ∃ G, w.heap.size = G := ⟨_, rfl⟩
  have hr0 : RowAt W0 G V (Bus.atUp order 0) (.slice none 0 0) := by rw [← hW0, ← hG, ← HV.out]; exact RowAt.new w _
  have e0 : Below w.heap.size w W0 := by rw [← hW0]; exact (Below.refl _ w).alloc (Nat.le_refl _) _
  try rw [hG]
  clear hW0 hZ
  go_loopw [19] (fun i wr => ∃ k : Nat, k ≤ order.length ∧ i = .int .i64 k ∧ RowAt wr G V (Bus.atUp order k) (.slice none 0 0) ∧ Below w.heap.size w wr) (fun i _ => order.length - (intOf i).toNat)
  case atStart => exact ⟨0, Nat.zero_le _, rfl, hr0, e0⟩
  case round =>
    obtain ⟨k, hk, rfl, hrow, eb⟩ := hrel
    have hsz := eb.size
    by_cases hlt : k < order.length
    · obtain ⟨b, off, x, rfl, hbB, hx, hc⟩ := H2.out.int k hlt
      have hck := (eb.cell (p := ⟨b, off + k, none⟩) (by show b < _; omega)).trans hc
      obtain ⟨hx0, hx1⟩ := HO.out x (List.mem_of_getElem? hx)
      obtain ⟨X, rfl⟩ : ∃ X : Nat, x = (X : Int) := ⟨x.toNat, by omega⟩
      have hX : X < 97 := by omega
      have hX2 : (X : Int) < 97 := by omega
      have HS := Lib.hid (Bus.atUp_step order k X hx)
      have m0 := hrow.free (1 + X)
      have m1 := hrow.pos X hX
      clear hx hc
      go_wp2_with fail
      go_roundw
      case rel => exact ⟨k + 1, by omega, by go_num, by rw [HS.out]; exact hrow.put hX, eb.setCell (by show w.heap.size ≤ G; omega) _⟩
      case measure => simp [intOf]; omega
    · obtain rfl : k = order.length := by omega
      rw [HF.out] at hrow
      clear hlt hk hr0 e0 HO H2
      go_wp2_with fail
      go_loopw [33] (fun i wr => ∃ (k : Nat) (ev : Value), k ≤ l.length ∧ i = .int .i64 k ∧ RowAt wr G V F ev ∧ wr.ownsRow (G + 1) 45 2 ev k (xcells (Bus.exts F ((l.take k).map NetAt.net))) ∧ Below w.heap.size w wr) (fun i _ => l.length - (intOf i).toNat)
      case atStart => exact ⟨0, .slice none 0 0, Nat.zero_le _, rfl, hrow, World.ownsRow_nil _ _ _ _, eb⟩
      case round =>
        obtain ⟨k, ev, hk, rfl, hrow, hown, eb⟩ := hrel
        have hsz := eb.size
        by_cases hlt : k < l.length
        · obtain ⟨b, off, x, rfl, hbB, hx, hc1, hc2, hrw, hfew, hix, hics⟩ := H.out.net k hlt
          have hk1 := (eb.cell (p := ⟨b, off + k * 2, none⟩) (by show b < _; omega)).trans hc1
          have hk2 := (eb.cell (p := ⟨b, off + k * 2 + 1, none⟩) (by show b < _; omega)).trans hc2
          have HX := Lib.hid (exts_snoc F l k x hx)
          have hin := HC.out x.net (List.mem_map_of_mem (List.mem_of_getElem? hx))
          have HIN := Lib.hid (show ∀ c ∈ x.cols, 0 ≤ c ∧ c < n from hin.2)
          have HRW := Lib.hid hrw
          clear hin hx hc1 hc2 hrw
          go_wp2_with fail
          generalize hW1 : World.alloc wr _ = W1
          have hrow1 : RowAt W1 G V F ev := by rw [← hW1]; exact hrow.alloc _
          have hown1 : W1.ownsRow (G + 1) 45 2 ev k (xcells (Bus.exts F ((l.take k).map NetAt.net))) := by rw [← hW1]; exact hown.alloc _
          have eb1 : Below w.heap.size w W1 := by rw [← hW1]; exact eb.alloc hsz _
          have hsz1 := eb1.size
          have hrw1 := Lib.hid (HRW.out.below eb1 hB)
          clear hW1 hrow hown eb hk1 hk2
          generalize x.cols = cs at *
          generalize x.loc = loc at *
          generalize x.cap = cap at *
          go_loopw [10, 11, 40] (fun lo hi i wz => ∃ j : Nat, j ≤ cs.length ∧ i = .int .i64 j ∧ lo = .int .i64 (lowOf F (cs.take j)) ∧ hi = .int .i64 (highOf F (cs.take j)) ∧ Below W1.heap.size W1 wz) (fun _ _ i _ => cs.length - (intOf i).toNat)
          case atStart => exact ⟨0, Nat.zero_le _, rfl, rfl, rfl, Below.refl _ _⟩
          case round =>
            obtain ⟨j, hj, rfl, rfl, rfl, ez⟩ := hrel
            have hszz := ez.size
            have hrowz := hrow1.below ez
            by_cases hlj : j < cs.length
            · obtain ⟨b2, off2, y, rfl, hbB2, hy, hcy⟩ := hrw1.out.int j hlj
              have hcy2 := (ez.cell (p := ⟨b2, off2 + j, none⟩) (by show b2 < _; omega)).trans hcy
              obtain ⟨hy0, hy1⟩ := HIN.out y (List.mem_of_getElem? hy)
              obtain ⟨Y, rfl⟩ : ∃ Y : Nat, y = (Y : Int) := ⟨y.toNat, by omega⟩
              have hY : Y < 97 := by omega
              have hY2 : (Y : Int) < 97 := by omega
              have m1 := hrowz.pos Y hY
              have HTJ := Lib.hid (show lowOf F (cs.take (j + 1)) = min (lowOf F (cs.take j)) (F Y) ∧ highOf F (cs.take (j + 1)) = max (highOf F (cs.take j)) (F Y) by
                rw [List.take_add_one, hy]; exact ⟨lowOf_snoc _ _ _, highOf_snoc _ _ _⟩)
              generalize lowOf F (cs.take j) = lo at *
              generalize highOf F (cs.take j) = hi at *
              generalize F Y = fy at *
              clear hy hcy
              go_wp2_with fail
              go_quiet (fail)
              go_wp2_with fail
              go_roundw
              case rel => exact ⟨j + 1, by omega, by go_num, by rw [HTJ.out.1]; congr 1; split <;> omega, by rw [HTJ.out.2]; congr 1; split <;> omega, (by repeat (first | with_reducible exact Below.refl _ _ | with_reducible assumption | with_reducible refine Below.setCell ?_ (by first | omega | (simp; done) | (simp; omega)) _ | with_reducible refine below_drewN ?_ _ | with_reducible refine Below.drew ?_ | with_reducible refine Below.alloc ?_ (by first | omega | (simp; done) | (simp; omega)) _ | with_reducible refine below_after ?_ (by assumption) (by first | omega | (simp; done) | (simp; omega))))⟩
              case measure => simp [intOf]; omega
            · obtain rfl : j = cs.length := by omega
              rw [List.take_length]
              have hownz := own_below hown1 ez
              have ebz := below_after eb1 ez (Nat.le_refl _)
              have hszw := ebz.size
              have x98 := hrowz.ext
              generalize lowOf F cs = lo at *
              generalize highOf F cs = hi at *
              obtain ⟨iA, hiA, az0, az1, az2⟩ := info_parts Tryz.info45
              clear hown1 eb1 hrow1 hrw1
              go_wp2_with (at_builtin; refine wpList_append_own_at _ rfl (.tmp 65) (.tmp 69) 42 rfl (G + 1) 45 iA (.agg #[.int .i64 0, .int .i64 0]) 2 16 Tryz.underlying42 hiA az0 az1 az2 rfl (by decide) _ _ _ rfl (hownz.alloc _) ⟨_, 0, none⟩ 1 1 [.int .i64 lo, .int .i64 hi] rfl rfl (cell_two_new _ _ _ _) ?hone ?c3 ?c4 ?c5 ?_)
              case hone => intro u hu; simp at hu; rcases hu with rfl | rfl <;> rfl
              case c3 => unfold maxLen; omega
              case c4 => omega
              case c5 => simp; have := hrowz.lt; omega
              intro v' w3 hown3 hgrow3 _ hat
              have hrow3 : RowAt w3 G V F ev := (hrowz.alloc _).block (hgrow3.block G (by have := hrowz.lt; simp; omega) (fun e => by have := (hownz.lt G e.symm).1; omega))
              have hGw : w.heap.size ≤ G := by omega
              have eb3 : Below w.heap.size w w3 := (ebz.alloc hszw _).grown hgrow3 (by simp; omega) (fun j hj => by have := (hownz.lt j hj).1; omega)
              have f98 := hrow3.free 98
              have y98 := hrow3.ext
              clear hgrow3 hownz hrowz ebz ez hat
              obtain ⟨Av, cv, rfl, _, _⟩ := own_cap hown3
              go_wp2_with fail
              go_roundw
              case rel => exact ⟨k + 1, _, by omega, by go_num, hrow3.setExt, by rw [HX.out, List.map_take]; exact own_set hown3 (by omega), eb3.setCell (by show w.heap.size ≤ G; omega) _⟩
              case measure => simp [intOf]; omega
        · obtain rfl : k = l.length := by omega
          rw [List.take_length] at hown
          have hGw : w.heap.size ≤ G := by omega
          go_wp2_with fail
          go_ret
          exact ⟨G, ev, rfl, hGw, hrow, hown, eb⟩
end Go.Proofs.YtkjjnnbbicoljaaGreatDoor
