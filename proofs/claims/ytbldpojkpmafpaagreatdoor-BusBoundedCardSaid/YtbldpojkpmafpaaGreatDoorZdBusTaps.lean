/- Package bus: nets that stand in an order of columns: where each column stands, and the extents of the nets. -/
import Derived.Test.YtbldpojkpmafpaaGreatDoorZdBusLaw2
import Derived.Maps.AppendAt
import Derived.BigRegion
namespace Go.Proofs.YtbldpojkpmafpaaGreatDoor
open Go.RowKit

theorem checked_any (A A2 : Option Addr) (c c2 B : Nat) (l : List NetAt) (order : List Int) (n : Int) (w : World) (h : NetsIn w B A l) (h2 : Row w B A2 (order.map (Value.int .i64))) (hi : ∀ c ∈ order, I64 c) (hB : B ≤ w.heap.size) (hl : l.length ≤ 140737488355328) (hl2 : order.length ≤ 1000000) :
    Calls Tryz.prog 59 #[.slice A l.length c, .int .i64 n, .slice A2 order.length c2] w fun e w' => e = .returned (.int .i64 (Bus.bothErr (l.map NetAt.net) n order)) ∧ Below w.heap.size w w' := by
  have HN := Lib.hid (CheckNets_any A c B l n w h hB hl)
  have HO := Lib.hid (fun w' (hb : Below w.heap.size w w') => checkOrder_any A2 c2 B order n w' hl2 (h2.below hb hB) hi (by have := hb.size; omega))
  obtain ⟨e1, he1⟩ : ∃ e, Bus.netsErr (l.map NetAt.net) n = e := ⟨_, rfl⟩
  obtain ⟨e2, he2⟩ : ∃ e, Bus.orderErr order n = e := ⟨_, rfl⟩
  have e : Bus.bothErr (l.map NetAt.net) n order = if e1 ≠ 0 then e1 else e2 := by unfold Bus.bothErr; rw [he1, he2]
  rw [he1] at HN
  rw [he2] at HO
  rw [e]
  clear e he1 he2 h h2 hi
  by_cases h0 : e1 = 0
  · subst h0
    rw [if_neg (by decide)]
    go_enter Tryz.func59, Tryz.ntmps59
    go_wp2_with fail
    refine HN.out.mono ?_
    rintro e w1 ⟨rfl, hb1⟩
    go_wp2_with fail
    refine (HO.out _ hb1).mono ?_
    rintro e w2 ⟨rfl, hb2⟩
    go_wp2_with fail
    go_ret
    exact ⟨rfl, below_after hb1 hb2 (Nat.le_refl _)⟩
  · rw [if_pos h0]
    have hne : (e1 != 0) = true := by rw [bne_iff_ne]; exact h0
    go_enter Tryz.func59, Tryz.ntmps59
    go_wp2_with fail
    refine HN.out.mono ?_
    rintro e w1 ⟨rfl, hb1⟩
    go_wp2_with fail
    go_ret
    exact ⟨rfl, hb1⟩

structure RowAt (w : World) (g : Nat) (v : Value) (f : Nat → Int) (e : Value) : Prop where
  nets : w.cell? ⟨g, 0, none⟩ = some v
  pos : ∀ i, i < 97 → w.cell? ⟨g, 1 + i, none⟩ = some (.int .i64 (f i))
  ext : w.cell? ⟨g, 98, none⟩ = some e
  free : ∀ i, w.frozen? ⟨g, i, none⟩ = false
  blk : ∃ cs k, Blk w g 138 cs ∧ cs.size = k * 99
theorem RowAt.lt {w : World} {g : Nat} {v e : Value} {f : Nat → Int} (h : RowAt w g v f e) : g < w.heap.size := World.block_lt_of_cell? w _ h.nets
theorem RowAt.block {w w' : World} {g : Nat} {v e : Value} {f : Nat → Int} (h : RowAt w g v f e) (hb : w'.heap[g]? = w.heap[g]?) : RowAt w' g v f e :=
  ⟨(World.cell?_of_block hb).trans h.nets, fun i hi => (World.cell?_of_block (a := ⟨g, 1 + i, none⟩) hb).trans (h.pos i hi), (World.cell?_of_block hb).trans h.ext, fun i => (World.frozen?_of_block (a := ⟨g, i, none⟩) hb).trans (h.free i), let ⟨cs, k, h1, h2⟩ := h.blk; ⟨cs, k, hb.trans h1, h2⟩⟩
theorem RowAt.drew {w : World} {g : Nat} {v e : Value} {f : Nat → Int} (h : RowAt w g v f e) : RowAt w.drew g v f e := h.block rfl
theorem RowAt.below {w w' : World} {g : Nat} {v e : Value} {f : Nat → Int} (h : RowAt w g v f e) (hb : Below w.heap.size w w') : RowAt w' g v f e := h.block (hb.block g h.lt)
theorem RowAt.alloc {w : World} {g : Nat} {v e : Value} {f : Nat → Int} (h : RowAt w g v f e) (o : Obj) : RowAt (w.alloc o) g v f e := h.block (Below.heap_alloc w o g h.lt)
theorem RowAt.put {w : World} {g X : Nat} {v e : Value} {f : Nat → Int} {k : Int} (h : RowAt w g v f e) (hX : X < 97) : RowAt (w.setCell ⟨g, 1 + X, none⟩ (.int .i64 k)) g v (fun i => if i = X then k else f i) e := by
  refine ⟨?_, fun i hi => ?_, ?_, fun i => by rw [World.frozen?_setCell]; exact h.free i, let ⟨cs, q, h1, h2⟩ := h.blk; ⟨_, q, h1.set (1 + X) _, by rw [Array.size_setIfInBounds]; exact h2⟩⟩
  · rw [World.cell?_setCell_other _ _ _ _ (fun e => by injection e; omega)]; exact h.nets
  · by_cases hiX : i = X
    · subst hiX
      rw [if_pos rfl]
      exact World.cell?_setCell_same' _ _ _ (by rw [h.pos i hi]; rfl)
    · rw [if_neg hiX, World.cell?_setCell_other _ _ _ _ (fun e => by injection e; omega)]; exact h.pos i hi
  · rw [World.cell?_setCell_other _ _ _ _ (fun e => by injection e; omega)]; exact h.ext
theorem RowAt.setExt {w : World} {g : Nat} {v e e' : Value} {f : Nat → Int} (h : RowAt w g v f e) : RowAt (w.setCell ⟨g, 98, none⟩ e') g v f e' := by
  refine ⟨?_, fun i hi => ?_, ?_, fun i => by rw [World.frozen?_setCell]; exact h.free i, let ⟨cs, q, h1, h2⟩ := h.blk; ⟨_, q, h1.set 98 _, by rw [Array.size_setIfInBounds]; exact h2⟩⟩
  · rw [World.cell?_setCell_other _ _ _ _ (fun e => by injection e; omega)]; exact h.nets
  · rw [World.cell?_setCell_other _ _ _ _ (fun e => by injection e; omega)]; exact h.pos i hi
  · exact World.cell?_setCell_same' _ _ _ (by rw [h.ext]; rfl)

theorem zero_row : Tryz.zeroCells138.toList = Value.slice none 0 0 :: (List.replicate 97 (.int .i64 0) ++ [.slice none 0 0]) := by kernel_rfl
theorem RowAt.new (w : World) (v : Value) : RowAt (w.alloc (.cells (Tryz.zeroCells138.setIfInBounds 0 v) 138)) w.heap.size v (fun _ => 0) (.slice none 0 0) := by
  have hb := Blk.new w 138 (Tryz.zeroCells138.setIfInBounds 0 v)
  have hz : (Tryz.zeroCells138.setIfInBounds 0 v).toList = v :: (List.replicate 97 (.int .i64 0) ++ [.slice none 0 0]) := by
    rw [Array.toList_setIfInBounds, zero_row]; rfl
  have hc : ∀ i, (Tryz.zeroCells138.setIfInBounds 0 v)[i]? = (v :: (List.replicate 97 (.int .i64 0) ++ [.slice none 0 0]))[i]? := fun i => by rw [← hz, Array.getElem?_toList]
  have hsz : (Tryz.zeroCells138.setIfInBounds 0 v).size = 99 := by
    have := congrArg List.length hz
    rw [Array.length_toList] at this
    rw [this]; simp
  refine ⟨?_, fun i hi => ?_, ?_, fun i => hb.frozen i, _, 1, hb, hsz⟩
  · rw [hb.cell 0, hc]; rfl
  · rw [hb.cell (1 + i), hc, Nat.add_comm, List.getElem?_cons_succ, List.getElem?_append_left (by simp; omega), List.getElem?_replicate, if_pos hi]
  · rw [hb.cell 98, hc]; rfl

theorem Tryz.info139 : (Tryz.prog.info? 139).map (fun i => (i.zero, i.size, i.bytes)) = some (some (.agg #[.int .i64 0, .int .i64 0]), 2, 16) := by kernel_rfl

def Stood (w0 : World) (A : Option Addr) (c : Nat) (l : List NetAt) (F : Nat → Int) (e : Ending) (w' : World) : Prop :=
  ∃ (g : Nat) (v : Value), e = .returned (.pointer (some ⟨g, 0, none⟩)) ∧ w0.heap.size ≤ g ∧ RowAt w' g (.slice A l.length c) F v ∧
    w'.ownsRow (g + 1) 139 2 v l.length (xcells (Bus.exts F (l.map NetAt.net))) ∧ Below w0.heap.size w0 w'

set_option maxHeartbeats 4000000 in
set_option maxRecDepth 100000 in
theorem stand_any (A A2 : Option Addr) (c c2 B : Nat) (l : List NetAt) (order : List Int) (n : Int) (w : World) (h : NetsIn w B A l) (h2 : Row w B A2 (order.map (Value.int .i64))) (hB : B ≤ w.heap.size)
    (ho : Bus.orderErr order n = 0) (hnets : Bus.netsErr (l.map NetAt.net) n = 0) :
    Calls Tryz.prog 42 #[.slice A l.length c, .slice A2 order.length c2] w (Stood w A c l (Bus.atUp order order.length)) := by
  obtain ⟨F, hF⟩ : ∃ F, Bus.atUp order order.length = F := ⟨_, rfl⟩
  rw [hF]
  have HF := Lib.hid hF
  clear hF
  obtain ⟨V, hV⟩ : ∃ V, Value.slice A l.length c = V := ⟨_, rfl⟩
  have HV := Lib.hid hV
  have hst : Stood w A c l F = fun e w' => ∃ (g : Nat) (v : Value), e = .returned (.pointer (some ⟨g, 0, none⟩)) ∧ w.heap.size ≤ g ∧ RowAt w' g V F v ∧
    w'.ownsRow (g + 1) 139 2 v l.length (xcells (Bus.exts F (l.map NetAt.net))) ∧ Below w.heap.size w w' := by rw [← hV]; rfl
  rw [hst]
  clear hst hV
  obtain ⟨n1, n97, l64, hcols⟩ := Bus.netsErr_zero hnets
  obtain ⟨on, _, oin⟩ := Bus.orderErr_zero ho
  rw [List.length_map] at l64
  have H := Lib.hid h
  have H2 := Lib.hid h2
  have HO := Lib.hid oin
  have HC := Lib.hid hcols
  clear h h2 oin hcols ho hnets
  have ho97 : order.length ≤ 97 := by omega
  clear on
  go_enter Tryz.func42, Tryz.ntmps42
  go_wp2_with fail
  generalize hZ : Value.agg (Array.setIfInBounds Tryz.zeroCells138 0 _) = Z
  generalize hW0 : World.alloc w _ = W0
  obtain ⟨G, hG⟩ : ∃ G, w.heap.size = G := ⟨_, rfl⟩
  have hr0 : RowAt W0 G V (Bus.atUp order 0) (.slice none 0 0) := by rw [← hW0, ← hG, ← HV.out]; exact RowAt.new w _
  have e0 : Below w.heap.size w W0 := by rw [← hW0]; exact (Below.refl _ w).alloc (Nat.le_refl _) _
  try rw [hG]
  clear hW0 hZ
  go_loopw [19] (fun i wr => ∃ k : Nat, k ≤ order.length ∧ i = .int .i64 k ∧ RowAt wr G V (Bus.atUp order k) (.slice none 0 0) ∧ Below w.heap.size w wr) (fun i _ => order.length - (intOf i).toNat)
  case atStart => exact ⟨0, Nat.zero_le _, rfl, hr0, e0⟩
  case round =>
    obtain ⟨k, hk, rfl, hrow, eb⟩ := hrel
    have hsz := eb.size
    by_cases hlt : k < order.length
    · obtain ⟨b, off, x, rfl, hbB, hx, hc⟩ := H2.out.int k hlt
      have hck := (eb.cell (p := ⟨b, off + k, none⟩) (by show b < _; omega)).trans hc
      obtain ⟨hx0, hx1⟩ := HO.out x (List.mem_of_getElem? hx)
      obtain ⟨X, rfl⟩ : ∃ X : Nat, x = (X : Int) := ⟨x.toNat, by omega⟩
      have hX : X < 97 := by omega
      have hX2 : (X : Int) < 97 := by omega
      have HS := Lib.hid (Bus.atUp_step order k X hx)
      have m0 := hrow.free (1 + X)
      have m1 := hrow.pos X hX
      clear hx hc
      go_wp2_with fail
      go_roundw
      case rel => exact ⟨k + 1, by omega, by go_num, by rw [HS.out]; exact hrow.put hX, eb.setCell (by show w.heap.size ≤ G; omega) _⟩
      case measure => simp [intOf]; omega
    · obtain rfl : k = order.length := by omega
      rw [HF.out] at hrow
      clear hlt hk hr0 e0 HO H2
      go_wp2_with fail
      go_loopw [33] (fun i wr => ∃ (k : Nat) (ev : Value), k ≤ l.length ∧ i = .int .i64 k ∧ RowAt wr G V F ev ∧ wr.ownsRow (G + 1) 139 2 ev k (xcells (Bus.exts F ((l.take k).map NetAt.net))) ∧ Below w.heap.size w wr) (fun i _ => l.length - (intOf i).toNat)
      case atStart => exact ⟨0, .slice none 0 0, Nat.zero_le _, rfl, hrow, World.ownsRow_nil _ _ _ _, eb⟩
      case round =>
        obtain ⟨k, ev, hk, rfl, hrow, hown, eb⟩ := hrel
        have hsz := eb.size
        by_cases hlt : k < l.length
        · obtain ⟨b, off, x, rfl, hbB, hx, hc1, hc2, hrw, hfew, hix, hics⟩ := H.out.net k hlt
          have hk1 := (eb.cell (p := ⟨b, off + k * 2, none⟩) (by show b < _; omega)).trans hc1
          have hk2 := (eb.cell (p := ⟨b, off + k * 2 + 1, none⟩) (by show b < _; omega)).trans hc2
          have HX := Lib.hid (exts_snoc F l k x hx)
          have hin := HC.out x.net (List.mem_map_of_mem (List.mem_of_getElem? hx))
          have HIN := Lib.hid (show ∀ c ∈ x.cols, 0 ≤ c ∧ c < n from hin.2)
          have HRW := Lib.hid hrw
          clear hin hx hc1 hc2 hrw
          go_wp2_with fail
          generalize hW1 : World.alloc wr _ = W1
          have hrow1 : RowAt W1 G V F ev := by rw [← hW1]; exact hrow.alloc _
          have hown1 : W1.ownsRow (G + 1) 139 2 ev k (xcells (Bus.exts F ((l.take k).map NetAt.net))) := by rw [← hW1]; exact hown.alloc _
          have eb1 : Below w.heap.size w W1 := by rw [← hW1]; exact eb.alloc hsz _
          have hsz1 := eb1.size
          have hrw1 := Lib.hid (HRW.out.below eb1 hB)
          clear hW1 hrow hown eb hk1 hk2
          generalize x.cols = cs at *
          generalize x.loc = loc at *
          generalize x.cap = cap at *
          go_loopw [10, 11, 40] (fun lo hi i wz => ∃ j : Nat, j ≤ cs.length ∧ i = .int .i64 j ∧ lo = .int .i64 (lowOf F (cs.take j)) ∧ hi = .int .i64 (highOf F (cs.take j)) ∧ Below W1.heap.size W1 wz) (fun _ _ i _ => cs.length - (intOf i).toNat)
          case atStart => exact ⟨0, Nat.zero_le _, rfl, rfl, rfl, Below.refl _ _⟩
          case round =>
            obtain ⟨j, hj, rfl, rfl, rfl, ez⟩ := hrel
            have hszz := ez.size
            have hrowz := hrow1.below ez
            by_cases hlj : j < cs.length
            · obtain ⟨b2, off2, y, rfl, hbB2, hy, hcy⟩ := hrw1.out.int j hlj
              have hcy2 := (ez.cell (p := ⟨b2, off2 + j, none⟩) (by show b2 < _; omega)).trans hcy
              obtain ⟨hy0, hy1⟩ := HIN.out y (List.mem_of_getElem? hy)
              obtain ⟨Y, rfl⟩ : ∃ Y : Nat, y = (Y : Int) := ⟨y.toNat, by omega⟩
              have hY : Y < 97 := by omega
              have hY2 : (Y : Int) < 97 := by omega
              have m1 := hrowz.pos Y hY
              have HTJ := Lib.hid (show lowOf F (cs.take (j + 1)) = min (lowOf F (cs.take j)) (F Y) ∧ highOf F (cs.take (j + 1)) = max (highOf F (cs.take j)) (F Y) by
                rw [List.take_add_one, hy]; exact ⟨lowOf_snoc _ _ _, highOf_snoc _ _ _⟩)
              generalize lowOf F (cs.take j) = lo at *
              generalize highOf F (cs.take j) = hi at *
              generalize F Y = fy at *
              clear hy hcy
              go_wp2_with fail
              go_quiet (fail)
              go_wp2_with fail
              go_roundw
              case rel => exact ⟨j + 1, by omega, by go_num, by rw [HTJ.out.1]; congr 1; split <;> omega, by rw [HTJ.out.2]; congr 1; split <;> omega, (by repeat (first | with_reducible exact Below.refl _ _ | with_reducible assumption | with_reducible refine Below.setCell ?_ (by first | omega | (simp; done) | (simp; omega)) _ | with_reducible refine below_drewN ?_ _ | with_reducible refine Below.drew ?_ | with_reducible refine Below.alloc ?_ (by first | omega | (simp; done) | (simp; omega)) _ | with_reducible refine below_after ?_ (by assumption) (by first | omega | (simp; done) | (simp; omega))))⟩
              case measure => simp [intOf]; omega
            · obtain rfl : j = cs.length := by omega
              rw [List.take_length]
              have hownz := own_below hown1 ez
              have ebz := below_after eb1 ez (Nat.le_refl _)
              have hszw := ebz.size
              have x98 := hrowz.ext
              generalize lowOf F cs = lo at *
              generalize highOf F cs = hi at *
              obtain ⟨iA, hiA, az0, az1, az2⟩ := info_parts Tryz.info139
              clear hown1 eb1 hrow1 hrw1
              go_wp2_with (at_builtin; refine wpList_append_own_at _ rfl (.tmp 65) (.tmp 69) 136 rfl (G + 1) 139 iA (.agg #[.int .i64 0, .int .i64 0]) 2 16 Tryz.underlying136 hiA az0 az1 az2 rfl (by decide) _ _ _ rfl (hownz.alloc _) ⟨_, 0, none⟩ 1 1 [.int .i64 lo, .int .i64 hi] rfl rfl (cell_two_new _ _ _ _) ?hone ?c3 ?c4 ?c5 ?_)
              case hone => intro u hu; simp at hu; rcases hu with rfl | rfl <;> rfl
              case c3 => unfold maxLen; omega
              case c4 => omega
              case c5 => simp; have := hrowz.lt; omega
              intro v' w3 hown3 hgrow3 _ hat
              have hrow3 : RowAt w3 G V F ev := (hrowz.alloc _).block (hgrow3.block G (by have := hrowz.lt; simp; omega) (fun e => by have := (hownz.lt G e.symm).1; omega))
              have hGw : w.heap.size ≤ G := by omega
              have eb3 : Below w.heap.size w w3 := (ebz.alloc hszw _).grown hgrow3 (by simp; omega) (fun j hj => by have := (hownz.lt j hj).1; omega)
              have f98 := hrow3.free 98
              have y98 := hrow3.ext
              clear hgrow3 hownz hrowz ebz ez hat
              obtain ⟨Av, cv, rfl, _, _⟩ := own_cap hown3
              go_wp2_with fail
              go_roundw
              case rel => exact ⟨k + 1, _, by omega, by go_num, hrow3.setExt, by rw [HX.out, List.map_take]; exact own_set hown3 (by omega), eb3.setCell (by show w.heap.size ≤ G; omega) _⟩
              case measure => simp [intOf]; omega
        · obtain rfl : k = l.length := by omega
          rw [List.take_length] at hown
          have hGw : w.heap.size ≤ G := by omega
          go_wp2_with fail
          go_ret
          exact ⟨G, ev, rfl, hGw, hrow, hown, eb⟩
end Go.Proofs.YtbldpojkpmafpaaGreatDoor

/- Package bus: the extents and the length of an order. -/
namespace Go.Proofs.YtbldpojkpmafpaaGreatDoor
open Go.RowKit

theorem xcells_at (ps : List (Int × Int)) : ∀ (k : Nat) (p : Int × Int), ps[k]? = some p → (xcells ps)[k * 2]? = some (.int .i64 p.1) ∧ (xcells ps)[k * 2 + 1]? = some (.int .i64 p.2) := by
  induction ps with
  | nil => intro k p h; simp at h
  | cons q r ih =>
    intro k p h
    cases k with
    | zero => simp at h; subst h; exact ⟨rfl, rfl⟩
    | succ k =>
      have := ih k p (by simpa using h)
      rw [show (k + 1) * 2 = k * 2 + 1 + 1 by omega]
      simpa [xcells] using this
theorem Row.extent {w : World} {B : Nat} {A : Option Addr} {ps : List (Int × Int)} (h : Row w B A (xcells ps)) (k : Nat) (hk : k < ps.length) :
    ∃ b off x y, A = some ⟨b, off, none⟩ ∧ b < B ∧ ps[k]? = some (x, y) ∧ w.cell? ⟨b, off + k * 2, none⟩ = some (.int .i64 x) ∧ w.cell? ⟨b, off + k * 2 + 1, none⟩ = some (.int .i64 y) := by
  have hl := xcells_len ps
  obtain ⟨b, off, h1, h2, h3⟩ := h.open (by omega)
  obtain ⟨e1, e2⟩ := xcells_at ps k ps[k] (List.getElem?_eq_getElem hk)
  refine ⟨b, off, ps[k].1, ps[k].2, h1, h2, List.getElem?_eq_getElem hk, ?_, ?_⟩
  · rw [h3 (k * 2) (by omega), List.getD_eq_getElem?_getD, e1]; rfl
  · rw [Nat.add_assoc, h3 (k * 2 + 1) (by omega), List.getD_eq_getElem?_getD, e2]; rfl
theorem both_zero {l : List Bus.Net} {n : Int} {order : List Int} (h : Bus.bothErr l n order = 0) : Bus.netsErr l n = 0 ∧ Bus.orderErr order n = 0 := by
  unfold Bus.bothErr at h
  split at h
  · contradiction
  · exact ⟨by omega, h⟩
theorem exts_len (F : Nat → Int) (l : List NetAt) : (Bus.exts F (l.map NetAt.net)).length = l.length := by simp [Bus.exts]
end Go.Proofs.YtbldpojkpmafpaaGreatDoor

/- Package bus: the clique of an order. -/
namespace Go.Proofs.YtbldpojkpmafpaaGreatDoor
open Go.RowKit

def covB (xs : List (Int × Int)) (i : Nat) (p : Int) : Bool := decide ((xs.getD i (0, 0)).1 ≤ p) && decide (p ≤ (xs.getD i (0, 0)).2)
set_option maxRecDepth 100000 in
theorem covers_any (g : Nat) (V : Value) (F : Nat → Int) (A : Option Addr) (c B i : Nat) (p : Int) (xs : List (Int × Int)) (w : World) (h : RowAt w g V F (.slice A xs.length c)) (hr : Row w B A (xcells xs)) (hi : i < xs.length) (_ : xs.length ≤ 1000) :
    Calls Tryz.prog 63 #[.pointer (some ⟨g, 0, none⟩), .int .i64 (i : Int), .int .i64 p] w fun e w' => e = .returned (.bool (covB xs i p)) ∧ w = w' := by
  obtain ⟨b, off, x, y, rfl, hbB, hx, hc1, hc2⟩ := hr.extent i hi
  have e : covB xs i p = (decide (x ≤ p) && decide (p ≤ y)) := by unfold covB; rw [List.getD_eq_getElem?_getD, hx]; rfl
  rw [e]
  have x98 := h.ext
  have hii : (i : Int) < (xs.length : Int) := by omega
  clear hx e h hr
  by_cases hxp : x ≤ p
  · go_enter Tryz.func63, Tryz.ntmps63
    go_wp2_with fail
    go_ret
    exact ⟨by rw [decide_eq_true hxp]; rfl, rfl⟩
  · go_enter Tryz.func63, Tryz.ntmps63
    go_wp2_with fail
    go_ret
    exact ⟨by rw [decide_eq_false (show ¬ x ≤ p by omega)]; rfl, rfl⟩

theorem Tryz.info3 : (Tryz.prog.info? 3).map (fun i => (i.zero, i.size, i.bytes)) = some (some (.int .i64 0), 1, 8) := by kernel_rfl

def FreshA (B : Nat) (A : Option Addr) : Prop := ∀ b off, A = some ⟨b, off, none⟩ → B ≤ b
theorem own_fresh {w : World} {base size n : Nat} {e : TypeId} {A : Option Addr} {c : Nat} {vs : List Value} (h : w.ownsRow base e size (.slice A n c) n vs) : FreshA base A := fun b off hA => by
  subst hA
  exact (h.lt b rfl).1
end Go.Proofs.YtbldpojkpmafpaaGreatDoor

/- slices.SortStableFunc at a list of ints by the lows of extents, where one block of insertion sort serves (at most 20 elements). -/
namespace Go.Proofs.YtbldpojkpmafpaaGreatDoor
open Go.RowKit

structure DRow (w : World) (g : Nat) (d : List Nat) : Prop where
  cell : ∀ i, i < d.length → w.cell? ⟨g, i, none⟩ = some (.int .i64 ((d.getD i 0 : Nat) : Int))
  free : ∀ i, w.frozen? ⟨g, i, none⟩ = false
  lt : g < w.heap.size
theorem DRow.drewN {w : World} {g : Nat} {d : List Nat} (h : DRow w g d) (m : Nat) : DRow (w.drewN m) g d := ⟨h.cell, h.free, h.lt⟩
theorem DRow.set {w : World} {g i x : Nat} {d : List Nat} (h : DRow w g d) : DRow (w.setCell ⟨g, i, none⟩ (.int .i64 (x : Int))) g (d.set i x) := by
  refine ⟨fun k hk => ?_, fun k => by rw [World.frozen?_setCell]; exact h.free k, by simpa using h.lt⟩
  rw [List.length_set] at hk
  by_cases hki : k = i
  · subst hki
    rw [World.cell?_setCell_same' _ _ _ (by rw [h.cell k hk]; rfl)]
    simp [List.getD_eq_getElem?_getD, hk]
  · rw [World.cell?_setCell_other _ _ _ _ (fun e => by injection e; omega), h.cell k hk]
    simp [List.getD_eq_getElem?_getD, List.getElem?_set_ne (Ne.symm hki)]

def swapAt (d : List Nat) (j : Nat) : List Nat := (d.set (j + 1) (d.getD j 0)).set j (d.getD (j + 1) 0)
def sink (K : Nat → Int) : Nat → List Nat → List Nat
  | 0, d => d
  | j + 1, d => if K (d.getD (j + 1) 0) < K (d.getD j 0) then sink K j (swapAt d j) else d
def sortTo (K : Nat → Int) (d : List Nat) : Nat → List Nat
  | 0 => d
  | i + 1 => sink K i (sortTo K d i)
end Go.Proofs.YtbldpojkpmafpaaGreatDoor

/- slices.SortStableFunc by the lows of extents, at fewer than 20 elements; slices.IndexFunc with the tracks' test. -/
namespace Go.Proofs.YtbldpojkpmafpaaGreatDoor
open Go.RowKit

def freeFrom (lo : Int) (k : Nat) : List Int → Int
  | [] => -1
  | e :: r => if e < lo then (k : Int) else freeFrom lo (k + 1) r
end Go.Proofs.YtbldpojkpmafpaaGreatDoor

/- Package bus: the tracks of nets that stand in an order (from 1 to 19 nets). -/
namespace Go.Proofs.YtbldpojkpmafpaaGreatDoor
open Go.RowKit

def lowAt (xs : List (Int × Int)) (i : Nat) : Int := (xs.getD i (0, 0)).1
def trackStep (xs : List (Int × Int)) (s : List Int × List Nat) (i : Nat) : List Int × List Nat :=
  let x := xs.getD i (0, 0)
  let t := freeFrom x.1 0 s.1
  if t < 0 then (s.1 ++ [x.2], s.2.set i s.1.length) else (s.1.set t.toNat x.2, s.2.set i t.toNat)
def tracksOf (xs : List (Int × Int)) : List Int × List Nat := (sortTo (lowAt xs) (List.range xs.length) xs.length).foldl (trackStep xs) ([], List.replicate xs.length 0)

theorem DRow.block {w w' : World} {g : Nat} {d : List Nat} (h : DRow w g d) (hb : w'.heap[g]? = w.heap[g]?) (hs : w.heap.size ≤ w'.heap.size) : DRow w' g d :=
  ⟨fun i hi => (World.cell?_of_block (a := ⟨g, i, none⟩) hb).trans (h.cell i hi), fun i => (World.frozen?_of_block (a := ⟨g, i, none⟩) hb).trans (h.free i), by have := h.lt; omega⟩

theorem DRow.far {w : World} {g b i : Nat} {d : List Nat} {u : Value} (h : DRow w g d) (hb : g ≠ b) : DRow (w.setCell ⟨b, i, none⟩ u) g d := h.block (Below.heap_setCell w ⟨b, i, none⟩ u g hb) (by simp)
end Go.Proofs.YtbldpojkpmafpaaGreatDoor

/- Package bus: whether nets meet; tracks that are no numbers of tracks. -/
namespace Go.Proofs.YtbldpojkpmafpaaGreatDoor
open Go.RowKit

def meetB (xs : List (Int × Int)) (a b : Nat) : Bool := decide ((xs.getD a (0, 0)).1 ≤ (xs.getD b (0, 0)).2) && decide ((xs.getD b (0, 0)).1 ≤ (xs.getD a (0, 0)).2)
set_option maxHeartbeats 4000000 in
set_option maxRecDepth 100000 in
theorem meet_any (g : Nat) (V : Value) (F : Nat → Int) (A : Option Addr) (c B i j : Nat) (xs : List (Int × Int)) (w : World) (h : RowAt w g V F (.slice A xs.length c)) (hr : Row w B A (xcells xs)) (hB : B ≤ w.heap.size) (hi : i < xs.length) (hj : j < xs.length) :
    Calls Tryz.prog 97 #[.pointer (some ⟨g, 0, none⟩), .int .i64 (i : Int), .int .i64 (j : Int)] w fun e w' => e = .returned (.bool (meetB xs i j)) ∧ Below w.heap.size w w' := by
  obtain ⟨b, off, x, y, hA, hbB, hx, hc1, hc2⟩ := hr.extent i hi
  obtain ⟨b', off', x', y', hA', _, hx', hc1', hc2'⟩ := hr.extent j hj
  subst hA
  injection hA' with hA'; injection hA' with h1 h2; subst h1; subst h2
  have e : meetB xs i j = (decide (x ≤ y') && decide (x' ≤ y)) := by unfold meetB; simp only [List.getD_eq_getElem?_getD, hx, hx', Option.getD_some]
  rw [e]
  have x98 := h.ext
  have hii : (i : Int) < (xs.length : Int) := by omega
  have hjj : (j : Int) < (xs.length : Int) := by omega
  have hbl : b < w.heap.size := by omega
  have hgl := h.lt
  clear hx hx' e h hr
  go_enter Tryz.func97, Tryz.ntmps97
  go_wp2_with fail
  go_region
  all_goals
    by_cases hxy : x ≤ y'
    · have hd : decide (x ≤ y') = true := decide_eq_true hxy
      go_wp2_with fail
      go_ret
      exact ⟨by first | rfl | (rw [hd]; rfl), (by repeat (first | with_reducible exact Below.refl _ _ | with_reducible assumption | with_reducible refine Below.setCell ?_ (by first | omega | (simp; done) | (simp; omega)) _ | with_reducible refine below_drewN ?_ _ | with_reducible refine Below.drew ?_ | with_reducible refine Below.alloc ?_ (by first | omega | (simp; done) | (simp; omega)) _ | with_reducible refine below_after ?_ (by assumption) (by first | omega | (simp; done) | (simp; omega))))⟩
    · have hd : decide (x ≤ y') = false := decide_eq_false hxy
      go_wp2_with fail
      go_ret
      exact ⟨by first | rfl | (rw [hd]; rfl), (by repeat (first | with_reducible exact Below.refl _ _ | with_reducible assumption | with_reducible refine Below.setCell ?_ (by first | omega | (simp; done) | (simp; omega)) _ | with_reducible refine below_drewN ?_ _ | with_reducible refine Below.drew ?_ | with_reducible refine Below.alloc ?_ (by first | omega | (simp; done) | (simp; omega)) _ | with_reducible refine below_after ?_ (by assumption) (by first | omega | (simp; done) | (simp; omega))))⟩

def farB (ts : List Int) : Bool := ts.any fun t => decide (t < 0) || decide (64 ≤ t)
theorem farTrack_any (t : Int) (w : World) : Calls Tryz.prog 96 #[.int .i64 t] w fun e w' => e = .returned (.bool (decide (t < 0) || decide (64 ≤ t))) ∧ w = w' := by
  by_cases h : t < 0
  · have hd : decide (t < 0) = true := decide_eq_true h
    go_enter Tryz.func96, Tryz.ntmps96
    go_wp2_with fail
    go_ret
    exact ⟨by first | rfl | (rw [hd]; rfl), rfl⟩
  · have hd : decide (t < 0) = false := decide_eq_false h
    go_enter Tryz.func96, Tryz.ntmps96
    go_wp2_with fail
    go_ret
    exact ⟨by first | rfl | (rw [hd]; rfl), rfl⟩
def farAt (k : Nat) : List Int → Int
  | [] => -1
  | t :: r => if (decide (t < 0) || decide (64 ≤ t)) = true then (k : Int) else farAt (k + 1) r
theorem farAt_sign : ∀ (ts : List Int) (k : Nat), decide (0 ≤ farAt k ts) = farB ts
  | [], k => by simp [farAt, farB]
  | t :: r, k => by
      have := farAt_sign r (k + 1)
      unfold farAt
      unfold farB at this ⊢
      rw [List.any_cons]
      split
      · rename_i h; rw [h]; simp
      · rename_i h; rw [this]; simp only [Bool.not_eq_true] at h; rw [h]; rfl
set_option maxRecDepth 100000 in
theorem farIndex_any (A : Option Addr) (c B : Nat) (es : List Int) (w : World) (hl : es.length ≤ 1000000) (h : Row w B A (es.map (Value.int .i64))) :
    Calls Tryz.prog 91 #[.slice A es.length c, .func (.func 96) #[] #[]] w fun e w' => e = .returned (.int .i64 (farAt 0 es)) ∧ w = w' := by
  have H := Lib.hid h
  clear h
  obtain ⟨r, hr⟩ : ∃ r, farAt 0 es = r := ⟨_, rfl⟩
  rw [hr]
  have HR := Lib.hid hr
  clear hr
  go_enter Tryz.func91, Tryz.ntmps91
  go_wp2_with fail
  go_loop [8] (fun i => ∃ k : Nat, k ≤ es.length ∧ i = .int .i64 k ∧ farAt k (es.drop k) = r) (fun i => es.length - (intOf i).toNat)
  case atStart => exact ⟨0, Nat.zero_le _, rfl, HR.out⟩
  case round =>
    obtain ⟨k, hk, rfl, hpre⟩ := hrel
    have HP := Lib.hid hpre
    clear hpre
    by_cases hlt : k < es.length
    · obtain ⟨b, off, x, rfl, hbB, hx, hc⟩ := H.out.int k hlt
      have hd : es.drop k = x :: es.drop (k + 1) := by
        rw [List.drop_eq_getElem_cons hlt]
        rw [List.getElem?_eq_getElem hlt] at hx
        rw [Option.some.inj hx]
      have hp := HP.out
      rw [hd] at hp
      unfold farAt at hp
      have he := farTrack_any x w
      clear hx hd
      generalize (decide (x < 0) || decide (64 ≤ x)) = bb at *
      have HE := Lib.hid he
      clear he HP
      cases bb
      · rw [if_neg (by decide)] at hp
        have HN := Lib.hid hp
        clear hp
        go_wp2_with (refine HE.out.mono ?_; rintro e w' ⟨rfl, rfl⟩)
        go_round
        case rel => exact ⟨k + 1, by omega, by go_num, HN.out⟩
        case measure => simp [intOf]; omega
      · rw [if_pos rfl] at hp
        have HN := Lib.hid hp
        clear hp
        go_wp2_with (refine HE.out.mono ?_; rintro e w' ⟨rfl, rfl⟩)
        go_ret
        exact ⟨ret_i64 HN.out, rfl⟩
    · obtain rfl : k = es.length := by omega
      have HN := Lib.hid (show (-1 : Int) = r by rw [← HP.out, List.drop_length]; rfl)
      go_wp2_with fail
      go_ret
      exact ⟨ret_i64 HN.out, rfl⟩
set_option maxRecDepth 100000 in
theorem farTracks_any (A : Option Addr) (c B : Nat) (es : List Int) (w : World) (hl : es.length ≤ 1000000) (h : Row w B A (es.map (Value.int .i64))) :
    Calls Tryz.prog 95 #[.slice A es.length c, .func (.func 96) #[] #[]] w fun e w' => e = .returned (.bool (farB es)) ∧ w = w' := by
  have H := Lib.hid (farIndex_any A c B es w hl h)
  have hs := farAt_sign es 0
  generalize farAt 0 es = f at *
  clear h
  go_enter Tryz.func95, Tryz.ntmps95
  go_wp2_with (refine H.out.mono ?_; rintro e w' ⟨rfl, rfl⟩)
  go_ret
  exact ⟨by rw [← hs]; rfl, rfl⟩
end Go.Proofs.YtbldpojkpmafpaaGreatDoor

/- Package bus: the check of a layout. -/
namespace Go.Proofs.YtbldpojkpmafpaaGreatDoor
open Go.RowKit

def confRow (xs : List (Int × Int)) (ts : List Int) (i : Nat) : Nat → Bool
  | 0 => false
  | k + 1 => confRow xs ts i k || (ts.getD i 0 == ts.getD k 0 && meetB xs i k)
def conf (xs : List (Int × Int)) (ts : List Int) : Nat → Bool
  | 0 => false
  | i + 1 => conf xs ts i || confRow xs ts i i
theorem confRow_up (xs : List (Int × Int)) (ts : List Int) (i : Nat) : ∀ (k m : Nat), k ≤ m → confRow xs ts i k = true → confRow xs ts i m = true := by
  intro k m h hk
  induction m with
  | zero => rw [show k = 0 by omega] at hk; exact hk
  | succ m ih =>
    by_cases he : k = m + 1
    · rw [← he]; exact hk
    · unfold confRow; rw [ih (by omega)]; rfl
theorem conf_up (xs : List (Int × Int)) (ts : List Int) : ∀ (k m : Nat), k ≤ m → conf xs ts k = true → conf xs ts m = true := by
  intro k m h hk
  induction m with
  | zero => rw [show k = 0 by omega] at hk; exact hk
  | succ m ih =>
    by_cases he : k = m + 1
    · rw [← he]; exact hk
    · unfold conf; rw [ih (by omega)]; rfl
def layErr (l : List Bus.Net) (n : Int) (order ts : List Int) : Int :=
  if Bus.bothErr l n order ≠ 0 then Bus.bothErr l n order else if ts.length ≠ l.length then 2 else if farB ts = true then 3 else if conf (Bus.exts (Bus.atUp order order.length) l) ts l.length = true then 30 else 0

set_option maxHeartbeats 8000000 in
set_option maxRecDepth 100000 in
theorem CheckLayout_any (A A2 A3 : Option Addr) (c c2 c3 B : Nat) (l : List NetAt) (order ts : List Int) (n : Int) (w : World) (h : NetsIn w B A l) (h2 : Row w B A2 (order.map (Value.int .i64))) (h3 : Row w B A3 (ts.map (Value.int .i64))) (hi : ∀ c ∈ order, I64 c) (hB : B ≤ w.heap.size) (hl : l.length ≤ 140737488355328) (hl2 : order.length ≤ 1000000) (hl3 : ts.length ≤ 1000000) :
    Calls Tryz.prog 51 #[.slice A l.length c, .int .i64 n, .agg #[.slice A2 order.length c2, .slice A3 ts.length c3]] w fun e w' => e = .returned (.int .i64 (layErr (l.map NetAt.net) n order ts)) ∧ Below w.heap.size w w' := by
  have HC := Lib.hid (fun w' (hb : Below w.heap.size w w') => checked_any A A2 c c2 B l order n w' (h.below hb hB) (h2.below hb hB) hi (by have := hb.size; omega) hl hl2)
  have HF := Lib.hid (fun w' (hb : Below w.heap.size w w') => farTracks_any A3 c3 B ts w' hl3 (h3.below hb hB))
  have H3 := Lib.hid h3
  obtain ⟨E, hE⟩ : ∃ E, Bus.bothErr (l.map NetAt.net) n order = E := ⟨_, rfl⟩
  obtain ⟨r, hr⟩ : ∃ r, layErr (l.map NetAt.net) n order ts = r := ⟨_, rfl⟩
  rw [hr]
  have hr2 := hr
  unfold layErr at hr2
  rw [hE, List.length_map] at hr2
  rw [hE] at HC
  have hstand := fun (hz : E = 0) w' (hb : Below w.heap.size w w') => stand_any A A2 c c2 B l order n w' (h.below hb hB) (h2.below hb hB) (by have := hb.size; omega) (both_zero (by rw [hE]; exact hz)).2 (both_zero (by rw [hE]; exact hz)).1
  have hl64 : E = 0 → l.length ≤ 64 := fun hz => by
    have := (Bus.netsErr_zero (both_zero (show Bus.bothErr (l.map NetAt.net) n order = 0 by rw [hE]; exact hz)).1).2.2.1
    rwa [List.length_map] at this
  clear h h2 h3 hi hr hE
  by_cases h0 : E = 0
  · subst h0
    rw [if_neg (by decide)] at hr2
    have HST := Lib.hid (hstand rfl)
    have h64 := hl64 rfl
    clear hstand hl64
    by_cases htl : ts.length = l.length
    · rw [if_neg (by omega)] at hr2
      by_cases hfar : farB ts = true
      · rw [if_pos hfar] at hr2
        have HR := Lib.hid hr2
        have hln : ((ts.length : Int) != (l.length : Int)) = false := by simp; omega
        rw [hfar] at HF
        have HTL := Lib.hid htl
        clear hr2 hfar htl
        go_enter Tryz.func51, Tryz.ntmps51
        go_wp2_with fail
        generalize hW0 : World.alloc w _ = W0
        obtain ⟨G, hG⟩ : ∃ G, w.heap.size = G := ⟨_, rfl⟩
        have d0 : Blk W0 G 29 #[.slice A2 order.length c2, .slice A3 ts.length c3] := by rw [← hW0, ← hG]; exact Blk.new _ _ _
        have e0 : Below w.heap.size w W0 := by rw [← hW0]; exact (Below.refl _ w).alloc (Nat.le_refl _) _
        try rw [hG]
        clear hW0
        refine (HC.out _ e0).mono ?_
        rintro e w1 ⟨rfl, hb1⟩
        have e1 := below_after e0 hb1 (Nat.le_refl _)
        have d1 := keep_blk d0 hb1
        have p0 : w1.cell? ⟨G, 0, none⟩ = some (.slice A2 order.length c2) := d1.cell 0
        have p1 : w1.cell? ⟨G, 1, none⟩ = some (.slice A3 ts.length c3) := d1.cell 1
        have hGl := d1.lt
        have HF1 := Lib.hid (HF.out _ e1)
        clear hb1 e0 d0 HC HF
        go_wp2_with (first
          | (go_at_call 95; refine HF1.out.mono ?_; rintro e w2 ⟨rfl, rfl⟩)
          | (go_at_call 40; refine (when_any _ _ _).mono ?_; rintro e w2 ⟨rfl, rfl⟩)
          | (go_at_call 38; refine (first_hit22 3 w1 _).mono ?_; rintro e w2 ⟨rfl, rfl⟩))
        all_goals (go_ret; exact ⟨ret_i64 HR.out, by first | exact (by repeat (first | with_reducible exact Below.refl _ _ | with_reducible assumption | with_reducible refine Below.setCell ?_ (by first | omega | (simp; done) | (simp; omega)) _ | with_reducible refine below_drewN ?_ _ | with_reducible refine Below.drew ?_ | with_reducible refine Below.alloc ?_ (by first | omega | (simp; done) | (simp; omega)) _ | with_reducible refine below_after ?_ (by assumption) (by first | omega | (simp; done) | (simp; omega)))) | (rw [← hG]; exact (by repeat (first | with_reducible exact Below.refl _ _ | with_reducible assumption | with_reducible refine Below.setCell ?_ (by first | omega | (simp; done) | (simp; omega)) _ | with_reducible refine below_drewN ?_ _ | with_reducible refine Below.drew ?_ | with_reducible refine Below.alloc ?_ (by first | omega | (simp; done) | (simp; omega)) _ | with_reducible refine below_after ?_ (by assumption) (by first | omega | (simp; done) | (simp; omega)))))⟩)
      · have hfar' : farB ts = false := by simpa using hfar
        rw [if_neg hfar] at hr2
        rw [hfar'] at HF
        have HR := Lib.hid hr2
        have hln : ((ts.length : Int) != (l.length : Int)) = false := by simp; omega
        have HTL := Lib.hid htl
        clear hr2 hfar hfar' htl
        go_enter Tryz.func51, Tryz.ntmps51
        go_wp2_with fail
        generalize hW0 : World.alloc w _ = W0
        obtain ⟨G, hG⟩ : ∃ G, w.heap.size = G := ⟨_, rfl⟩
        have d0 : Blk W0 G 29 #[.slice A2 order.length c2, .slice A3 ts.length c3] := by rw [← hW0, ← hG]; exact Blk.new _ _ _
        have e0 : Below w.heap.size w W0 := by rw [← hW0]; exact (Below.refl _ w).alloc (Nat.le_refl _) _
        try rw [hG]
        clear hW0
        refine (HC.out _ e0).mono ?_
        rintro e w1 ⟨rfl, hb1⟩
        have e1 := below_after e0 hb1 (Nat.le_refl _)
        have d1 := keep_blk d0 hb1
        have p0 : w1.cell? ⟨G, 0, none⟩ = some (.slice A2 order.length c2) := d1.cell 0
        have p1 : w1.cell? ⟨G, 1, none⟩ = some (.slice A3 ts.length c3) := d1.cell 1
        have hGl := d1.lt
        have HF1 := Lib.hid (HF.out _ e1)
        clear hb1 e0 d0 HC HF
        go_wp2_with (first
          | (go_at_call 95; refine HF1.out.mono ?_; rintro e w2 ⟨rfl, rfl⟩)
          | (go_at_call 40; refine (when_any _ _ _).mono ?_; rintro e w2 ⟨rfl, rfl⟩)
          | (go_at_call 38; refine (first_hit22 0 w1 _).mono ?_; rintro e w2 ⟨rfl, rfl⟩))
        have e1a := e1.alloc e1.size (.cells #[.int .i64 0, .int .i64 0] 30)
        have d1a := d1.alloc (.cells #[.int .i64 0, .int .i64 0] 30)
        refine (HST.out _ e1a).mono ?_
        rintro e w2 ⟨g, v, rfl, hg, hrow, hown, hb2⟩
        have e2 := below_after e1a hb2 (Nat.le_refl _)
        have d2 := keep_blk d1a hb2
        have hlen := exts_len (Bus.atUp order order.length) l
        obtain ⟨xs, hxs⟩ : ∃ xs, Bus.exts (Bus.atUp order order.length) (l.map NetAt.net) = xs := ⟨_, rfl⟩
        rw [hxs] at hown hlen
        have HRX := HR.out
        rw [hxs] at HRX
        obtain ⟨Av, cv, rfl, _, hr⟩ := own_cap hown
        rw [← hlen] at hrow
        have HMT := Lib.hid (fun (i j : Nat) w' (hb : Below w2.heap.size w2 w') (hi : i < xs.length) (hj : j < xs.length) => meet_any g _ _ Av cv w2.heap.size i j xs w' (hrow.below hb) (hr.below hb (Nat.le_refl _)) hb.size hi hj)
        have q0 : w2.cell? ⟨G, 0, none⟩ = some (.slice A2 order.length c2) := d2.cell 0
        have q1 : w2.cell? ⟨G, 1, none⟩ = some (.slice A3 ts.length c3) := d2.cell 1
        have hG2 := d2.lt
        have s2 := e2.size
        obtain ⟨L, hL⟩ : ∃ L, l.length = L := ⟨_, rfl⟩
        rw [hL] at HRX
        have HLX := Lib.hid (show xs.length = L by rw [hlen, hL])
        have HRR := Lib.hid HRX
        have HTS := Lib.hid (show ts.length = L by rw [HTL.out, hL])
        clear hown hrow hr hb2 e1a d1a e1 d1 p0 p1 HF1 HST HR HRX d2 hlen hxs HTL
        rw [hL]
        go_wp2_with fail
        go_loopw [44] (fun i wr => ∃ k : Nat, k ≤ L ∧ i = .int .i64 k ∧ conf xs ts k = false ∧ Below w2.heap.size w2 wr) (fun i _ => L - (intOf i).toNat)
        case atStart => exact ⟨0, Nat.zero_le _, rfl, rfl, Below.refl _ _⟩
        case round =>
          obtain ⟨k, hk, rfl, hcf, eb⟩ := hrel
          have hsz := eb.size
          by_cases hlt : k < L
          · obtain ⟨W, hW⟩ : ∃ W, wr = W := ⟨_, rfl⟩
            rw [hW] at eb hsz ⊢
            clear hW
            have HCF := Lib.hid hcf
            clear hcf
            go_wp2_with fail
            go_loopw [48] (fun i wz => ∃ j : Nat, j ≤ k ∧ i = .int .i64 j ∧ confRow xs ts k j = false ∧ Below W.heap.size W wz) (fun i _ => k - (intOf i).toNat)
            case atStart => exact ⟨0, Nat.zero_le _, rfl, rfl, Below.refl _ _⟩
            case round =>
              obtain ⟨j, hj, rfl, hcr, ez⟩ := hrel
              have hszz := ez.size
              have ebz := below_after eb ez (Nat.le_refl _)
              have e3 := below_after e2 ebz (Nat.le_refl _)
              have hszw := e3.size
              by_cases hlj : j < k
              · obtain ⟨b, off, x, hA3, hbB, hx, hcx⟩ := H3.out.int k (by rw [HTS.out]; omega)
                obtain ⟨b', off', y, hA3', _, hy, hcy⟩ := H3.out.int j (by rw [HTS.out]; omega)
                subst hA3
                injection hA3' with hA3'; injection hA3' with h1 h2; subst h1; subst h2
                have hcx2 : wr.drew.cell? ⟨b, off + k, none⟩ = some (.int .i64 x) := (e3.cell (p := ⟨b, off + k, none⟩) (by show b < _; omega)).trans hcx
                have hcy2 : wr.drew.cell? ⟨b, off + j, none⟩ = some (.int .i64 y) := (e3.cell (p := ⟨b, off + j, none⟩) (by show b < _; omega)).trans hcy
                have q1d : wr.drew.cell? ⟨G, 1, none⟩ = some (.slice (some ⟨b, off, none⟩) ts.length c3) := (ebz.cell (p := ⟨G, 1, none⟩) hG2).trans q1
                have hcx3 : wr.cell? ⟨b, off + k, none⟩ = some (.int .i64 x) := hcx2
                have hcy3 : wr.cell? ⟨b, off + j, none⟩ = some (.int .i64 y) := hcy2
                have q1e : wr.cell? ⟨G, 1, none⟩ = some (.slice (some ⟨b, off, none⟩) ts.length c3) := q1d
                have HST2 := Lib.hid (show confRow xs ts k (j + 1) = (confRow xs ts k j || (ts.getD k 0 == ts.getD j 0 && meetB xs k j)) from rfl)
                have gx : ts.getD k 0 = x := by rw [List.getD_eq_getElem?_getD, hx]; rfl
                have gy : ts.getD j 0 = y := by rw [List.getD_eq_getElem?_getD, hy]; rfl
                rw [hcr, gx, gy, Bool.false_or] at HST2
                have hkt : (k : Int) < (ts.length : Int) := by rw [HTS.out]; omega
                have hjt : (j : Int) < (ts.length : Int) := by rw [HTS.out]; omega
                clear hx hy hcx hcy gx gy
                by_cases hxy : x = y
                · have hbe : (x == y) = true := by rw [beq_iff_eq]; exact hxy
                  rw [hbe, Bool.true_and] at HST2
                  go_wp2_with fail
                  go_still_tail 15, (by kernel_rfl)
                  have ed := e3.drew
                  have ebd := ebz.drew
                  have ezd := ez.drew
                  change wpList _ _ _ _ _ wr.drew
                  generalize wr.drew = W5 at hcx2 hcy2 q1d ed ebd ezd ⊢
                  clear hcx3 hcy3 q1e e3 ebz
                  go_wp2_with (first
                    | (go_at_call 97; refine (HMT.out k j _ ebd (by rw [HLX.out]; omega) (by rw [HLX.out]; omega)).mono ?_; rintro e w6 ⟨rfl, hb6⟩))
                  · rename_i hmt
                    have e6 := below_after ed hb6 (Nat.le_refl _)
                    have hc1 : conf xs ts L = true := conf_up xs ts (k + 1) L (by omega) (by
                      show (conf xs ts k || confRow xs ts k k) = true
                      rw [confRow_up xs ts k (j + 1) k (by omega) (by rw [HST2.out]; exact hmt)]
                      exact Bool.or_true _)
                    have hq := HRR.out
                    rw [if_pos hc1] at hq
                    have HQ := Lib.hid hq
                    clear hq hc1
                    go_ret
                    exact ⟨ret_i64 HQ.out, by first | exact e6 | (rw [← hG]; exact e6)⟩
                  · rename_i hmt
                    have e6 := below_after ezd hb6 (Nat.le_refl _)
                    exact ⟨⟨j + 1, by omega, by go_num, HST2.out.trans hmt, e6⟩, by simp [intOf]; omega⟩
                · have hbe : (x == y) = false := by rw [beq_eq_false_iff_ne]; exact hxy
                  rw [hbe, Bool.false_and] at HST2
                  clear hcx2 hcy2 q1d
                  go_wp2_with fail
                  go_quiet (fail)
                  go_wp2_with fail
                  go_roundw
                  case rel => exact ⟨j + 1, by omega, by go_num, HST2.out, (by repeat (first | with_reducible exact Below.refl _ _ | with_reducible assumption | with_reducible refine Below.setCell ?_ (by first | omega | (simp; done) | (simp; omega)) _ | with_reducible refine below_drewN ?_ _ | with_reducible refine Below.drew ?_ | with_reducible refine Below.alloc ?_ (by first | omega | (simp; done) | (simp; omega)) _ | with_reducible refine below_after ?_ (by assumption) (by first | omega | (simp; done) | (simp; omega))))⟩
                  case measure => simp [intOf]; omega
              · obtain rfl : k = j := by omega
                have HC2 := Lib.hid (show conf xs ts (k + 1) = false by unfold conf; rw [HCF.out, hcr]; rfl)
                go_wp2_with fail
                go_roundw
                case rel => exact ⟨k + 1, by omega, by go_num, HC2.out, ebz⟩
                case measure => simp [intOf]; omega
          · obtain rfl : k = L := by omega
            have hq := HRR.out
            rw [if_neg (by rw [hcf]; decide)] at hq
            have HQ := Lib.hid hq
            have e3 := below_after e2 eb (Nat.le_refl _)
            clear hq
            go_wp2_with fail
            go_ret
            exact ⟨ret_i64 HQ.out, by first | exact e3 | (rw [← hG]; exact e3)⟩
    · rw [if_pos htl] at hr2
      have HR := Lib.hid hr2
      have hln : ((ts.length : Int) != (l.length : Int)) = true := by rw [bne_iff_ne]; omega
      clear hr2
      go_enter Tryz.func51, Tryz.ntmps51
      go_wp2_with fail
      generalize hW0 : World.alloc w _ = W0
      obtain ⟨G, hG⟩ : ∃ G, w.heap.size = G := ⟨_, rfl⟩
      have d0 : Blk W0 G 29 #[.slice A2 order.length c2, .slice A3 ts.length c3] := by rw [← hW0, ← hG]; exact Blk.new _ _ _
      have e0 : Below w.heap.size w W0 := by rw [← hW0]; exact (Below.refl _ w).alloc (Nat.le_refl _) _
      try rw [hG]
      clear hW0
      refine (HC.out _ e0).mono ?_
      rintro e w1 ⟨rfl, hb1⟩
      have e1 := below_after e0 hb1 (Nat.le_refl _)
      have d1 := keep_blk d0 hb1
      have p0 : w1.cell? ⟨G, 0, none⟩ = some (.slice A2 order.length c2) := d1.cell 0
      have p1 : w1.cell? ⟨G, 1, none⟩ = some (.slice A3 ts.length c3) := d1.cell 1
      have hGl := d1.lt
      have HF1 := Lib.hid (HF.out _ e1)
      clear hb1 e0 d0 HC HF
      go_wp2_with (first
        | (go_at_call 95; refine HF1.out.mono ?_; rintro e w2 ⟨rfl, rfl⟩)
        | (go_at_call 40; refine (when_any _ _ _).mono ?_; rintro e w2 ⟨rfl, rfl⟩)
        | (go_at_call 38; refine (first_hit21 2 _ w1 _ (by decide)).mono ?_; rintro e w2 ⟨rfl, rfl⟩))
      all_goals (go_ret; exact ⟨ret_i64 HR.out, by first | exact (by repeat (first | with_reducible exact Below.refl _ _ | with_reducible assumption | with_reducible refine Below.setCell ?_ (by first | omega | (simp; done) | (simp; omega)) _ | with_reducible refine below_drewN ?_ _ | with_reducible refine Below.drew ?_ | with_reducible refine Below.alloc ?_ (by first | omega | (simp; done) | (simp; omega)) _ | with_reducible refine below_after ?_ (by assumption) (by first | omega | (simp; done) | (simp; omega)))) | (rw [← hG]; exact (by repeat (first | with_reducible exact Below.refl _ _ | with_reducible assumption | with_reducible refine Below.setCell ?_ (by first | omega | (simp; done) | (simp; omega)) _ | with_reducible refine below_drewN ?_ _ | with_reducible refine Below.drew ?_ | with_reducible refine Below.alloc ?_ (by first | omega | (simp; done) | (simp; omega)) _ | with_reducible refine below_after ?_ (by assumption) (by first | omega | (simp; done) | (simp; omega)))))⟩)
  · rw [if_pos h0] at hr2
    have hne : (E != 0) = true := by rw [bne_iff_ne]; exact h0
    have HR := Lib.hid hr2
    clear hstand hl64 hr2 HF H3
    go_enter Tryz.func51, Tryz.ntmps51
    go_wp2_with fail
    generalize hW0 : World.alloc w _ = W0
    have e0 : Below w.heap.size w W0 := by rw [← hW0]; exact (Below.refl _ w).alloc (Nat.le_refl _) _
    clear hW0
    refine (HC.out _ e0).mono ?_
    rintro e w1 ⟨rfl, hb1⟩
    have e1 := below_after e0 hb1 (Nat.le_refl _)
    go_wp2_with fail
    go_ret
    exact ⟨ret_i64 HR.out, e1⟩
end Go.Proofs.YtbldpojkpmafpaaGreatDoor

/- Package bus: what the crossings of a layout are, and the function taps. -/
namespace Go.Proofs.YtbldpojkpmafpaaGreatDoor
open Go.RowKit

def crossUp (xs : List (Int × Int)) (ts : List Int) (i : Nat) (p : Int) : Nat → Int
  | 0 => 0
  | k + 1 => crossUp xs ts i p k + if decide (ts.getD k 0 < ts.getD i 0) && covB xs k p then 1 else 0
theorem crossUp_lo (xs : List (Int × Int)) (ts : List Int) (i : Nat) (p : Int) : ∀ k : Nat, 0 ≤ crossUp xs ts i p k ∧ crossUp xs ts i p k ≤ k := by
  intro k
  induction k with
  | zero => exact ⟨Int.le_refl _, Int.le_refl _⟩
  | succ k ih => unfold crossUp; split <;> omega
set_option maxHeartbeats 8000000 in
theorem taps_any (g : Nat) (w : World) :
    Calls Tryz.prog 93 #[.pointer (some ⟨g, 0, none⟩)] w fun e w' => ∃ bx, e = .returned (.func (.func 133) #[] #[.pointer (some ⟨bx, 0, none⟩)]) ∧ w.heap.size ≤ bx ∧ bx < w'.heap.size ∧ w'.cell? ⟨bx, 0, none⟩ = some (.pointer (some ⟨g, 0, none⟩)) ∧ Below w.heap.size w w' := by
  go_enter Tryz.func93, Tryz.ntmps93
  go_wp2_with fail
  generalize hW0 : World.alloc w _ = W0
  have d0 : Blk W0 w.heap.size 73 #[.pointer (some ⟨g, 0, none⟩)] := by rw [← hW0]; exact Blk.new _ _ _
  have e0 : Below w.heap.size w W0 := by rw [← hW0]; exact (Below.refl _ w).alloc (Nat.le_refl _) _
  go_ret
  exact ⟨w.heap.size, rfl, Nat.le_refl _, d0.lt, d0.cell 0, e0⟩
end Go.Proofs.YtbldpojkpmafpaaGreatDoor
