/- The runner over an abstract memory: what lays new blocks, loads and stores. -/
import Derived.Test.YtcdknjkkaonbiaaGreatDoorSxOp3
import Derived.Laws.Tables
import Derived.Laws.MakeOwn
import Derived.Great.BuildSlice
import Derived.Laws.CopyRow
namespace Go.Proofs.YtcdknjkkaonbiaaGreatDoor.Sx
open Go.RowKit
section
variable {P : Program} {B : Nat} {ρ : Env} {H : AHeap} {w : World} {o : Oper} {ev : Ev} {e : Operand → Value}

theorem fill_step (off : Nat) : ∀ (zs : List Value) (k : Nat) (cur : Array Value), off + k + zs.length ≤ cur.size →
    ((zs.zipIdx k).foldl (fun cs (p : Value × Nat) => cs.setIfInBounds (off + p.2) p.1) cur).toList = cur.toList.take (off + k) ++ zs ++ cur.toList.drop (off + k + zs.length)
  | [], k, cur, _ => by simp
  | z :: zs, k, cur, h => by
    have h' : off + (k + 1) + zs.length ≤ (cur.setIfInBounds (off + k) z).size := by simp at h ⊢; omega
    rw [List.zipIdx_cons, List.foldl_cons, fill_step off zs (k + 1) _ h']
    have e := list_seg_step cur.toList (off + k) z zs (by simp at h ⊢; omega)
    simpa [Array.toList_setIfInBounds, Nat.add_assoc] using e

theorem afill_ok {place : Nat → Option (Nat × Nat)} : ∀ (parts : List (Nat × AV)) (qs : List (Nat × Value)) (cells : List AV) (cur : Array Value) {r : List AV}, afill place cells parts = some r → Dens ρ cells cur.toList →
    qs.map Prod.fst = parts.map Prod.fst → Dens ρ (parts.map Prod.snd) (qs.map Prod.snd) → ∃ out, Instr.fill place cur qs = some out ∧ Dens ρ r out.toList
  | [], qs, cells, cur, r, h, hd, hi, _ => by
    have : qs = [] := by cases qs <;> simp_all
    subst this
    simp [afill] at h
    subst h
    exact ⟨cur, rfl, hd⟩
  | (i, v) :: parts, [], cells, cur, r, h, hd, hi, _ => by simp at hi
  | (i, v) :: parts, (j, x) :: qs, cells, cur, r, h, hd, hi, hv => by
    simp only [List.map_cons, List.cons.injEq] at hi
    obtain ⟨rfl, hi⟩ := hi
    cases hv with
    | cons hx hv =>
    simp only [afill, Option.bind_eq_some_iff] at h
    obtain ⟨p, hp, h⟩ := h
    cases hb : Nat.beq v.cells.length p.2 with
    | false => rw [hb] at h; cases h
    | true =>
      rw [hb] at h
      simp only [cond_true, Option.bind_eq_some_iff] at h
      obtain ⟨cells', hc, h⟩ := h
      obtain ⟨h1, h2⟩ := aput_some hc
      have hl := hd.length
      have hvl := hx.cells.length
      have hsz : x.cells.size = p.2 := by rw [← Nat.eq_of_beq_eq_true hb, ← hvl]; simp
      have hfit : p.1 + x.cells.size ≤ cur.size := by
        have e1 : x.cells.size = v.cells.length := by rw [← hvl]; simp
        have e2 : cur.size = cells.length := by rw [← hl]; simp
        omega
      have hstep := fill_step p.1 x.cells.toList 0 cur (by simpa using hfit)
      obtain ⟨out, g1, g2⟩ := afill_ok parts qs cells' (x.cells.zipIdx.foldl (fun cs (c, j) => cs.setIfInBounds (p.1 + j) c) cur) h (by
        have e3 : (x.cells.zipIdx.foldl (fun cs (c, j) => cs.setIfInBounds (p.1 + j) c) cur) = (x.cells.toList.zipIdx 0).foldl (fun cs (p' : Value × Nat) => cs.setIfInBounds (p.1 + p'.2) p'.1) cur := by
          rw [← Array.foldl_toList, Array.toList_zipIdx]
        rw [e3, hstep, h2]
        simp only [Nat.add_zero]
        rw [show x.cells.toList.length = v.cells.length from hvl]
        exact ((hd.take p.1).append hx.cells).append (hd.drop _)) hi hv
      refine ⟨out, ?_, g2⟩
      obtain ⟨p1, p2⟩ := p
      simp only [Instr.fill, hp]
      rw [if_neg (by simp only [Bool.or_eq_true, decide_eq_true_eq, not_or]; exact ⟨by simpa using hsz, by omega⟩)]
      exact g1

theorem rawL_dens (a : Array Value) : Dens ρ (rawL a) a.toList := Dens.raws _
theorem parts_dens (he : ∀ x, Den ρ (ev x) (e x)) : ∀ (l : List (Nat × Operand)), Dens ρ ((l.map fun p => (p.1, ev p.2)).map Prod.snd) ((l.map fun p => (p.1, e p.2)).map Prod.snd)
  | [] => .nil
  | p :: l => .cons (he p.2) (parts_dens he l)
theorem afill_parts {place : Nat → Option (Nat × Nat)} (he : ∀ x, Den ρ (ev x) (e x)) (parts : Array (Nat × Operand)) {cells : List AV} {cur : Array Value} {r : List AV} (h : afill place cells (partsOf ev parts) = some r) (hd : Dens ρ cells cur.toList) :
    ∃ out, Instr.fill place cur (parts.map fun (i, x) => (i, e x)).toList = some out ∧ Dens ρ r out.toList := by
  have e1 : (parts.map fun (i, x) => (i, e x)).toList = parts.toList.map fun p => (p.1, e p.2) := by simp
  rw [e1]
  exact afill_ok (partsOf ev parts) _ cells cur h hd (by simp [partsOf, Function.comp_def]) (parts_dens he parts.toList)

theorem places_some : ∀ (fs : List Field), (fs.all fun f => (sizeB P f.type).isSome) = true → ∃ ps : List (Nat × Nat), fs.mapM (fun f => (P.info? f.type).map fun i => (f.offset, i.size)) = some ps ∧ ∀ i : Nat, ps[i]? = (fs[i]?).bind fun (f : Field) => (sizeB P f.type).map fun s => (f.offset, s)
  | [], _ => ⟨[], by simp, by simp⟩
  | f :: fs, h => by
    simp only [List.all_cons, Bool.and_eq_true] at h
    obtain ⟨ps, h1, h2⟩ := places_some fs h.2
    obtain ⟨s, hs⟩ := Option.isSome_iff_exists.1 h.1
    obtain ⟨inf, hi, rfl⟩ := sizeB_some hs
    refine ⟨(f.offset, inf.size) :: ps, ?_, ?_⟩
    · rw [List.mapM_cons]; simp [hi, h1]
    · intro i
      cases i with
      | zero => simp [hs]
      | succ i => simpa using h2 i

theorem hBuild_ok (hH : HDen P B ρ H w) (he : ∀ x, Den ρ (ev x) (e x)) {t : TypeId} {parts : Array (Nat × Operand)} (ho : o.op = .build t parts) : OpOk P B ρ H w ((execOp e o).run P w) (hBuild t parts P o ev H) := by
  refine ok_pure hH fun v hv => ?_
  unfold pBuild at hv
  simp only [Option.bind_eq_some_iff] at hv
  obtain ⟨z, hz, hv⟩ := hv
  obtain ⟨inf, hi, hz'⟩ := zeroB_some hz
  have fin : ∀ (out : Array Value) (cs : List AV), P.built t (parts.map fun (i, x) => (i, e x)).toList = some out → Dens ρ cs out.toList → v = .agg cs → ∃ nx y, (execOp e o).run P w = .ok nx w ∧ Nx nx y ∧ Den ρ v y := by
    intro out cs h1 h2 h3
    subst h3
    have hr := run_build w t _ out h1
    refine mk_val (y := .agg out) ?_ (by simpa using Den.agg h2)
    simp [execOp, ho, hr]
  split at hv
  · rename_i fs hu
    simp only [Option.bind_eq_some_iff] at hv
    obtain ⟨cs, hc, hv⟩ := hv
    cases hall : (fs.toList.all fun f => (sizeB P f.type).isSome) with
    | false => rw [hall] at hv; cases hv
    | true =>
      rw [hall] at hv
      cases hv
      obtain ⟨ps, h1, h2⟩ := places_some fs.toList hall
      obtain ⟨out, g1, g2⟩ := afill_parts he parts hc (rawL_dens z.cells)
      refine fin out cs ?_ g2 rfl
      unfold Program.built
      rw [hi, hu]
      simp only [hz', h1]
      rw [← g1]
      congr 1
      funext i
      have := h2 i
      simp only [fieldPlaceB]
      simpa using this
  · rename_i n el hu
    simp only [Option.bind_eq_some_iff, Option.map_eq_some_iff] at hv
    obtain ⟨s, hs, cs, hc, rfl⟩ := hv
    obtain ⟨ie, hie, rfl⟩ := sizeB_some hs
    obtain ⟨out, g1, g2⟩ := afill_parts he parts hc (rawL_dens z.cells)
    refine fin out cs ?_ g2 rfl
    unfold Program.built
    rw [hi, hu]
    simp only [hz', hie, g1]
  · cases hv

/-! ### new blocks -/
theorem ok_new (hH : HDen P B ρ H w) {r : Result Next} {v : AV} {y : Value} {k : ABlk} {ob : Obj} (c : Nat) (hr : r = .ok (.value y) (w.alloc ob)) (hd : Den (ρ.put H.next w.heap.size c) v y) (hk : BDen P (ρ.put H.next w.heap.size c) H.next k ob) :
    OpOk P B ρ H w r (.ok v (H.new k)) := fun hf => by
  obtain ⟨h1, h2⟩ := sim_new hH hf c k ob hk
  exact ⟨_, y, _, _, hr, rfl, hd, h1, h2⟩
theorem bden_exact {ρ : Env} {i : Nat} {el : TypeId} {cs : List AV} {xs : Array Value} {ro : Bool} (h : Dens ρ cs xs.toList) : BDen P ρ i (.cells el cs true false ro) (.cells xs el) := by
  have hl : xs.size = cs.length := by simpa using h.length
  refine ⟨xs, (0, 0), rfl, fun _ => rfl, ?_, fun _ => hl, fun hc => by cases hc⟩
  rw [List.take_of_length_le (by simp [hl])]
  exact h
theorem hAlloc_ok (hH : HDen P B ρ H w) {el : TypeId} (ho : o.op = .alloc el) : OpOk P B ρ H w ((execOp e o).run P w) (hAlloc el P o ev H) := by
  unfold hAlloc
  cases hz : zeroB P el with
  | none => trivial
  | some z =>
    refine ok_new hH 0 (y := .pointer (some ⟨w.heap.size, 0, none⟩)) ?_ (.ptr (Env.put_same ..)) (bden_exact (rawL_dens z.cells))
    simp [execOp, ho, Instr.alloc, run_zeroB hz, newVar, newRow]
theorem hBox_ok (hH : HDen P B ρ H w) (he : ∀ x, Den ρ (ev x) (e x)) {el : TypeId} {x : Operand} (ho : o.op = .box el x) : OpOk P B ρ H w ((execOp e o).run P w) (hBox el x P o ev H) := by
  unfold hBox
  intro hf
  have hn : ρ H.next = none := hf H.next (Nat.le_refl _) (Nat.lt_succ_self _)
  refine ok_new hH 0 (y := .pointer (some ⟨w.heap.size, 0, none⟩)) ?_ (.ptr (Env.put_same ..)) (bden_exact ((he x).cells.mono (Env.put_le hn))) hf
  simp [execOp, ho, Instr.box, newVar, newRow]
theorem zeros_eq (z : Array Value) (s : Nat) (hs : z.size = s) (h1 : 1 ≤ s) : ∀ n, ((Array.range (n * s)).map (z[· % z.size]!)).toList = (List.replicate n z.toList).flatten
  | 0 => by simp
  | n + 1 => by
    have ih := zeros_eq z s hs h1 n
    simp only [Array.toList_map, Array.toList_range] at ih ⊢
    rw [Nat.add_mul, Nat.one_mul, List.range_add, List.map_append, ih, List.replicate_succ', List.flatten_append]
    congr 1
    simp only [List.map_map, List.flatten_cons, List.flatten_nil, List.append_nil]
    apply List.ext_getElem
    · simp [hs]
    · intro i h2 h3
      have hi : i < s := by simpa using h2
      have e1 : (n * s + i) % z.size = i := by rw [hs, Nat.add_comm, Nat.add_mul_mod_self_right, Nat.mod_eq_of_lt hi]
      simp only [List.getElem_map, List.getElem_range, Function.comp_apply, e1]
      rw [getElem!_pos z i (by omega)]
      simp
theorem flat_raws (n : Nat) (z : Array Value) : (List.replicate n (rawL z)).flatten = ((List.replicate n z.toList).flatten).map AV.raw := by
  simp [rawL, List.map_flatten]
theorem hBuildSlice_ok (hH : HDen P B ρ H w) (he : ∀ x, Den ρ (ev x) (e x)) {t : TypeId} {len : Nat} {parts : Array (Nat × Operand)} (ho : o.op = .buildSlice t len parts) : OpOk P B ρ H w ((execOp e o).run P w) (hBuildSlice t len parts P o ev H) := by
  unfold hBuildSlice
  cases hv : eBuildSlice P ev t len parts H with
  | none => trivial
  | some q =>
    unfold eBuildSlice at hv
    simp only [Option.bind_eq_some_iff] at hv
    obtain ⟨el, hel, s, hs, z, hz, hv⟩ := hv
    cases hb : (Nat.ble 1 (len * s) && Nat.ble (len * s) 16777216 && Nat.beq z.cells.size s) with
    | false => rw [hb] at hv; cases hv
    | true =>
      rw [hb] at hv
      simp only [Bool.and_eq_true] at hb
      obtain ⟨⟨b1, b2⟩, b3⟩ := hb
      have b1 := Nat.le_of_ble_eq_true b1
      have b2 := Nat.le_of_ble_eq_true b2
      have b3 := Nat.eq_of_beq_eq_true b3
      simp only [cond_true, Option.map_eq_some_iff] at hv
      obtain ⟨cs, hc, rfl⟩ := hv
      obtain ⟨ie, hie, rfl⟩ := sizeB_some hs
      obtain ⟨ie', hie', hz'⟩ := zeroB_some hz
      rw [hie] at hie'; cases hie'
      have hs1 : 1 ≤ ie.size := Nat.one_le_iff_ne_zero.2 fun h0 => by rw [h0, Nat.mul_zero] at b1; omega
      have hd : Dens ρ (List.replicate len (rawL z.cells)).flatten ((Array.range (len * ie.size)).map (z.cells[· % z.cells.size]!)).toList := by
        rw [zeros_eq z.cells ie.size b3 hs1, flat_raws]; exact Dens.raws _
      obtain ⟨out, g1, g2⟩ := afill_parts he parts hc hd
      intro hf
      have hn : ρ H.next = none := hf H.next (Nat.le_refl _) (Nat.lt_succ_self _)
      refine ok_new hH 0 (y := .slice (some ⟨w.heap.size, 0, none⟩) len len) ?_ (.slice (Env.put_same ..) rfl (Nat.le_refl _)) (bden_exact (g2.mono (Env.put_le hn))) hf
      have hr := run_buildSlice (P := P) w t el len _ out ie z (elemB_some hel) hie hz' (by omega) (by omega) g1
      simp [execOp, ho, hr]
theorem hMakeSlice_ok (hH : HDen P B ρ H w) (he : ∀ x, Den ρ (ev x) (e x)) {t : TypeId} {l c : Operand} (ho : o.op = .makeSlice t l c) : OpOk P B ρ H w ((execOp e o).run P w) (hMakeSlice t l c P o ev H) := by
  unfold hMakeSlice
  cases hv : eMakeSlice P t (ev l) (ev c) H with
  | none => trivial
  | some q =>
    unfold eMakeSlice at hv
    simp only [Option.bind_eq_some_iff] at hv
    obtain ⟨el, hel, inf, hi, z, hz, ln, hl, cn, hc, hv⟩ := hv
    cases hb : (Nat.ble ln cn && Nat.ble 1 (cn * inf.size) && bounded cn inf.bytes && Nat.beq z.cells.size inf.size) with
    | false => rw [hb] at hv; cases hv
    | true =>
      rw [hb] at hv
      simp only [Bool.and_eq_true, bounded] at hb
      obtain ⟨⟨⟨b1, b2⟩, b3, b4⟩, b5⟩ := hb
      have b1 := Nat.le_of_ble_eq_true b1
      have b2 := Nat.le_of_ble_eq_true b2
      have b3 := Nat.le_of_ble_eq_true b3
      have b4 := Nat.le_of_ble_eq_true b4
      have b5 := Nat.eq_of_beq_eq_true b5
      cases hv
      obtain ⟨kl, hl'⟩ := natO_some hl
      obtain ⟨kc, hc'⟩ := natO_some hc
      have el' : e l = .int kl ln := by have := he l; rw [hl'] at this; exact this.raw_eq
      have ec' : e c = .int kc cn := by have := he c; rw [hc'] at this; exact this.raw_eq
      have hs1 : 1 ≤ inf.size := Nat.one_le_iff_ne_zero.2 fun h0 => by rw [h0, Nat.mul_zero] at b2; omega
      have hbz : (inf.bytes : Int) * (cn : Int) ≤ 281474976710656 := by
        have : ((inf.bytes * cn : Nat) : Int) ≤ 281474976710656 := by rw [Nat.mul_comm]; omega
        rwa [Int.natCast_mul] at this
      have hr := run_make (P := P) w t el inf z (elemB_some hel) hi hz kl kc ln cn (by omega) (by omega) hbz (by omega)
      simp only [Int.toNat_natCast] at hr
      refine ok_new hH 0 (ob := .cells (madeCells z.cells (cn * inf.size)) el) (y := .slice (some ⟨w.heap.size, 0, none⟩) ln cn) ?_ (.slice (Env.put_same ..) rfl b1) (bden_exact ?_)
      · simp [execOp, ho, el', ec', hr]
      · unfold madeCells
        rw [zeros_eq z.cells inf.size b5 hs1, flat_raws]; exact Dens.raws _

/-! ### loads and stores -/
theorem cells_at (hH : HDen P B ρ H w) {i b c : Nat} {el : TypeId} {cs : List AV} {exact frz ro : Bool} (hi : H.get i = some (.cells el cs exact frz ro)) (hr : ρ i = some (b, c)) :
    ∃ xs fz, w.heap[b]? = some (.cells xs el fz) ∧ (frz = false → fz = (0, 0)) ∧ Dens ρ cs (xs.toList.take cs.length) ∧ (exact = true → xs.size = cs.length) ∧ (exact = false → xs.size = c * P.cellsOf el) ∧ cs.length ≤ xs.size := by
  obtain ⟨o, h1, h2, _⟩ := hH.at hi hr
  obtain ⟨xs, fz, rfl, g2, g3, g4, g5⟩ := h2
  refine ⟨xs, fz, h1, g2, g3, g4, fun hx => ?_, ?_⟩
  · obtain ⟨b', c', e1, e2⟩ := g5 hx
    rw [hr] at e1
    cases e1
    exact e2
  · have := g3.length
    simp at this
    omega
theorem take_get {xs : Array Value} {n i : Nat} {y : Value} (h : (xs.toList.take n)[i]? = some y) : xs[i]? = some y := by
  rw [List.getElem?_take] at h
  split at h
  · simpa using h
  · cases h
theorem cell_of {b off : Nat} {xs : Array Value} {el : TypeId} {fz : Nat × Nat} (h : w.heap[b]? = some (.cells xs el fz)) : w.cell? ⟨b, off, none⟩ = xs[off]? := by simp [World.cell?, h]
theorem aload_ok {b off : Nat} {xs : Array Value} {el t : TypeId} {fz : Nat × Nat} {cs : List AV} {v : AV} (h : w.heap[b]? = some (.cells xs el fz)) (hd : Dens ρ cs (xs.toList.take cs.length)) (hv : aload P t cs off = some v) :
    ∃ y, (loadVar t ⟨b, off, none⟩).run P w = .ok y w ∧ Den ρ v y := by
  unfold aload at hv
  cases hl : lv P t with
  | no => rw [hl] at hv; cases hv
  | one =>
    rw [hl] at hv
    simp only [nth_eq] at hv
    obtain ⟨y, h1, h2⟩ := hd.get hv
    refine ⟨y, ?_, h2⟩
    simp [loadVar, run_isAggB (lv_one hl), run_load, cell_of h, take_get h1]
  | agg n =>
    rw [hl] at hv
    obtain ⟨k1, k2⟩ := lv_agg hl
    cases hb : Nat.ble (Nat.add off n) cs.length with
    | false => simp only [hb] at hv; cases hv
    | true =>
      simp only [hb] at hv
      cases hv
      have hr := run_loadCells_list (P := P) w ⟨b, off, none⟩ (((xs.toList.take cs.length).drop off).take n) (fun j y hj => by
        rw [addr_add, cell_of h]
        rw [List.getElem?_take] at hj
        split at hj
        · rw [List.getElem?_drop] at hj
          exact take_get hj
        · cases hj)
      have hlen : (((xs.toList.take cs.length).drop off).take n).length = n := by
        have := hd.length
        have hle : off + n ≤ cs.length := Nat.le_of_ble_eq_true hb
        simp only [List.length_take, List.length_drop, this] at *
        omega
      refine ⟨.agg (((xs.toList.take cs.length).drop off).take n).toArray, ?_, .agg ((hd.drop off).take n)⟩
      rw [hlen] at hr
      simp [loadVar, run_isAggB k1, run_sizeB k2, hr]
theorem hLoad_ok (hH : HDen P B ρ H w) (he : ∀ x, Den ρ (ev x) (e x)) {t : TypeId} {x : Operand} (ho : o.op = .load t x) : OpOk P B ρ H w ((execOp e o).run P w) (hLoad t x P o ev H) := by
  unfold hLoad
  cases hp : ptrV (ev x) with
  | no => trivial
  | mk i off =>
    cases hb : blkV (H.get i) with
    | no => simp only [hb]; trivial
    | mk el cs ex frz ro =>
      simp only [hb]
      have hx := he x
      rw [ptrV_mk hp] at hx
      obtain ⟨b, c, h1, h2⟩ := hx.ptr_inv
      obtain ⟨xs, fz, g1, g2, g3, _⟩ := cells_at hH (blkV_mk hb) h1
      refine ok_pure hH fun v hv => ?_
      obtain ⟨y, k1, k2⟩ := aload_ok g1 g3 hv
      exact mk_val (y := y) (by simp [execOp, ho, Instr.loadAt, h2, Instr.sureAddr, k1]) k2
theorem splice_take {α : Type} (L vs : List α) (off n : Nat) (h : off + vs.length ≤ n) (hn : n ≤ L.length) :
    (L.take off ++ vs ++ L.drop (off + vs.length)).take n = (L.take n).take off ++ vs ++ (L.take n).drop (off + vs.length) := by
  have e1 : (L.take n).take off = L.take off := by rw [List.take_take, Nat.min_eq_left (by omega)]
  rw [e1, List.take_append, List.take_of_length_le (by simp; omega)]
  congr 1
  rw [List.drop_take]
  congr 1
  simp; omega
/-- cells written over -/
theorem sim_write (hH : HDen P B ρ H w) {i b c off : Nat} {el : TypeId} {cs vs cs' : List AV} {exact : Bool} (hi : H.get i = some (.cells el cs exact false false)) (hr : ρ i = some (b, c)) (hp : aput cs off vs = some cs') {ys : List Value} (hd : Dens ρ vs ys) (h1 : allOne vs = true) :
    ∃ xs w', w.heap[b]? = some (.cells xs el (0, 0)) ∧ (storeCells ⟨b, off, none⟩ ys).run P w = .ok () w' ∧ HDen P B ρ (H.set i (.cells el cs' exact false false)) w' ∧ Stp ρ H w ρ (H.set i (.cells el cs' exact false false)) w' := by
  obtain ⟨xs, fz, g1, g2, g3, g4, g5, g6⟩ := cells_at hH hi hr
  have hfz := g2 rfl
  subst hfz
  obtain ⟨k1, k2⟩ := aput_some hp
  have hyl := hd.length
  have hst := run_storeCells_at P b off el ys 0 xs w g1 (by simp only [Nat.add_zero]; omega) (hd.one h1)
  simp only [Nat.add_zero] at hst
  obtain ⟨q1, q2⟩ := sim_set hH hi hr rfl (k := .cells el cs' exact false false) (w.setRow b (xs.toList.take off ++ ys ++ xs.toList.drop (off + ys.length)).toArray)
    (.cells (xs.toList.take off ++ ys ++ xs.toList.drop (off + ys.length)).toArray el (0, 0)) rfl rfl rfl (by simp) (setRow_heap w b xs _ el (0, 0) g1) (fun j hj => setRow_other w b j _ hj) (by
      have hlen : cs'.length = cs.length := by rw [k2]; simp; omega
      have hsz : (xs.toList.take off ++ ys ++ xs.toList.drop (off + ys.length)).toArray.size = xs.size := by simp; omega
      refine ⟨_, _, rfl, fun _ => rfl, ?_, fun hx => by rw [hsz, hlen]; exact g4 hx, fun hx => ⟨b, c, hr, by rw [hsz]; exact g5 hx⟩⟩
      show Dens ρ cs' ((xs.toList.take off ++ ys ++ xs.toList.drop (off + ys.length)).take cs'.length)
      rw [hlen, splice_take _ _ _ _ (by omega) (by simpa using g6), k2, hyl]
      exact ((g3.take off).append hd).append (g3.drop _))
  exact ⟨xs, _, g1, hst, q1, q2⟩
theorem hStore_ok (hH : HDen P B ρ H w) (he : ∀ x, Den ρ (ev x) (e x)) {t : TypeId} {x y : Operand} (ho : o.op = .store t x y) : OpOk P B ρ H w ((execOp e o).run P w) (hStore t x y P o ev H) := by
  unfold hStore
  cases hp : ptrV (ev x) with
  | no => trivial
  | mk i off =>
    cases hb : blkV (H.get i) with
    | no => simp only [hb]; trivial
    | mk el cs ex frz ro =>
      simp only [hb]
      cases ro with
      | true => trivial
      | false =>
        cases frz with
        | true => trivial
        | false =>
          have hx := he x
          rw [ptrV_mk hp] at hx
          obtain ⟨b, c, h1, h2⟩ := hx.ptr_inv
          show OpOk P B ρ H w _ (vr2 (eStore P t i off (ev y) H el cs ex))
          cases hv : eStore P t i off (ev y) H el cs ex with
          | none => trivial
          | some q =>
            unfold eStore at hv
            cases hc : (allOne (ev y).cells && sizeIs P t (ev y).cells.length) with
            | false => rw [hc] at hv; cases hv
            | true =>
              rw [hc] at hv
              simp only [cond_true, Option.map_eq_some_iff] at hv
              obtain ⟨cs', hp', rfl⟩ := hv
              rw [Bool.and_eq_true] at hc
              obtain ⟨c1, c2⟩ := hc
              unfold sizeIs at c2
              split at c2
              · rename_i n hn
                have c2 := Nat.eq_of_beq_eq_true c2
                obtain ⟨xs, w', _, k2, k3, k4⟩ := sim_write hH (blkV_mk hb) h1 hp' (he y).cells c1
                have hsz : (e y).cells.size = n := by rw [← c2, ← (he y).cells.length]; simp
                exact fun _ => ⟨ρ, undef, w', .skip, by simp [execOp, ho, Instr.storeAt, storeVar, h2, Instr.sureAddr, run_sizeB hn, hsz, k2], rfl, .raw _, k3, k4⟩
              · cases c2
end
end Go.Proofs.YtcdknjkkaonbiaaGreatDoor.Sx
