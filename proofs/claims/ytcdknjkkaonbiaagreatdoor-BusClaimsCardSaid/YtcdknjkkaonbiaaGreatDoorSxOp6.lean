/- The runner over an abstract memory: append, copy, other built-ins; calls; any operation. -/
import Derived.Test.YtcdknjkkaonbiaaGreatDoorSxOp5
namespace Go.Proofs.YtcdknjkkaonbiaaGreatDoor.Sx
open Go.RowKit
section
variable {P : Program} {B : Nat} {ρ : Env} {H : AHeap} {w : World} {o : Oper} {ev : Ev} {e : Operand → Value}

theorem src_ok (hH : HDen P B ρ H w) {s n : Nat} {x : AV} {y : Value} {news : List AV} {tx : TypeId} (hk : (∃ e', P.underlying tx = some (.slice e')) ∨ P.underlying tx = some .string) (h : src H s x = some (news, n)) (hx : Den ρ x y) :
    ∃ ys, Dens ρ news ys ∧ ys.length = n * s ∧ ((∀ u ∈ ys, u.oneCell' = true) → Go.Src P s tx y n ys w) := by
  unfold src at h
  split at h
  · rename_i c
    cases h
    have := hx.raw_eq; subst this
    exact ⟨[], .nil, by simp, fun _ => ⟨hk, fun _ => rfl, run_firstCells_none w s 0 0 c, run_firstCells_none w.drew s 0 0 c, by simp, fun _ h => by cases h⟩⟩
  · rename_i b
    cases hs : Nat.beq s 1 with
    | false => rw [hs] at h; cases h
    | true =>
      rw [hs] at h
      cases h
      have hs := Nat.eq_of_beq_eq_true hs
      subst hs
      have := hx.raw_eq; subst this
      have hd := Dens.raws (ρ := ρ) (byteCells b)
      refine ⟨byteCells b, ?_, by rw [byteCells_length, Nat.mul_one], fun h1 => ⟨hk, fun _ => rfl, firstCells_string b w, firstCells_string b w.drew, by rw [byteCells_length, Nat.mul_one], h1⟩⟩
      simpa [byteCells, List.map_map, Function.comp_def] using hd
  · rename_i i off len cap
    split at h
    · rename_i el cs ex frz ro hg
      cases hb : Nat.ble (off + len * s) cs.length with
      | false => rw [hb] at h; cases h
      | true =>
        rw [hb] at h
        cases h
        have hb := Nat.le_of_ble_eq_true hb
        obtain ⟨b, c, k, h1, _, _, rfl⟩ := hx.slice_inv
        obtain ⟨xs, fz, g1, _, g3, _⟩ := cells_at hH hg h1
        have hl := cut_length g3 hb
        refine ⟨_, (g3.drop off).take (n * s), hl, fun ho => ⟨hk, fun _ => rfl, run_firstCells_some w s n ⟨b, off, none⟩ n k _ hl (cut_cells g1), run_firstCells_some w.drew s n ⟨b, off, none⟩ n k _ hl (cut_cells (w := w.drew) g1), hl, ho⟩⟩
    · cases h
  · cases h

theorem append_none {t tx ty el : TypeId} {i : TypeInfo} (ht : P.underlying t = some (.slice el)) (hi : P.info? el = some i) {y : Value} (hs : Go.Src P i.size tx y 0 [] w) (base : Option Addr) {len k : Nat} (hl : len ≤ k) :
    (Builtin.append_ #[t, tx] ty #[.slice base len k, y]).run P w = .ok (.slice base len k) w := by
  rcases hs.kind with ⟨e', hk⟩ | hk <;> cases base <;> simp [Builtin.append_, run_underlying ht, run_underlying hk, sizeOf, typeInfo, hi, hs.len, hs.cells, hl, storeCells]
theorem append_room {t tx ty el : TypeId} {i : TypeInfo} (ht : P.underlying t = some (.slice el)) (hi : P.info? el = some i) {y : Value} {n : Nat} {ys : List Value} (hs : Go.Src P i.size tx y n ys w) {b len k : Nat} (hr : len + n ≤ k) {w' : World}
    (hst : (storeCells ⟨b, len * i.size, none⟩ ys).run P w = .ok () w') : (Builtin.append_ #[t, tx] ty #[.slice (some ⟨b, 0, none⟩) len k, y]).run P w = .ok (.slice (some ⟨b, 0, none⟩) (len + n) k) w' := by
  rcases hs.kind with ⟨e', hk⟩ | hk <;> simp [Builtin.append_, run_underlying ht, run_underlying hk, sizeOf, typeInfo, hi, hs.len, hr, hs.cells, Addr.add_lit, hst]

/-- the operation of a built-in -/
theorem run_builtin {b : Builtin} {args : Array Operand} {argTypes : Array TypeId} (ho : o.op = .call { callee := .builtin b, args, argTypes }) {nx : Next} {w' : World}
    (h : ∀ cs, (builtin b argTypes o.type cs (args.map e)).run P w = .ok nx w') : (execOp e o).run P w = .ok nx w' := by
  simp only [execOp, ho, resolve, Sem.run_bind, Sem.run_pure, Result.andThen_ok, invoke]
  exact h _

theorem bden_grown {ρ : Env} {i b c : Nat} {el : TypeId} {cs : List AV} {xs : Array Value} {zs : Array Value} (hr : ρ i = some (b, c)) (h : Dens ρ cs xs.toList) (hsz : (xs ++ zs).size = c * P.cellsOf el) : BDen P ρ i (.cells el cs false false false) (.cells (xs ++ zs) el) := by
  refine ⟨_, (0, 0), rfl, fun _ => rfl, ?_, (fun h => by cases h), fun _ => ⟨b, c, hr, hsz⟩⟩
  rw [Array.toList_append, List.take_left' h.length]
  exact h
theorem cells_size {el : TypeId} {i : TypeInfo} (hi : P.info? el = some i) : P.cellsOf el = i.size := by simp [Program.cellsOf, hi]

/-- the cells are laid anew behind a growing append -/
theorem sim_grow (hH : HDen P B ρ H w) (hf : Fr ρ H.next (H.next + 1)) {el : TypeId} {i : TypeInfo} {z : Value} (hi : P.info? el = some i) (hz : z.cells.size = i.size) {cs : List AV} {xs : List Value} (hd : Dens ρ cs xs) {need old : Nat} (hl : xs.length = need * i.size) :
    HDen P B (ρ.put H.next w.heap.size (grownCap w need old el)) (H.new (.cells el cs false false false)) (w.drew.alloc (.cells (xs.toArray ++ Builtin.zeroCells z.cells (grownCap w need old el - need)) el)) ∧
      Stp ρ H w (ρ.put H.next w.heap.size (grownCap w need old el)) (H.new (.cells el cs false false false)) (w.drew.alloc (.cells (xs.toArray ++ Builtin.zeroCells z.cells (grownCap w need old el - need)) el)) := by
  have hn : ρ H.next = none := hf H.next (Nat.le_refl _) (Nat.lt_succ_self _)
  obtain ⟨q1, q2⟩ := sim_new hH.drew hf (grownCap w need old el) (.cells el cs false false false) (.cells (xs.toArray ++ Builtin.zeroCells z.cells (grownCap w need old el - need)) el)
    (bden_grown (P := P) (Env.put_same ..) ((show Dens ρ cs xs.toArray.toList by simpa using hd).mono (Env.put_le hn)) (by
      have hge := grownCap_ge w need old el
      rw [cells_size hi]
      simp only [Array.size_append, List.size_toArray, size_zeroCells, hz, hl, ← Nat.add_mul]
      congr 1; omega))
  exact ⟨q1, q2.drew⟩

theorem growfits {need old bytes : Nat} (h : old < need) (hb : need * bytes ≤ 140737488355328) : Builtin.nextslicecap need old * bytes ≤ 281474976710656 := growslice_fits h hb

theorem agrow_ok (hH : HDen P B ρ H w) {t tx ty el : TypeId} {i : TypeInfo} {z : Value} (ht : P.underlying t = some (.slice el)) (hi : P.info? el = some i) (hz : i.zero = some z) (hzs : z.cells.size = i.size) {y : Value} {n : Nat} {ys : List Value} (hs : Go.Src P i.size tx y n ys w)
    {news : List AV} (hd : Dens ρ news ys) (h1 : allOne news = true) {id len : Nat} {cap : Cap} {xv : Value} (hx : Den ρ (.slice id 0 len cap) xv) {q : AV × AHeap} (hv : agrow el i.size i.bytes id len cap news n H = some q) (hf : Fr ρ H.next q.2.next) :
    ∃ ρ' x w', (Builtin.append_ #[t, tx] ty #[xv, y]).run P w = .ok x w' ∧ Den ρ' q.1 x ∧ HDen P B ρ' q.2 w' ∧ Stp ρ H w ρ' q.2 w' := by
  unfold agrow at hv
  cases hb : bounded (len + n) i.bytes with
  | false => rw [hb] at hv; cases hv
  | true =>
    rw [hb] at hv
    simp only [bounded, Bool.and_eq_true] at hb
    have b1 := Nat.le_of_ble_eq_true hb.1
    have b2 := Nat.le_of_ble_eq_true hb.2
    simp only [cond_true] at hv
    split at hv
    · rename_i e' cs exact_ hg
      cases hb3 : (Nat.beq el e' && Nat.ble (len * i.size) cs.length) with
      | false => rw [hb3] at hv; cases hv
      | true =>
        rw [hb3] at hv
        rw [Bool.and_eq_true] at hb3
        have b3 := Nat.eq_of_beq_eq_true hb3.1
        have b4 := Nat.le_of_ble_eq_true hb3.2
        subst b3
        simp only [cond_true] at hv
        obtain ⟨b, c, k, g1, gc, gl, rfl⟩ := hx.slice_inv
        obtain ⟨xs, fz, k1, k2, k3, k4, k5, k6⟩ := cells_at hH hg g1
        have hfz := k2 rfl
        subst hfz
        -- the elements that were there
        have holdl : ((xs.toList.take cs.length).take (len * i.size)).length = len * i.size := by
          have := k3.length
          rw [List.length_take, this]; omega
        have hold : Dens ρ (cs.take (len * i.size)) ((xs.toList.take cs.length).take (len * i.size)) := k3.take _
        have hfirst := run_firstCells_some (P := P) w.drew i.size len ⟨b, 0, none⟩ len k _ holdl (fun j v hj => by
          rw [List.take_take] at hj
          have := take_get (n := min (len * i.size) cs.length) hj
          rw [addr_add]
          show w.cell? _ = _
          rw [cell_of k1]; simpa using this)
        have hys := hs.newsLen
        -- the way that lays a new row
        have grow : k < len + n → ∀ H0 : AHeap, HDen P B ρ H0 w → Stp ρ H w ρ H0 w → H0.next = H.next → q = (.slice H0.next 0 (len + n) .full, H0.new (.cells el (cs.take (len * i.size) ++ news) false false false)) →
            ∃ ρ' x w', (Builtin.append_ #[t, tx] ty #[.slice (some ⟨b, 0, none⟩) len k, y]).run P w = .ok x w' ∧ Den ρ' q.1 x ∧ HDen P B ρ' q.2 w' ∧ Stp ρ H w ρ' q.2 w' := by
          intro hlt H0 hH0 hst0 hnx hq
          subst hq
          have hf' : Fr ρ H0.next (H0.next + 1) := by rw [hnx]; have : (H0.new (.cells el (cs.take (len * i.size) ++ news) false false false)).next = H0.next + 1 := rfl; rw [this, hnx] at hf; exact hf
          have hr := run_append_grow_src (P := P) w t tx ty el i z ht hi hz (some ⟨b, 0, none⟩) len k _ hfirst y n ys hs hlt (by omega) (growfits hlt b1)
          obtain ⟨q1, q2⟩ := sim_grow hH0 hf' (need := len + n) (old := k) hi hzs (hold.append hd) (by rw [List.length_append, holdl, hys, Nat.add_mul])
          exact ⟨_, _, _, hr, .slice (Env.put_same ..) rfl (grownCap_ge w (len + n) k el), q1, hst0.trans q2⟩
        cases cap with
        | known c' =>
          have hkc : k = c' := gc
          subst hkc
          simp only at hv
          cases hb5 : Nat.ble (len + n) k with
          | true =>
            rw [hb5] at hv
            have b5 := Nat.le_of_ble_eq_true hb5
            simp only [cond_true, Option.map_eq_some_iff] at hv
            obtain ⟨cs', hp, rfl⟩ := hv
            obtain ⟨_, w', _, r2, r3, r4⟩ := sim_write hH hg g1 hp hd h1
            exact ⟨ρ, _, w', append_room ht hi hs b5 r2, .slice g1 rfl b5, r3, r4⟩
          | false =>
            rw [hb5] at hv
            simp only [cond_false, Option.some.injEq] at hv
            have hlt : k < len + n := by
              refine Nat.lt_of_not_le fun hh => ?_
              rw [Nat.ble_eq_true_of_le hh] at hb5; cases hb5
            exact grow hlt H hH (Stp.refl _ _ _) rfl hv.symm
        | full =>
          have hkc : k = c := gc
          subst hkc
          cases exact_ with
          | true => cases hv
          | false =>
            simp only [cond_false, Option.some.injEq] at hv
            by_cases hlt : k < len + n
            · obtain ⟨d1, d2⟩ := sim_drop hH id
              exact grow hlt (H.drop id) d1 d2 rfl hv.symm
            · have hle : len + n ≤ k := Nat.le_of_not_lt hlt
              subst hv
              have hxs := k5 rfl
              have hsz : len * i.size + ys.length ≤ xs.size := by
                rw [hxs, cells_size hi, hys, ← Nat.add_mul]; exact Nat.mul_le_mul_right _ hle
              have hst := run_storeCells_at P b (len * i.size) el ys 0 xs w k1 (by simpa using hsz) hs.one
              simp only [Nat.add_zero] at hst
              have hn : ρ H.next = none := hf H.next (Nat.le_refl _) (Nat.lt_succ_self _)
              obtain ⟨r3, r4⟩ := sim_move hH hf hg g1 rfl (k := .cells el (cs.take (len * i.size) ++ news) false false false) (w.setRow b (xs.toList.take (len * i.size) ++ ys ++ xs.toList.drop (len * i.size + ys.length)).toArray)
                (.cells (xs.toList.take (len * i.size) ++ ys ++ xs.toList.drop (len * i.size + ys.length)).toArray el (0, 0)) rfl rfl rfl (by simp) (setRow_heap w b xs _ el (0, 0) k1) (fun j hj => setRow_other w b j _ hj) (by
                  refine ⟨_, _, rfl, fun _ => rfl, ?_, (fun h => by cases h), fun _ => ⟨b, k, Env.put_same .., ?_⟩⟩
                  · have e1 : (xs.toList.take cs.length).take (len * i.size) = xs.toList.take (len * i.size) := by rw [List.take_take, Nat.min_eq_left b4]
                    have hd' := (hold.append hd)
                    rw [e1] at hd'
                    have e2 : ((xs.toList.take (len * i.size) ++ ys ++ xs.toList.drop (len * i.size + ys.length)).toArray.toList).take (cs.take (len * i.size) ++ news).length = xs.toList.take (len * i.size) ++ ys := by
                      show (xs.toList.take (len * i.size) ++ ys ++ xs.toList.drop (len * i.size + ys.length)).take _ = _
                      exact List.take_left' hd'.length
                    rw [e2]
                    exact hd'.mono (Env.put_le hn)
                  · rw [← hxs]; simp; omega)
              exact ⟨_, _, _, append_room ht hi hs hle hst, .slice (Env.put_same ..) rfl hle, r3, r4⟩
        | any => cases hv
    · cases hv
theorem aappend_ok (hH : HDen P B ρ H w) {t tx ty : TypeId} (hk : (∃ e', P.underlying tx = some (.slice e')) ∨ P.underlying tx = some .string) {s x : AV} {sv y : Value} (hs : Den ρ s sv) (hx : Den ρ x y) {q : AV × AHeap} (hv : aappend P t s x H = some q) (hf : Fr ρ H.next q.2.next) :
    ∃ ρ' r w', (Builtin.append_ #[t, tx] ty #[sv, y]).run P w = .ok r w' ∧ Den ρ' q.1 r ∧ HDen P B ρ' q.2 w' ∧ Stp ρ H w ρ' q.2 w' := by
  unfold aappend at hv
  simp only [Option.bind_eq_some_iff] at hv
  obtain ⟨el, hel, i, hi, z, hz, hv⟩ := hv
  have ht := elemB_some hel
  cases hb : (Nat.beq z.cells.size i.size && Nat.ble 1 i.size) with
  | false => rw [hb] at hv; cases hv
  | true =>
    rw [hb] at hv
    rw [Bool.and_eq_true] at hb
    have b1 := Nat.eq_of_beq_eq_true hb.1
    have b2 := Nat.le_of_ble_eq_true hb.2
    simp only [cond_true, Option.bind_eq_some_iff] at hv
    obtain ⟨sn, hsn, hv⟩ := hv
    obtain ⟨news, n⟩ := sn
    obtain ⟨ys, g1, g2, g3⟩ := src_ok hH hk hsn hx
    cases hz0 : Nat.beq n 0 with
    | true =>
      simp only [hz0, cond_true] at hv
      have hn := Nat.eq_of_beq_eq_true hz0
      subst hn
      have hys : ys = [] := List.eq_nil_of_length_eq_zero (by simpa using g2)
      subst hys
      have hs' := g3 (fun _ h => by cases h)
      split at hv
      · cases hv
        have := hs.raw_eq; subst this
        exact ⟨ρ, _, w, append_none ht hi hs' none (Nat.le_refl 0), .raw _, hH, Stp.refl _ _ _⟩
      · cases hv
        obtain ⟨b, c, k, k1, _, k2, rfl⟩ := hs.slice_inv
        exact ⟨ρ, _, w, append_none ht hi hs' _ k2, hs, hH, Stp.refl _ _ _⟩
      · cases hv
    | false =>
      simp only [hz0, cond_false] at hv
      cases h1 : allOne news with
      | false => simp only [h1, cond_false] at hv; cases hv
      | true =>
        simp only [h1, cond_true] at hv
        have hs' := g3 (g1.one h1)
        split at hv
        · have := hs.raw_eq; subst this
          cases hbd : bounded n i.bytes with
          | false => rw [hbd] at hv; cases hv
          | true =>
            rw [hbd] at hv
            cases hv
            simp only [bounded, Bool.and_eq_true] at hbd
            have c1 := Nat.le_of_ble_eq_true hbd.1
            have c2 := Nat.le_of_ble_eq_true hbd.2
            have hn0 : 0 < n := Nat.pos_of_ne_zero fun hh => by subst hh; cases hz0
            have hr := run_append_grow_src (P := P) w t tx ty el i z ht hi hz none 0 0 [] (run_firstCells_none w.drew i.size 0 0 0) y n ys hs' (by omega) (by omega) (growfits (by omega) (by simpa using c1))
            obtain ⟨q1, q2⟩ := sim_grow hH hf (need := n) (old := 0) hi b1 g1 g2
            simp only [Nat.zero_add, List.nil_append] at hr
            exact ⟨_, _, _, hr, .slice (Env.put_same ..) rfl (grownCap_ge w n 0 el), q1, q2⟩
        · exact agrow_ok hH ht hi hz b1 hs' g1 h1 hs hv hf
        · cases hv

theorem acopy_ok (hH : HDen P B ρ H w) {t tx ty : TypeId} {d x : AV} {dv y : Value} (hd : Den ρ d dv) (hx : Den ρ x y) {q : AV × AHeap} (hv : acopy P t d x H = some q) :
    ∃ r w', (Builtin.copy_ #[t, tx] ty #[dv, y]).run P w = .ok r w' ∧ Den ρ q.1 r ∧ HDen P B ρ q.2 w' ∧ Stp ρ H w ρ q.2 w' := by
  unfold acopy at hv
  simp only [Option.bind_eq_some_iff] at hv
  obtain ⟨el, hel, s, hs, hv⟩ := hv
  have ht := elemB_some hel
  obtain ⟨i, hi, rfl⟩ := sizeB_some hs
  split at hv
  · rename_i j offj n cj id off len cap
    simp only [Option.bind_eq_some_iff] at hv
    obtain ⟨sn, hsn, hv⟩ := hv
    obtain ⟨news, n'⟩ := sn
    split at hv
    · rename_i e' cs ex hg
      cases h1 : allOne (news.take (Nat.min n len * i.size)) with
      | false => simp only [h1, cond_false] at hv; cases hv
      | true =>
        simp only [h1, cond_true, Option.map_eq_some_iff] at hv
        obtain ⟨cs', hp, rfl⟩ := hv
        -- the source
        unfold src at hsn
        simp only at hsn
        split at hsn
        · rename_i el2 cs2 ex2 frz2 ro2 hg2
          cases hb : Nat.ble (offj + n * i.size) cs2.length with
          | false => rw [hb] at hsn; cases hsn
          | true =>
            rw [hb] at hsn
            cases hsn
            have hb := Nat.le_of_ble_eq_true hb
            obtain ⟨b2, c2, k2, p1, _, _, rfl⟩ := hx.slice_inv
            obtain ⟨b, c, k, g1, _, _, rfl⟩ := hd.slice_inv
            obtain ⟨xs2, fz2, m1, _, m3, _⟩ := cells_at hH hg2 p1
            have hmin : Nat.min n len * i.size ≤ n * i.size := Nat.mul_le_mul_right _ (Nat.min_le_left _ _)
            have hcut : (cut cs2 offj (n * i.size)).take (Nat.min n len * i.size) = cut cs2 offj (Nat.min n len * i.size) := by
              simp only [cut]; rw [List.take_take, Nat.min_eq_left hmin]
            rw [hcut] at hp h1
            have hdn : Dens ρ (cut cs2 offj (Nat.min n len * i.size)) (((xs2.toList.take cs2.length).drop offj).take (Nat.min n len * i.size)) := (m3.drop offj).take _
            have hl := cut_length m3 (off := offj) (n := Nat.min n len * i.size) (by omega)
            have hf := run_firstCells_some (P := P) w i.size (Nat.min n len) ⟨b2, offj, none⟩ n k2 _ hl (cut_cells m1)
            obtain ⟨_, w', _, r2, r3, r4⟩ := sim_write hH hg g1 hp hdn h1
            refine ⟨goInt (Nat.min n len), w', ?_, .raw _, r3, r4⟩
            simp [Builtin.copy_, run_und ht, Builtin.lenOf, run_sizeB hs, hf, r2]
        · cases hsn
    · cases hv
  · rename_i id off len cap
    cases hv
    obtain ⟨b, c, k, g1, _, _, rfl⟩ := hd.slice_inv
    have := hx.raw_eq; subst this
    exact ⟨goInt 0, w, by simp [Builtin.copy_, run_und ht, Builtin.lenOf, Builtin.firstCells, run_sizeB hs, storeCells], .raw _, hH, Stp.refl _ _ _⟩
  · cases hv

theorem heap_freeze {b n : Nat} {xs : Array Value} {el : TypeId} {fz : Nat × Nat} (h : w.heap[b]? = some (.cells xs el fz)) : (∃ fz', (w.freeze ⟨b, 0, none⟩ n).heap[b]? = some (.cells xs el fz')) ∧ ∀ j, j ≠ b → (w.freeze ⟨b, 0, none⟩ n).heap[j]? = w.heap[j]? := by
  unfold World.freeze
  split
  · exact ⟨⟨fz, h⟩, fun _ _ => rfl⟩
  · obtain ⟨lo, hi⟩ := fz
    refine ⟨⟨_, by simp only [Array.getElem?_modify, h]; rfl⟩, fun j hj => ?_⟩
    simp only [Array.getElem?_modify]
    rw [if_neg (Ne.symm hj)]
theorem freeze_fix (n : Nat) (a : Addr) : (w.freeze a n).os = w.os ∧ (w.freeze a n).tape = w.tape ∧ (w.freeze a n).output = w.output ∧ (w.freeze a n).heap.size = w.heap.size := by
  unfold World.freeze; split <;> simp
theorem eUnsafeString_ok (hH : HDen P B ρ H w) {pt it ty : TypeId} {x n : AV} {y nv : Value} (hx : Den ρ x y) (hn : Den ρ n nv) {q : AV × AHeap} (hv : eUnsafeString P pt x n H = some q) :
    ∃ r w', (Builtin.unsafeString_ #[pt, it] ty #[y, nv]).run P w = .ok r w' ∧ Den ρ q.1 r ∧ HDen P B ρ q.2 w' ∧ Stp ρ H w ρ q.2 w' := by
  unfold eUnsafeString at hv
  split at hv
  · rename_i i
    split at hv
    · rename_i m
      split at hv
      · rename_i el e' cs ex frz hp hg
        cases hb : (Nat.beq el e' && Nat.beq (P.cellsOf el) 1 && Nat.ble 1 m && Nat.ble m cs.length && Nat.ble m 140737488355328) with
        | false => rw [hb] at hv; cases hv
        | true =>
          rw [hb] at hv
          simp only [Bool.and_eq_true] at hb
          obtain ⟨⟨⟨⟨b1, b2⟩, b3⟩, b4⟩, b5⟩ := hb
          have b1 := Nat.eq_of_beq_eq_true b1
          have b2 := Nat.eq_of_beq_eq_true b2
          have b3 := Nat.le_of_ble_eq_true b3
          have b4 := Nat.le_of_ble_eq_true b4
          have b5 := Nat.le_of_ble_eq_true b5
          subst b1
          simp only [cond_true, Option.map_eq_some_iff] at hv
          obtain ⟨bs, hbs, rfl⟩ := hv
          obtain ⟨b, c, h1, rfl⟩ := hx.ptr_inv
          have := hn.raw_eq; subst this
          obtain ⟨xs, fz, g1, _, g3, g4, g5, g6⟩ := cells_at hH hg h1
          have q1 := bytesOf_some hbs (g3.take m)
          have hlen : bs.length = m := by
            have h9 := congrArg List.length q1
            have := g3.length
            rw [List.length_take, this, List.length_map] at h9
            omega
          subst hlen
          have hr := Lib.run_unsafeString_row (P := P) w pt it ty el hp b2 b xs.size (shape_at g1) bs (by intro hh; subst hh; simp at b3) (by omega) (by omega) (fun j x hj => by
            rw [addr_add, cell_of g1]
            refine take_get (n := cs.length) ?_
            have h9 : ((xs.toList.take cs.length).take bs.length)[j]? = some (.int .u8 x.toNat) := by rw [q1]; simp [hj]
            rw [List.getElem?_take] at h9
            split at h9
            · simpa using h9
            · cases h9)
          obtain ⟨⟨fz', f1⟩, f2⟩ := heap_freeze (n := bs.length) g1
          obtain ⟨e1, e2, e3, e4⟩ := freeze_fix (w := w) bs.length ⟨b, 0, none⟩
          obtain ⟨r3, r4⟩ := sim_set hH hg h1 rfl (k := .cells el cs ex true false) _ _ e1 e2 e3 e4 f1 f2 ⟨xs, fz', rfl, (fun h => by cases h), g3, g4, fun hx => ⟨b, c, h1, g5 hx⟩⟩
          exact ⟨_, _, hr, .raw _, r3, r4⟩
      · cases hv
    · cases hv
  · cases hv
/-! ### calls -/
/-- what of the program the runner leans on -/
structure Known (P : Program) : Prop where
  noGo : ∀ (f : FuncId) (fn : Func), P.funcs[f]? = some fn → fn.body.isSome = true → (fn.name == "runtime.NumGoroutine") = false
  noEscape : ∀ (f : FuncId) (fn : Func), P.funcs[f]? = some fn → fn.body = none → (fn.name == "internal/abi.NoEscape") = true → ∀ x w, (callFunc f #[x]).run P w = .ok (.value x) w
  makeNoZero : ∀ (f : FuncId) (fn : Func) (t el : TypeId), P.funcs[f]? = some fn → fn.body = none → (fn.name == "internal/bytealg.MakeNoZero") = true → fn.resultTypes[0]? = some t → P.underlying t = some (.slice el) → ∀ (n : Nat) w, n ≤ 140737488355328 →
    ∃ cs : Array Value, n ≤ cs.size ∧ (callFunc f #[.int .i64 n]).run P w = .ok (.value (.slice (some ⟨w.heap.size, 0, none⟩) n cs.size)) (w.drew.drew.alloc (.cells cs el))

theorem run_callFunc (hK : Known P) {f : FuncId} {fn : Func} {c : Code} (hf : P.funcs[f]? = some fn) (hb : fn.body = some c) (args : Array Value) (w : World) : (callFunc f args).run P w = .ok (.enter f args) w := by
  have h1 : ¬ fn.name = "runtime.NumGoroutine" := by simpa using hK.noGo f fn hf (by simp [hb])
  simp [callFunc, hf, h1, hb]

theorem aextern_ok (hK : Known P) (hH : HDen P B ρ H w) {f : FuncId} {fn : Func} (hf : P.funcs[f]? = some fn) (hb : fn.body = none) {args : List AV} {xs : List Value} (hd : Dens ρ args xs) : OpOk P B ρ H w ((callFunc f xs.toArray).run P w) (vr2 (aextern P f fn args H)) := by
  unfold aextern
  cases hr : AV.toRaws args with
  | some vs =>
    have hxs := hd.toRaws hr
    subst hxs
    simp only
    split
    · rename_i v hv
      exact ok_val hH (runPure_run _ w hv) (.raw v)
    · cases hn : fn.name == "internal/bytealg.MakeNoZero" with
      | false => simp only [cond_false]; trivial
      | true =>
        simp only [cond_true]
        split
        · rename_i n t ht
          cases hel : elemB P t with
          | none => trivial
          | some el =>
            simp only [Option.bind_some]
            cases hbb : (Nat.ble n 140737488355328 && Nat.beq (P.cellsOf el) 1) with
            | false => simp only [cond_false]; trivial
            | true =>
              simp only [cond_true]
              rw [Bool.and_eq_true] at hbb
              have b1 := Nat.le_of_ble_eq_true hbb.1
              have b2 := Nat.eq_of_beq_eq_true hbb.2
              have hx : xs = [.int .i64 n] := by
                cases hd with
                | cons h1 h2 => cases h2 with
                  | nil => rw [h1.raw_eq]; rfl
              subst hx
              obtain ⟨cs, c1, c2⟩ := hK.makeNoZero f fn t el hf hb hn ht (elemB_some hel) n w b1
              intro hfr
              obtain ⟨q1, q2⟩ := sim_new hH.drew.drew hfr cs.size (.cells el [] false false false) (.cells cs el) ⟨cs, (0, 0), rfl, fun _ => rfl, by simpa using Dens.nil, (fun h => by cases h), fun _ => ⟨_, _, Env.put_same .., by rw [b2, Nat.mul_one]⟩⟩
              exact ⟨_, _, _, _, c2, rfl, .slice (Env.put_same ..) rfl c1, q1, q2.drew.drew⟩
        · trivial
  | none =>
    simp only
    split
    · rename_i x
      cases hn : fn.name == "internal/abi.NoEscape" with
      | false => simp only [cond_false]; trivial
      | true =>
        simp only [cond_true]
        cases hd with
        | cons h1 h2 => cases h2 with
          | nil => exact ok_val hH (hK.noEscape f fn hf hb hn _ w) h1
    · trivial

theorem aenter_ok (hK : Known P) (hH : HDen P B ρ H w) {f : FuncId} {args : List AV} {xs : List Value} (hd : Dens ρ args xs) : OpOk P B ρ H w ((callFunc f xs.toArray).run P w) (aenter P f args H) := by
  unfold aenter
  cases hf : P.funcs[f]? with
  | none => trivial
  | some fn =>
    simp only
    cases hb : fn.body with
    | none => exact aextern_ok hK hH hf hb hd
    | some c => exact ⟨rfl, xs, run_callFunc hK hf hb xs.toArray w, hd⟩

theorem acallee_ok (hK : Known P) (hH : HDen P B ρ H w) {fv : AV} {v : Value} (hv : Den ρ fv v) {args : List AV} {xs : List Value} (hd : Dens ρ args xs) {r : Result Next}
    (hr : ∀ fn (first captured : Array Value), v = .func fn first captured → r = (invoke (.fn fn captured) (first ++ xs.toArray)).run P w) : OpOk P B ρ H w r (acallee P fv args H) := by
  have arr : ∀ a b c : List Value, a.toArray ++ b.toArray ++ c.toArray = (a ++ b ++ c).toArray := fun a b c => by simp
  unfold acallee
  split
  · rename_i x
    have := hv.raw_eq; subst this
    cases hg : rawG v with
    | fn f =>
      simp only
      unfold rawG at hg
      split at hg
      · rename_i fn
        unfold fnV at hg
        split at hg
        · rename_i f'
          cases hg
          rw [hr _ _ _ rfl]
          have e1 : (⟨[]⟩ : Array Value) ++ xs.toArray = xs.toArray := by apply Array.ext'; simp
          have e2 : xs.toArray ++ (⟨[]⟩ : Array Value) = xs.toArray := by apply Array.ext'; simp
          show OpOk P B ρ H w ((callFunc f ((⟨[]⟩ : Array Value) ++ xs.toArray ++ (⟨[]⟩ : Array Value))).run P w) _
          rw [e1, e2]
          exact aenter_ok hK hH hd
        · cases hg
      · cases hg
    | no =>
      simp only
      split
      · rename_i f first captured
        rw [hr _ _ _ rfl]
        show OpOk P B ρ H w ((callFunc f (first ++ xs.toArray ++ captured)).run P w) _
        have e1 : first ++ xs.toArray ++ captured = (first.toList ++ xs ++ captured.toList).toArray := by apply Array.ext'; simp
        rw [e1]
        exact aenter_ok hK hH (((rawL_dens first).append hd).append (rawL_dens captured))
      · trivial
  · rename_i f first captured
    obtain ⟨fs, cs, g1, g2, rfl⟩ := hv.func_inv
    rw [hr _ _ _ rfl]
    show OpOk P B ρ H w ((callFunc f (fs.toArray ++ xs.toArray ++ cs.toArray)).run P w) _
    rw [arr]
    exact aenter_ok hK hH ((g1.append hd).append g2)
  · rename_i i
    obtain ⟨b, c, g1, rfl⟩ := hv.yield_inv
    refine ⟨rfl, b, c, xs, g1, ?_, hd⟩
    rw [hr _ _ _ rfl]
    have e1 : (#[] : Array Value) ++ xs.toArray = xs.toArray := by apply Array.ext'; simp
    rw [e1]
    rfl
  · trivial
end
end Go.Proofs.YtcdknjkkaonbiaaGreatDoor.Sx
