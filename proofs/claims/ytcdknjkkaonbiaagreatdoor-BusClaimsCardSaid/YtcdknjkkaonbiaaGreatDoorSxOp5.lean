/- The runner over an abstract memory: maps, conversions, append and copy. -/
import Derived.Test.YtcdknjkkaonbiaaGreatDoorSxOp4
import Derived.Deep.AppendSrc
import Derived.Lib.UnsafeStr
import Derived.Laws.IdiomStrings
import Derived.Laws.LoneSync
import Derived.MapKept
namespace Go.Proofs.YtcdknjkkaonbiaaGreatDoor.Sx
open Go.RowKit
section
variable {P : Program} {B : Nat} {ρ : Env} {H : AHeap} {w : World} {o : Oper} {ev : Ev} {e : Operand → Value}

/-! ### maps -/
theorem run_getObj_map {b : Nat} {es : Array MapEntry} {c : Nat} (h : w.heap[b]? = some (.map es c)) : (getObj b).run P w = .ok (.map es c) w := by
  simp [getObj, Sem.run, h]
theorem mLookup_ok {t : TypeId} {es : Array MapEntry} {c : Nat} {kv v : Value} {ok : Bool} {b : Nat} (h : mLookup P t es kv ok = some v) (hb : w.heap[b]? = some (.map es c)) : (Instr.lookup t (.map (some b)) kv ok).run P w = .ok v w := by
  unfold mLookup at h
  split at h
  · rename_i kt et hu
    simp only [Option.bind_eq_some_iff] at h
    obtain ⟨_, h1, r, h2, h3⟩ := h
    have e1 := runPure_run _ w h1
    have e2 := runPure_run _ w h2
    cases r with
    | none =>
      simp only [Option.map_eq_some_iff] at h3
      obtain ⟨z, hz, rfl⟩ := h3
      simp only [Instr.lookup, Sem.run_bind, run_und hu, Result.andThen_ok, run_getObj_map hb, Sem.run_pure, e1, e2, run_zeroB hz]
    | some p =>
      obtain ⟨i, v'⟩ := p
      simp only [Option.some.injEq] at h3
      subst h3
      simp only [Instr.lookup, Sem.run_bind, run_und hu, Result.andThen_ok, run_getObj_map hb, Sem.run_pure, e1, e2]
  · cases h
theorem hLookup_ok (hH : HDen P B ρ H w) (he : ∀ x, Den ρ (ev x) (e x)) {t : TypeId} {m k : Operand} {ok : Bool} (ho : o.op = .lookup t m k ok) : OpOk P B ρ H w ((execOp e o).run P w) (hLookup t m k ok P o ev H) := by
  refine ok_pure hH fun v hv => ?_
  unfold pLookup at hv
  split at hv
  · rename_i i kv hm hk
    have hm' := he m
    rw [hm] at hm'
    obtain ⟨b, c, h1, h2⟩ := hm'.map_inv
    split at hv
    · rename_i es clock hg
      simp only [Option.map_eq_some_iff] at hv
      obtain ⟨y, hy, rfl⟩ := hv
      obtain ⟨ob, g1, g2, _⟩ := hH.at hg h1
      have g2 : ob = .map es clock := g2
      subst g2
      refine mk_val (y := y) ?_ (.raw y)
      simp [execOp, ho, h2, (he k).toRaw hk, mLookup_ok hy g1]
    · cases hv
  · exact gen_ok he (by rw [ho]; rfl) hv w
theorem setObj_run {b : Nat} {es : Array MapEntry} {c : Nat} (h : w.heap[b]? = some (.map es c)) (o' : Obj) : (setObj b o').run P w = .ok () { w with heap := w.heap.setIfInBounds b o' } := by
  simp [setObj, Sem.run, h]
theorem mUpdate_ok {t : TypeId} {es es' : Array MapEntry} {c c' : Nat} {kv xv : Value} {b : Nat} (h : mUpdate P t es c kv xv = some (es', c')) (hb : w.heap[b]? = some (.map es c)) :
    (Instr.mapUpdate t (.map (some b)) kv xv).run P w = .ok () { w with heap := w.heap.setIfInBounds b (.map es' c') } := by
  unfold mUpdate at h
  split at h
  · rename_i kt et hu
    simp only [Option.bind_eq_some_iff] at h
    obtain ⟨_, h1, r, h2, h3⟩ := h
    have e1 := runPure_run _ w h1
    have e2 := runPure_run _ w h2
    cases r with
    | none =>
      simp only [Option.some.injEq, Prod.mk.injEq] at h3
      obtain ⟨rfl, rfl⟩ := h3
      simp only [Instr.mapUpdate, Sem.run_bind, run_und hu, Result.andThen_ok, run_getObj_map hb, e1, e2, setObj_run hb]
    | some p =>
      obtain ⟨i, v'⟩ := p
      simp only [Option.map_eq_some_iff, Prod.mk.injEq] at h3
      obtain ⟨k, hk, rfl, rfl⟩ := h3
      have e3 := runPure_run _ w hk
      simp only [Instr.mapUpdate, Sem.run_bind, run_und hu, Result.andThen_ok, run_getObj_map hb, e1, e2, e3, setObj_run hb]
  · cases h
theorem heap_set_other {b j : Nat} (o' : Obj) (h : j ≠ b) : (w.heap.setIfInBounds b o')[j]? = w.heap[j]? := by
  simp [Ne.symm h]
theorem heap_set_same {b : Nat} {o0 : Obj} (o' : Obj) (h : w.heap[b]? = some o0) : (w.heap.setIfInBounds b o')[b]? = some o' := by
  have := (Array.getElem?_eq_some_iff.1 h).1
  simp [this]
theorem hMapUpdate_ok' (hH : HDen P B ρ H w) (he : ∀ x, Den ρ (ev x) (e x)) {t : TypeId} {m k x : Operand} {r : Result Next} (hr : ∀ u w', (Instr.mapUpdate t (e m) (e k) (e x)).run P w = .ok u w' → r = .ok .skip w') : OpOk P B ρ H w r (hMapUpdate t m k x P o ev H) := by
  unfold hMapUpdate
  cases hv : eMapUpdate P t (ev m) (ev k) (ev x) H with
  | none => trivial
  | some q =>
    unfold eMapUpdate at hv
    split at hv
    · rename_i i kv xv hm hk hx
      have hm' := he m
      rw [hm] at hm'
      obtain ⟨b, c, h1, h2⟩ := hm'.map_inv
      split at hv
      · rename_i es clock hg
        simp only [Option.map_eq_some_iff] at hv
        obtain ⟨p, hy, rfl⟩ := hv
        obtain ⟨es', clock'⟩ := p
        obtain ⟨ob, g1, g2, _⟩ := hH.at hg h1
        have g2 : ob = .map es clock := g2
        subst g2
        have hru := mUpdate_ok (w := w) hy g1
        have hr' := hr _ _ (by rw [h2, (he k).toRaw hk, (he x).toRaw hx]; exact hru)
        obtain ⟨q1, q2⟩ := sim_set hH hg h1 rfl (k := .map es' clock') { w with heap := w.heap.setIfInBounds b (.map es' clock') } (.map es' clock') rfl rfl rfl (by simp) (heap_set_same _ g1) (fun j hj => heap_set_other _ hj) rfl
        exact fun _ => ⟨ρ, undef, _, .skip, hr', rfl, .raw _, q1, q2⟩
      · cases hv
    · cases hv
theorem hMapUpdate_ok (hH : HDen P B ρ H w) (he : ∀ x, Den ρ (ev x) (e x)) {t : TypeId} {m k x : Operand} (ho : o.op = .mapUpdate t m k x) : OpOk P B ρ H w ((execOp e o).run P w) (hMapUpdate t m k x P o ev H) :=
  hMapUpdate_ok' hH he fun u w' h => by simp [execOp, ho, h]
theorem hInsert_ok (hH : HDen P B ρ H w) (he : ∀ x, Den ρ (ev x) (e x)) {t : TypeId} {m k x : Operand} (ho : o.op = .insert t m k x) : OpOk P B ρ H w ((execOp e o).run P w) (hMapUpdate t m k x P o ev H) :=
  hMapUpdate_ok' hH he fun u w' h => by simp [execOp, ho, h]
theorem hMakeMap_ok (hH : HDen P B ρ H w) (he : ∀ x, Den ρ (ev x) (e x)) {t : TypeId} {r : Option Operand} (ho : o.op = .makeMap t r) : OpOk P B ρ H w ((execOp e o).run P w) (hMakeMap t r P o ev H) := by
  unfold hMakeMap
  have fin : (execOp e o).run P w = .ok (.value (.map (some w.heap.size))) (w.alloc (.map #[] 0)) → OpOk P B ρ H w ((execOp e o).run P w) (.ok (.map H.next) (H.new (.map #[] 0))) := fun h =>
    ok_new hH 0 h (.map (Env.put_same ..)) rfl
  unfold eMakeMap
  split
  · exact fin (by simp [execOp, ho, Instr.makeMap])
  · rename_i x
    split
    · rename_i kt et ki n hu hx
      have := he x
      rw [hx] at this
      have ex := this.raw_eq
      exact fin (by simp [execOp, ho, Instr.makeMap, run_und hu, ex, asInt, asIntOf])
    · trivial

/-! ### conversions -/
theorem bytesOf_some : ∀ {cs : List AV} {bs : List UInt8} {xs : List Value}, bytesOf cs = some bs → Dens ρ cs xs → xs = bs.map fun b => Value.int .u8 b.toNat
  | [], bs, _, h, .nil => by simp [bytesOf] at h; simp [h]
  | v :: cs, bs, _, h, .cons hv hs => by
    unfold bytesOf at h
    split at h
    · cases ‹_ :: _ = []›
    · rename_i n l hl
      cases hl
      cases hb : Nat.ble (n + 1) 256 with
      | false => rw [hb] at h; cases h
      | true =>
        rw [hb] at h
        have hb := Nat.le_of_ble_eq_true hb
        simp only [cond_true, Option.map_eq_some_iff] at h
        obtain ⟨r, hr, rfl⟩ := h
        have := bytesOf_some hr hs
        rw [hv.raw_eq, this, List.map_cons]
        congr 2
        have : (UInt8.ofNat n).toNat = n := by simp; omega
        rw [this]; rfl
    · cases h
theorem cut_cells {b off : Nat} {xs : Array Value} {el : TypeId} {fz : Nat × Nat} {n k : Nat} (h : w.heap[b]? = some (.cells xs el fz)) : ∀ (j : Nat) (y : Value), ((((xs.toList.take n).drop off).take k))[j]? = some y → w.cell? ((⟨b, off, none⟩ : Addr).add j) = some y := fun j y hj => by
  rw [addr_add, cell_of h]
  rw [List.getElem?_take] at hj
  split at hj
  · rw [List.getElem?_drop] at hj
    exact take_get hj
  · cases hj
theorem cut_length {cs : List AV} {xs : List Value} {off n : Nat} (hd : Dens ρ cs xs) (h : off + n ≤ cs.length) : ((xs.drop off).take n).length = n := by
  have := hd.length
  simp only [List.length_take, List.length_drop]
  omega
theorem shape_at {b : Nat} {xs : Array Value} {el : TypeId} {fz : Nat × Nat} (h : w.heap[b]? = some (.cells xs el fz)) : w.shape? b = some (el, xs.size) := by simp [World.shape?, h]
theorem hConvert_ok (hH : HDen P B ρ H w) (he : ∀ x, Den ρ (ev x) (e x)) {s d : TypeId} {x : Operand} (ho : o.op = .convert s d x) : OpOk P B ρ H w ((execOp e o).run P w) (hConvert s d x P o ev H) := by
  have hp : plainOp o.op = true := by rw [ho]; rfl
  have hx := he x
  have hgen : OpOk P B ρ H w ((execOp e o).run P w) (vr2 ((gen P o ev).map fun v => (v, H))) := by
    have := gen_pure (P := P) (w := w) hH he hp
    cases hg : gen P o ev with
    | none => trivial
    | some v => rw [hg] at this; exact this
  have hrun : ∀ y w', (convert s d (e x)).run P w = .ok y w' → (execOp e o).run P w = .ok (.value y) w' := fun y w' h => by simp [execOp, ho, h]
  unfold hConvert
  unfold pConvert
  split
  · rename_i i off len cap hxe
    rw [hxe] at hx
    obtain ⟨b, c, k, h1, hc, hl, h2⟩ := hx.slice_inv
    split
    · rename_i el e' cs ex frz ro hs hd hg
      split
      · rename_i hel
        cases hb : Nat.ble (off + len) cs.length with
        | false => trivial
        | true =>
          have hb := Nat.le_of_ble_eq_true hb
          simp only [cond_true]
          cases hbs : bytesOf (cut cs off len) with
          | none => trivial
          | some bs =>
            obtain ⟨xs, fz, g1, _, g3, _⟩ := cells_at hH hg h1
            have q1 := bytesOf_some hbs ((g3.drop off).take len)
            have hlen : bs.length = len := by have := cut_length g3 hb; rw [q1] at this; simpa using this
            subst hlen
            refine ok_val hH (y := .string ⟨bs.toArray⟩) (hrun _ _ ?_) (.raw _)
            rw [h2]
            refine run_convert_bytes_back w s d el ⟨b, off, none⟩ k bs hs hel hd fun j hj => ?_
            have hcut := cut_cells (n := cs.length) (k := bs.length) (off := off) g1 j (.int .u8 bs[j].toNat)
            rw [q1] at hcut
            exact hcut (by simp [hj])
      · trivial
    · trivial
  · rename_i i off hxe
    rw [hxe] at hx
    obtain ⟨b, c, h1, h2⟩ := hx.ptr_inv
    split
    · rename_i t el cs ex frz ro hs hd hg
      split
      · rename_i n hn
        cases hb : Nat.ble (off + 1) cs.length with
        | false => trivial
        | true =>
          have hb := Nat.le_of_ble_eq_true hb
          obtain ⟨xs, fz, g1, _, g3, _, _, g6⟩ := cells_at hH hg h1
          obtain ⟨inf, hi, hsz⟩ := sizeB_some hn
          refine ok_val hH (y := .pointer (some ⟨b, off, none⟩)) (hrun _ _ ?_) (.ptr h1)
          rw [h2]
          exact run_convert_to_unsafe (t := t) hs hd (by simp [hi, hsz]) (v := xs[off]'(by omega)) (by rw [cell_of g1]; exact Array.getElem?_eq_getElem (by omega))
      · trivial
    · rename_i u el cs frz ro hs hd hg
      cases hb : ((sizeB P u).isSome && liesAt P P.depth el (cs.length / P.cellsOf el) off u 1) with
      | false => trivial
      | true =>
        rw [Bool.and_eq_true] at hb
        obtain ⟨hb1, hb⟩ := hb
        obtain ⟨n, hn⟩ := Option.isSome_iff_exists.1 hb1
        obtain ⟨xs, fz, g1, _, g3, g4, _, g6⟩ := cells_at hH hg h1
        have hsz := g4 rfl
        refine ok_val hH (y := .pointer (some ⟨b, off, none⟩)) (hrun _ _ ?_) (.ptr h1)
        rw [h2]
        have hsh := shape_at g1
        rw [hsz] at hsh
        simp [convert, run_und hs, run_und hd, Conv.unsafePointer, Conv.seenAt, viewAt, hsh, run_sizeB hn, variablesAt, hb]
    · trivial
  · rename_i by_ hxe
    split
    · rename_i el hs hd
      split
      · rename_i hel
        cases hb : Nat.beq (P.cellsOf el) 1 with
        | false => trivial
        | true =>
          have hb := Nat.eq_of_beq_eq_true hb
          rw [hxe] at hx
          have ex := hx.raw_eq
          intro hf
          have hr := run_bytes_of_string (P := P) w s d el by_ hs hd hel
          obtain ⟨q1, q2⟩ := sim_new hH.drew hf (grownCap w by_.size 0 el) (.cells el (by_.data.toList.map fun x => .raw (.int .u8 x.toNat)) false true false)
            (.cells (bytesRow by_ (grownCap w by_.size 0 el)) el ((bytesRow by_ (grownCap w by_.size 0 el)).size, (bytesRow by_ (grownCap w by_.size 0 el)).size + 1)) (by
              have hge := grownCap_ge w by_.size 0 el
              refine ⟨_, _, rfl, (fun h => by cases h), ?_, (fun h => by cases h), fun _ => ⟨_, _, Env.put_same .., ?_⟩⟩
              · have e1 : (bytesRow by_ (grownCap w by_.size 0 el)).toList.take (by_.data.toList.map fun x => AV.raw (.int .u8 x.toNat)).length = by_.data.toList.map fun x => Value.int .u8 x.toNat := by
                  simp only [bytesRow, Array.toList_append, Array.toList_map, List.length_map]
                  rw [List.take_left' (by simp)]
                rw [e1]
                have := Dens.raws (ρ := ρ.put H.next w.drew.heap.size (grownCap w by_.size 0 el)) (by_.data.toList.map fun x => Value.int .u8 x.toNat)
                simpa [List.map_map, Function.comp_def] using this
              · rw [hb, Nat.mul_one]
                have hsz : by_.data.size = by_.size := rfl
                simp only [bytesRow, Array.size_append, Array.size_map, Array.size_replicate, hsz]
                omega)
          refine ⟨_, .slice (some ⟨w.heap.size, 0, none⟩) by_.size (grownCap w by_.size 0 el), _, _, hrun _ _ (by rw [ex]; exact hr), rfl, ?_, q1, q2.drew⟩
          exact .slice (Env.put_same ..) rfl (grownCap_ge w by_.size 0 el)
      · trivial
    · exact hgen
  · exact hgen
end
end Go.Proofs.YtcdknjkkaonbiaaGreatDoor.Sx
