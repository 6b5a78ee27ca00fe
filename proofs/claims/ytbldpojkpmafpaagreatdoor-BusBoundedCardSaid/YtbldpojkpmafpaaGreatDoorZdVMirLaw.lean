/- Arguments that lie in a world, as plain data. -/
import Derived.Test.YtbldpojkpmafpaaGreatDoorZdVCr
import Derived.Test.YtbldpojkpmafpaaGreatDoorZdVArr
import Derived.Test.YtbldpojkpmafpaaGreatDoorZdVPairLaw
import Derived.Test.YtbldpojkpmafpaaGreatDoorZdBusLaw2
import Derived.Test.YtbldpojkpmafpaaGreatDoorZdVArrLaw
import Derived.Test.YtbldpojkpmafpaaGreatDoorZdVRef7
import Derived.Deep.RegionWith
namespace Go.Proofs.YtbldpojkpmafpaaGreatDoor
open Go.RowKit Sv
def inF (w : World) : Env := ⟨fun i => if i < 64 then some (i, 0) else none, fun b => if 0 ≤ b then cellsOf? w b else none⟩
theorem inF_ok (w : World) : OkF w (inF w) := by
  refine ⟨fun i x h => ?_, fun g hg => ⟨0, if_pos hg⟩, fun b A h => ?_⟩
  · have h : (if i < 64 then some (i, 0) else none) = some x := h
    split at h
    · assumption
    · cases h
  · have h : (if 0 ≤ b then cellsOf? w b else none) = some A := h
    rw [if_pos (Nat.zero_le _)] at h
    exact cellsOf?_some.1 h
theorem row_den {w : World} {t : Ty} {xs : List t.den} {ys : List Value} {A : Option Addr} {c : Nat} (h : Row w w.heap.size A ys) (hd : Dens (inF w) (t.flat xs) ys) (hs : 1 ≤ t.size) (hc : xs.length ≤ c) : Den (inF w) (.lst false t xs) (.slice A xs.length c) := by
  have hlen := hd.length
  rw [t.flat_len] at hlen
  rcases h with h | ⟨b, off, rfl, hlt, hcs⟩
  · subst h
    have h0 : xs.length * t.size = 0 := hlen.symm
    have hx : xs = [] := List.length_eq_zero_iff.1 (by
      rcases Nat.mul_eq_zero.1 h0 with h | h
      · exact h
      · omega)
    subst hx
    exact .lstNil fun e => by cases e
  · by_cases hy : ys = []
    · subst hy
      have h0 : xs.length * t.size = 0 := hlen.symm
      have hx : xs = [] := List.length_eq_zero_iff.1 (by
        rcases Nat.mul_eq_zero.1 h0 with h | h
        · exact h
        · omega)
      subst hx
      exact .lstNil fun e => by cases e
    have hpos : 0 < ys.length := List.length_pos_iff.2 hy
    have h0 := hcs 0 hpos
    cases ho : w.heap[b]? with
    | none => simp [World.cell?, ho] at h0
    | some o =>
      cases o with
      | cells Arr e fr =>
        have hall : ∀ i (hi : i < ys.length), Arr[off + i]? = some ys[i] := fun i hi => by
          have := hcs i hi
          rw [cell_of ho] at this
          rw [this]
          simp [List.getD_eq_getElem?_getD, List.getElem?_eq_getElem hi]
        have hsz : off + ys.length ≤ Arr.size := by
          have := hall (ys.length - 1) (by omega)
          have := (Array.getElem?_eq_some_iff.1 this).1
          omega
        have hfl : (t.flat xs).length = ys.length := hd.length.symm
        have hys : (Arr.toList.drop off).take (t.flat xs).length = ys := by
          rw [hfl]
          apply List.ext_getElem?
          intro i
          rw [List.getElem?_take]
          by_cases hi : i < ys.length
          · rw [if_pos hi, List.getElem?_drop, Array.getElem?_toList, hall i hi, List.getElem?_eq_getElem hi]
          · rw [if_neg hi, List.getElem?_eq_none (by omega)]
        refine .lst (A := Arr) (b := b) (off := off) ?_ (by rw [hfl]; exact hsz) hys hd hc fun e => by cases e
        show (if 0 ≤ b then cellsOf? w b else none) = some Arr
        rw [if_pos (Nat.zero_le _)]; exact cellsOf?_some.2 ⟨e, fr, ho⟩
      | _ => simp [World.cell?, ho] at h0
theorem in_ints {w : World} {xs : List Int} {A : Option Addr} {c : Nat} (h : Row w w.heap.size A (xs.map (Value.int .i64))) (hc : xs.length ≤ c) : Den (inF w) (.lst false tInt xs) (.slice A xs.length c) :=
  row_den h (by rw [flat_ints]; exact Dens.raws _) (Nat.le_refl _) hc
theorem in_nets {w : World} : ∀ {l : List NetAt}, (∀ n ∈ l, Row w w.heap.size n.loc (n.cols.map (Value.int .i64))) → (∀ n ∈ l, n.cols.length ≤ n.cap) → Dens (inF w) (Ty.flat tNet (l.map NetAt.net)) (ncells l)
  | [], _, _ => .nil
  | n :: l, h, hc => by
    have e : Ty.flat tNet ((n :: l).map NetAt.net) = .raw (.int .i64 n.sh) :: .lst false tInt n.cols :: Ty.flat tNet (l.map NetAt.net) := rfl
    rw [e]
    exact .cons (.raw _) (.cons (in_ints (h n List.mem_cons_self) (hc n List.mem_cons_self)) (in_nets (fun m hm => h m (List.mem_cons_of_mem _ hm)) fun m hm => hc m (List.mem_cons_of_mem _ hm)))
end Go.Proofs.YtbldpojkpmafpaaGreatDoor

/- Arguments that lie in a world, as plain data; a law that holds for them. -/
namespace Go.Proofs.YtbldpojkpmafpaaGreatDoor
open Go.RowKit Sv
structure Arg.Nets (w : World) (A : Option Addr) (c : Nat) (l : List NetAt) : Prop where
  good : goodB (l.map NetAt.net) = true
  den : Den (inF w) (nv (l.map NetAt.net)) (.slice A l.length c)
structure Arg.Ints (w : World) (A : Option Addr) (c : Nat) (xs : List Int) : Prop where
  good : ∀ x ∈ xs, I64 x
  den : Den (inF w) (lv xs) (.slice A xs.length c)
structure Arg.Lay (w : World) (A B : Option Addr) (c e : Nat) (xs ys : List Int) : Prop where
  good : ∀ x ∈ xs, I64 x
  good2 : ∀ x ∈ ys, I64 x
  few : xs.length ≤ 140737488355328
  few2 : ys.length ≤ 140737488355328
  den : Den (inF w) (.agg [lv xs, lv ys]) (.agg #[.slice A xs.length c, .slice B ys.length e])
theorem Arg.nets {w : World} {A : Option Addr} {c : Nat} {l : List NetAt} (h : NetsIn w w.heap.size A l) (hcap : ∀ q ∈ l, q.cols.length ≤ q.cap) (hc : l.length ≤ c) : Arg.Nets w A c l := by
  refine ⟨goodB_iff.2 fun x hx => ?_, ?_⟩
  · obtain ⟨q, hq, rfl⟩ := List.mem_map.1 hx
    exact ⟨h.ints q hq, h.few q hq⟩
  · have := row_den (t := tNet) (xs := l.map NetAt.net) h.row (in_nets h.cols hcap) (by decide) (by rw [List.length_map]; exact hc)
    rwa [List.length_map] at this
theorem Arg.ints {w : World} {A : Option Addr} {c : Nat} {xs : List Int} (h : Row w w.heap.size A (xs.map (Value.int .i64))) (hi : ∀ x ∈ xs, I64 x) (hc : xs.length ≤ c) : Arg.Ints w A c xs := ⟨hi, in_ints h hc⟩
theorem Arg.lay {w : World} {A B : Option Addr} {c e : Nat} {xs ys : List Int} (h : Row w w.heap.size A (xs.map (Value.int .i64))) (h2 : Row w w.heap.size B (ys.map (Value.int .i64))) (hi : ∀ x ∈ xs, I64 x) (hj : ∀ x ∈ ys, I64 x) (hc : xs.length ≤ c) (he : ys.length ≤ e)
    (hl : xs.length ≤ 140737488355328) (hm : ys.length ≤ 140737488355328) : Arg.Lay w A B c e xs ys := ⟨hi, hj, hl, hm, .agg (.cons (in_ints h hc) (.cons (in_ints h2 he) .nil))⟩
theorem call_true {f : FuncId} {args : List AV} (h : Holds Tryz.prog true f args (bv true)) {w : World} {vs : List Value} (hd : Dens (inF w) args vs) : Calls Tryz.prog f vs.toArray w fun e w' => e = .returned (.bool true) ∧ Below w.heap.size w w' :=
  (h w (inF w) vs (inF_ok w) hd).mono fun e w' ⟨x, F', h1, h2, _, _, h5⟩ => by
    rw [h2.raw_eq] at h1
    exact ⟨h1, h5⟩
end Go.Proofs.YtbldpojkpmafpaaGreatDoor

/- The reference of chapter 7: Arrange. -/
namespace Go.Proofs.YtbldpojkpmafpaaGreatDoor
open Go.RowKit Sv
set_option maxRecDepth 100000
set_option linter.unusedVariables false
noncomputable section
def hB : List Nat := [1,1,1,1,1,0,1,0,0]
def hC : List Nat := [1,1,1,1,1,0,1,0,0,1,0,0]
def hD : List Nat := [1,1,1,1,1,0,1,0,0,1,0,0,1,0,1,0,0]
end
end Go.Proofs.YtbldpojkpmafpaaGreatDoor

/- integraphlaw07.BusArranges: the walk. -/
namespace Go.Proofs.YtbldpojkpmafpaaGreatDoor
open Go.RowKit Sv
set_option maxRecDepth 100000
set_option linter.unusedVariables false
noncomputable section
def widR (ts : List Int) : Int := ((cntUp ts ts.length : Nat) : Int)
noncomputable def cWid : Ctr := { f := 27, ps := [.pair (.list false (.int .i64)) (.list false (.int .i64))], rs := [.int .i64], fresh := true, pre := fun d => decide (List.length (α := Int) d.1.2 ≤ 1000000), fn := fun d => (widR d.1.2, ()) }
theorem cWid_ok : cWid.Ok Tryz.prog := cWidth_ok
theorem wid_len (ts : List Int) : (trkU ts).length = cntUp ts ts.length := by
  obtain ⟨D, h1, h2, h3⟩ := cnt_spec ts ts.length (Nat.le_refl _)
  rw [List.take_length] at h3
  rw [← h2]
  refine ((List.perm_ext_iff_of_nodup (asc_nodup (trkU_ok ts).1) h1).2 fun v => ?_).length_eq
  rw [(trkU_ok ts).2 v, h3 v]
end
end Go.Proofs.YtbldpojkpmafpaaGreatDoor

/- The numbers of the tracks, in plain Lean: what does not depend on them. -/
namespace Go.Proofs.YtbldpojkpmafpaaGreatDoor
open Go.RowKit Sv
set_option linter.unusedVariables false
structure Pat (a b : List Int) : Prop where
  len : a.length = b.length
  eq : ∀ i k, i < a.length → k < a.length → (a.getD i 0 = a.getD k 0 ↔ b.getD i 0 = b.getD k 0)
theorem Pat.symm {a b : List Int} (h : Pat a b) : Pat b a := ⟨h.len.symm, fun i k hi hk => (h.eq i k (by rw [h.len]; exact hi) (by rw [h.len]; exact hk)).symm⟩
theorem Pat.trans {a b c : List Int} (h : Pat a b) (g : Pat b c) : Pat a c := ⟨h.len.trans g.len, fun i k hi hk => (h.eq i k hi hk).trans (g.eq i k (by rw [← h.len]; exact hi) (by rw [← h.len]; exact hk))⟩
def carry (a b : List Int) (v : Int) : Int := b.getD (a.idxOf v) 0
theorem at_idx {a : List Int} {v : Int} (h : v ∈ a) : a.idxOf v < a.length ∧ a.getD (a.idxOf v) 0 = v := by
  have h1 : a.idxOf v < a.length := List.idxOf_lt_length_iff.2 h
  exact ⟨h1, by rw [getD_lt h1]; exact List.getElem_idxOf h1⟩
theorem carry_at {a b : List Int} (h : Pat a b) {k : Nat} (hk : k < a.length) : carry a b (a.getD k 0) = b.getD k 0 := by
  have hm : a.getD k 0 ∈ a := by rw [getD_lt hk]; exact List.getElem_mem _
  obtain ⟨h1, h2⟩ := at_idx hm
  exact (h.eq _ k h1 hk).1 h2
theorem carry_iff {a b : List Int} (h : Pat a b) {v : Int} (hv : v ∈ a) {k : Nat} (hk : k < a.length) : b.getD k 0 = carry a b v ↔ a.getD k 0 = v := by
  obtain ⟨h1, h2⟩ := at_idx hv
  unfold carry
  rw [← h.eq k _ hk h1, h2]
theorem carry_mem {a b : List Int} (h : Pat a b) {v : Int} (hv : v ∈ a) : carry a b v ∈ b := by
  obtain ⟨h1, h2⟩ := at_idx hv
  unfold carry
  rw [getD_lt (by rw [← h.len]; exact h1)]
  exact List.getElem_mem _
theorem carry_inj {a b : List Int} (h : Pat a b) {v w : Int} (hv : v ∈ a) (hw : w ∈ a) (e : carry a b v = carry a b w) : v = w := by
  obtain ⟨h1, h2⟩ := at_idx hv
  have := (carry_iff h hw h1).1 e
  rw [h2] at this
  exact this
theorem nodup_map {α β : Type} {f : α → β} : ∀ {l : List α}, l.Nodup → (∀ x ∈ l, ∀ y ∈ l, f x = f y → x = y) → (l.map f).Nodup
  | [], _, _ => List.nodup_nil
  | x :: l, h, hi => by
    obtain ⟨h1, h2⟩ := List.nodup_cons.1 h
    refine List.nodup_cons.2 ⟨fun hm => ?_, nodup_map h2 fun y hy z hz => hi y (List.mem_cons_of_mem _ hy) z (List.mem_cons_of_mem _ hz)⟩
    obtain ⟨y, hy, e⟩ := List.mem_map.1 hm
    have := hi y (List.mem_cons_of_mem _ hy) x List.mem_cons_self e
    subst this
    exact h1 hy
theorem mem_trkU {ts : List Int} {x : Int} : x ∈ trkU ts ↔ x ∈ ts := (trkU_ok ts).2 x
theorem trkU_nd (ts : List Int) : (trkU ts).Nodup := asc_nodup (trkU_ok ts).1
theorem carry_perm {a b : List Int} (h : Pat a b) : ((trkU a).map (carry a b)).Perm (trkU b) := by
  have nd : ((trkU a).map (carry a b)).Nodup := nodup_map (trkU_nd a) fun x hx y hy e => carry_inj h (mem_trkU.1 hx) (mem_trkU.1 hy) e
  refine (List.perm_ext_iff_of_nodup nd (trkU_nd b)).2 fun x => ⟨fun hx => ?_, fun hx => ?_⟩
  · obtain ⟨v, hv, rfl⟩ := List.mem_map.1 hx
    exact mem_trkU.2 (carry_mem h (mem_trkU.1 hv))
  · have hx := mem_trkU.1 hx
    obtain ⟨h1, h2⟩ := at_idx hx
    have hk : b.idxOf x < a.length := by rw [h.len]; exact h1
    refine List.mem_map.2 ⟨a.getD (b.idxOf x) 0, mem_trkU.2 (by rw [getD_lt hk]; exact List.getElem_mem _), ?_⟩
    rw [carry_at h hk, h2]
theorem pat_num {a b : List Int} (h : Pat a b) : (trkU a).length = (trkU b).length := by
  have := (carry_perm h).length_eq
  rwa [List.length_map] at this
section
variable {nets : List (Int × List Int)} {n : Int} {order ts : List Int}
theorem trO_pat {to : List Int} (ho : IsOrd (trkU ts).length to) : Pat ts (trO (trkU ts) ts to) := by
  refine ⟨(trO_len _ _ _).symm, fun i k hi hk => ?_⟩
  rw [trO_at hi, trO_at hk]
  have hmi : ts.getD i 0 ∈ trkU ts := mem_trkU.2 (by rw [getD_lt hi]; exact List.getElem_mem _)
  have hmk : ts.getD k 0 ∈ trkU ts := mem_trkU.2 (by rw [getD_lt hk]; exact List.getElem_mem _)
  obtain ⟨i1, i2, _⟩ := idx_of (trkU_nd ts) hmi
  obtain ⟨k1, k2, _⟩ := idx_of (trkU_nd ts) hmk
  rw [ord_at ho i1 k1]
  exact ⟨fun e => by rw [e], fun e => by rw [← i2, e, k2]⟩
theorem pat_to {a b : List Int} (h : Pat a b) {to : List Int} (ho : IsOrd (trkU a).length to) : ∃ to2, IsOrd (trkU b).length to2 ∧ trO (trkU b) b to2 = trO (trkU a) a to := by
  have hp := trO_pat ho
  have hpb : Pat b (trO (trkU a) a to) := h.symm.trans hp
  have hb : ∀ t ∈ trO (trkU a) a to, 0 ≤ t ∧ t < (trkU b).length := fun t ht => by
    unfold trO at ht
    obtain ⟨x, hx, rfl⟩ := List.mem_map.1 ht
    have := (idx_of (trkU_nd a) (mem_trkU.2 hx)).1
    have := ord_bd ho this
    rw [← pat_num h]; exact this
  refine ⟨(trkU b).map (carry b (trO (trkU a) a to)), ⟨by rw [List.length_map], fun x hx => ?_, nodup_map (trkU_nd b) fun x hx y hy e => carry_inj hpb (mem_trkU.1 hx) (mem_trkU.1 hy) e⟩, ?_⟩
  · obtain ⟨v, hv, rfl⟩ := List.mem_map.1 hx
    exact hb _ (carry_mem hpb (mem_trkU.1 hv))
  · refine List.ext_getElem (by rw [trO_len, trO_len, h.len]) fun k h1 h2 => ?_
    have hk : k < b.length := by rw [trO_len] at h1; exact h1
    have hm : b.getD k 0 ∈ trkU b := mem_trkU.2 (by rw [getD_lt hk]; exact List.getElem_mem _)
    have e1 := trO_at (u := trkU b) (ts := b) (to := (trkU b).map (carry b (trO (trkU a) a to))) hk
    rw [getD_lt h1] at e1
    rw [e1, ← getD_lt h2]
    obtain ⟨g1, g2, _⟩ := idx_of (trkU_nd b) hm
    rw [getD_lt (by rw [List.length_map]; exact g1), List.getElem_map, ← getD_lt g1, g2]
    exact carry_at hpb hk
theorem best_pat {a b : List Int} (h : Pat a b) : aBest a (bestA nets order a) = aBest b (bestA nets order b) := by
  obtain ⟨p, hp, hp2⟩ := bestA_some nets order a
  obtain ⟨q, hq, hq2⟩ := bestA_some nets order b
  rw [hp, hq]
  show trO (trkU a) a p = trO (trkU b) b q
  obtain ⟨p', h1, h2⟩ := pat_to h hp2
  obtain ⟨q', g1, g2⟩ := pat_to h.symm hq2
  have l1 := bestOf_least (arrKey nets order a) lexB lexB_ord _ p hp q' ((ord_mem _ _).2 g1)
  have l2 := bestOf_least (arrKey nets order b) lexB lexB_ord _ q hq p' ((ord_mem _ _).2 h1)
  have e1 : arrKey nets order b p' = arrKey nets order a p := by unfold arrKey; rw [h2]
  have e2 : arrKey nets order a q' = arrKey nets order b q := by unfold arrKey; rw [g2]
  rw [e2] at l1
  rw [e1] at l2
  have := lexB_eq (by unfold arrKey; simp [trO_len, h.len]) l2 l1
  unfold arrKey at this
  exact (List.cons.inj this).2
theorem cross_iso (hE : Bus.bothErr nets n order = 0) {a b : List Int} (h : ∀ i k, i < nets.length → k < nets.length → (a.getD i 0 < a.getD k 0 ↔ b.getD i 0 < b.getD k 0)) : crossOf nets order a manyI = crossOf nets order b manyI := by
  rw [show manyI = 1099511627776 from rfl, cross_sum hE, cross_sum hE, crossSum_sm, crossSum_sm]
  refine sm_congr fun x hx => sm_congr fun k hk => ?_
  have hx2 := tap_ok (Bus.atUp order order.length) (nets.map Prod.snd) x (by omega)
  rw [List.length_map] at hx2
  rw [extsOf_len] at hk
  simp only [h k _ hk hx2]
def idO (m : Nat) : List Int := (List.range m).map fun (k : Nat) => (k : Int)
theorem idO_ord (m : Nat) : IsOrd m (idO m) := ⟨by unfold idO; simp, fun x hx => by
  obtain ⟨k, hk, rfl⟩ := List.mem_map.1 hx
  have := List.mem_range.1 hk
  omega, nodup_map_cast m⟩
theorem idO_at {m k : Nat} (h : k < m) : (idO m).getD k 0 = k := by
  unfold idO
  rw [getD_lt (by simpa using h)]
  simp
theorem best_le (hE : Bus.bothErr nets n order = 0) (hl : ts.length = nets.length) : crossOf nets order (aBest ts (bestA nets order ts)) manyI ≤ crossOf nets order ts manyI := by
  obtain ⟨p, hp, hp2⟩ := bestA_some nets order ts
  rw [hp]
  show crossOf nets order (trO (trkU ts) ts p) manyI ≤ _
  have l1 := bestOf_least (arrKey nets order ts) lexB lexB_ord _ p hp (idO (trkU ts).length) ((ord_mem _ _).2 (idO_ord _))
  have e : crossOf nets order (trO (trkU ts) ts (idO (trkU ts).length)) manyI = crossOf nets order ts manyI := by
    refine cross_iso hE fun i k hi hk => ?_
    have hi : i < ts.length := by omega
    have hk : k < ts.length := by omega
    rw [trO_at hi, trO_at hk]
    obtain ⟨i1, i2, _⟩ := idx_of (trkU_nd ts) (mem_trkU.2 (show ts.getD i 0 ∈ ts by rw [getD_lt hi]; exact List.getElem_mem _))
    obtain ⟨k1, k2, _⟩ := idx_of (trkU_nd ts) (mem_trkU.2 (show ts.getD k 0 ∈ ts by rw [getD_lt hk]; exact List.getElem_mem _))
    rw [idO_at i1, idO_at k1]
    have := asc_lt (trkU_ok ts).1 k1 i1
    rw [i2, k2] at this
    rw [this]
    omega
  unfold arrKey at l1
  rw [e] at l1
  have h2 : ¬ crossOf nets order ts manyI < crossOf nets order (trO (trkU ts) ts p) manyI := fun hlt => by
    rw [lexB_cons.2 (.inl hlt)] at l1; cases l1
  omega
theorem sm_le {f g : Nat → Int} : ∀ {n : Nat}, (∀ k, k < n → f k ≤ g k) → sm f n ≤ sm g n
  | 0, _ => Int.le_refl _
  | n + 1, h => by
    have h1 := sm_le (n := n) fun k hk => h k (by omega)
    have h2 := h n (by omega)
    show sm f n + f n ≤ sm g n + g n
    omega
theorem mn_le (x y : Int) : mn x y ≤ x := by
  show (if y < x then y else x) ≤ x
  split <;> omega
theorem mn_comm (x y : Int) : mn x y = mn y x := by
  show (if y < x then y else x) = if x < y then x else y
  split <;> split <;> omega
theorem bnd_le (hE : Bus.bothErr nets n order = 0) (hl : ts.length = nets.length) : bndP (tabOf nets order ts) (trkU ts).length ≤ crossOf nets order ts manyI := by
  rw [bnd_same hE, show manyI = 1099511627776 from rfl, crs_same hE (trkU_ok ts).1 fun k hk => mem_trkU.2 (by rw [getD_lt (by omega)]; exact List.getElem_mem _)]
  exact sm_le fun i hi => sm_le fun k hk => mn_le _ _
def gPair (nets : List (Int × List Int)) (order ts : List Int) (v w : Int) : Int := if v = w then 0 else mn (tabF nets order ts v w) (tabF nets order ts w v)
theorem gPair_comm (v w : Int) : gPair nets order ts v w = gPair nets order ts w v := by
  unfold gPair
  by_cases e : v = w
  · rw [if_pos e, if_pos e.symm]
  · rw [if_neg e, if_neg (fun h => e h.symm), mn_comm]
theorem sm_mul2 (f : Nat → Int) : ∀ n, sm (fun k => 2 * f k) n = 2 * sm f n
  | 0 => rfl
  | n + 1 => by rw [sm, sm, sm_mul2 f n]; omega
theorem sm_pairs (g : Nat → Nat → Int) (hs : ∀ i k, g i k = g k i) (hd : ∀ i, g i i = 0) : ∀ m, sm (fun i => sm (g i) m) m = 2 * sm (fun i => sm (g i) i) m
  | 0 => rfl
  | m + 1 => by
    have e1 : ∀ i, sm (g i) (m + 1) = sm (g i) m + g i m := fun i => rfl
    show sm (fun i => sm (g i) (m + 1)) m + sm (g m) (m + 1) = 2 * (sm (fun i => sm (g i) i) m + sm (g m) m)
    rw [sm_congr fun i _ => e1 i, sm_add, sm_pairs g hs hd m, e1, hd, sm_congr (f := fun i => g i m) fun i _ => hs i m]
    omega
theorem bnd_pairs (ts : List Int) : 2 * bndP (tabOf nets order ts) (trkU ts).length = isum ((trkU ts).map fun v => isum ((trkU ts).map fun w => gPair nets order ts v w)) := by
  have e0 : ∀ v, isum ((trkU ts).map fun w => gPair nets order ts v w) = sm (fun k => gPair nets order ts v ((trkU ts).getD k 0)) (trkU ts).length := fun v => isum_sm _ _
  rw [isum_sm, sm_congr fun i _ => e0 _, sm_pairs (fun i k => gPair nets order ts ((trkU ts).getD i 0) ((trkU ts).getD k 0)) (fun i k => gPair_comm _ _) (fun i => if_pos rfl)]
  congr 1
  refine sm_congr fun i hi => ?_
  unfold bndPRow
  refine sm_congr fun k hk => ?_
  rw [tab_at hi (by omega), tab_at (by omega) hi]
  unfold gPair
  rw [if_neg]
  intro e
  have := asc_lt (trkU_ok ts).1 hi (show k < (trkU ts).length by omega)
  omega
theorem tab_pat {a b : List Int} (h : Pat a b) (hl : a.length = nets.length) {v w : Int} (hv : v ∈ a) (hw : w ∈ a) : tabF nets order b (carry a b v) (carry a b w) = tabF nets order a v w := by
  unfold tabF
  rw [tabI_sm, tabI_sm]
  refine sm_congr fun x hx => sm_congr fun k hk => ?_
  have hx2 := tap_ok (Bus.atUp order order.length) (nets.map Prod.snd) x (by omega)
  rw [List.length_map] at hx2
  rw [extsOf_len] at hk
  unfold hitI
  have h1 := carry_iff h hv (k := k) (by omega)
  have h2 := carry_iff h hw (k := ((tapFrom (Bus.atUp order order.length) 0 (nets.map Prod.snd)).getD x (0, 0)).1) (by omega)
  have h3 := h.eq k ((tapFrom (Bus.atUp order order.length) 0 (nets.map Prod.snd)).getD x (0, 0)).1 (by omega) (by omega)
  simp only [h1, h2, ne_eq, h3]
theorem g_pat {a b : List Int} (h : Pat a b) (hl : a.length = nets.length) {v w : Int} (hv : v ∈ a) (hw : w ∈ a) : gPair nets order b (carry a b v) (carry a b w) = gPair nets order a v w := by
  unfold gPair
  by_cases e : v = w
  · rw [if_pos e, if_pos (by rw [e])]
  · rw [if_neg e, if_neg (fun h2 => e (carry_inj h hv hw h2)), tab_pat h hl hv hw, tab_pat h hl hw hv]
theorem bnd_pat {a b : List Int} (h : Pat a b) (hl : a.length = nets.length) : bndP (tabOf nets order a) (trkU a).length = bndP (tabOf nets order b) (trkU b).length := by
  have h1 := bnd_pairs (nets := nets) (order := order) a
  have h2 := bnd_pairs (nets := nets) (order := order) b
  have hp := carry_perm h
  have e : isum ((trkU b).map fun v => isum ((trkU b).map fun w => gPair nets order b v w)) = isum ((trkU a).map fun v => isum ((trkU a).map fun w => gPair nets order a v w)) := by
    rw [← isum_perm (hp.map _), List.map_map]
    congr 1
    refine List.map_congr_left fun v hv => ?_
    show isum ((trkU b).map fun w => gPair nets order b (carry a b v) w) = _
    rw [← isum_perm (hp.map _), List.map_map]
    congr 1
    exact List.map_congr_left fun w hw => g_pat h hl (mem_trkU.1 hv) (mem_trkU.1 hw)
  omega
end
end Go.Proofs.YtbldpojkpmafpaaGreatDoor

/- The columns in the opposite order, in plain Lean. -/
namespace Go.Proofs.YtbldpojkpmafpaaGreatDoor
open Go.RowKit Sv
set_option linter.unusedVariables false
section
variable {nets : List (Int × List Int)} {n : Int} {order ts : List Int}
theorem conf_pat (xs : List (Int × Int)) {a b : List Int} (hp : Pat a b) : ∀ i, i ≤ a.length → conf xs b i = conf xs a i
  | 0, _ => rfl
  | i + 1, hi => by
    have hr : ∀ k, k ≤ a.length → confRow xs b i k = confRow xs a i k := fun k => by
      induction k with
      | zero => intro _; rfl
      | succ k ih =>
        intro hk
        unfold confRow
        rw [ih (by omega)]
        have := hp.eq i k (by omega) (by omega)
        congr 1
        congr 1
        first
          | (exact decide_eq_decide.2 this.symm)
          | (rw [Bool.eq_iff_iff, beq_iff_eq, beq_iff_eq]; exact this.symm)
    unfold conf
    rw [conf_pat xs hp i (by omega), hr i (by omega)]
theorem lay_pat (h : layErr nets n order ts = 0) {b : List Int} (hp : Pat ts b) (hb : ∀ t ∈ b, 0 ≤ t ∧ t < 64) : layErr nets n order b = 0 := by
  have hE := both_of_lay h
  obtain ⟨l1, l2, l3⟩ := lay_zero hE h
  unfold layErr
  rw [if_neg (fun g => g hE), if_neg (fun g => g (by rw [← hp.len]; exact l1))]
  have hf : farB b = false := by
    unfold farB
    rw [List.any_eq_false]
    intro t ht
    have := hb t ht
    simp
    omega
  rw [hf, if_neg Bool.false_ne_true]
  have e3 : conf (extsOf nets order) b nets.length = conf (extsOf nets order) ts nets.length := conf_pat _ hp _ (by omega)
  have e4 : conf (Bus.exts (Bus.atUp order order.length) nets) b nets.length = false := by
    show conf (extsOf nets order) b nets.length = false
    rw [e3]; exact l3
  rw [e4, if_neg Bool.false_ne_true]
end
end Go.Proofs.YtbldpojkpmafpaaGreatDoor
