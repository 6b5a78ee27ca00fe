/- Plain data of the runner's, as the contracts of package bus have them: integers, nets. -/
import Derived.Test.YtkjjnnbbicoljaaGreatDoorSvUse
import Derived.Test.YtkjjnnbbicoljaaGreatDoorBusMem
import Derived.Test.YtkjjnnbbicoljaaGreatDoorBusClique
namespace Go.Proofs.YtkjjnnbbicoljaaGreatDoor
open Go.RowKit Sv

abbrev tInt : Ty := .int .i64
abbrev tInts : Ty := .list false tInt
abbrev tNet : Ty := .pair tInt tInts
abbrev tNets : Ty := .list false tNet
theorem flat_ints (xs : List Int) : Ty.flat tInt xs = (xs.map (Value.int .i64)).map AV.raw := by
  induction xs with
  | nil => rfl
  | cons x r ih => rw [Ty.flat_cons, ih]; rfl
theorem dens_raws {F : Env} : ∀ {vs ys : List Value}, Dens F (vs.map AV.raw) ys → ys = vs
  | [], _, h => by cases h; rfl
  | v :: vs, _, h => by
    cases h with
    | cons h1 h2 => rw [h1.raw_eq, dens_raws h2]
/-- cells that lie in a block -/
theorem row_of_cells {w : World} {b off : Nat} {A : Array Value} {e : TypeId} {fr : Nat × Nat} {ys : List Value} (hb : w.heap[b]? = some (.cells A e fr)) (hy : (A.toList.drop off).take ys.length = ys) : Row w w.heap.size (some ⟨b, off, none⟩) ys := by
  refine .inr ⟨b, off, rfl, (Array.getElem?_eq_some_iff.1 hb).1, fun i hi => ?_⟩
  rw [cell_of hb]
  have h1 : ys[i]? = some ys[i] := List.getElem?_eq_getElem hi
  have h2 : ((A.toList.drop off).take ys.length)[i]? = some ys[i] := by rw [hy]; exact h1
  rw [List.getElem?_take, if_pos hi, List.getElem?_drop] at h2
  rw [List.getD_eq_getElem?_getD, h1]
  simpa using h2
theorem den_row {F : Env} {w : World} {z : Bool} {t : Ty} {xs : List t.den} {x : Value} (hF : OkF w F) (h : Den F (.lst z t xs) x) :
    ∃ A c ys, x = .slice A xs.length c ∧ xs.length ≤ c ∧ Dens F (t.flat xs) ys ∧ Row w w.heap.size A ys := by
  rcases h.lst_inv with ⟨rfl, a, k, rfl, _⟩ | ⟨b, off, k, A, h1, h2, h3, h4, rfl, _⟩
  · exact ⟨a, k, [], rfl, Nat.zero_le _, .nil, .inl rfl⟩
  · obtain ⟨e, fr, hb⟩ := hF.fz b A h1
    refine ⟨_, k, _, rfl, h4, h3, row_of_cells hb ?_⟩
    rw [h3.length]
theorem den_ints {F : Env} {w : World} {xs : List Int} {x : Value} (hF : OkF w F) (h : Den F (.lst false tInt xs) x) : ∃ A c, x = .slice A xs.length c ∧ xs.length ≤ c ∧ Row w w.heap.size A (xs.map (Value.int .i64)) := by
  obtain ⟨A, c, ys, h1, h2, h3, h4⟩ := den_row hF h
  rw [flat_ints] at h3
  rw [dens_raws h3] at h4
  exact ⟨A, c, h1, h2, h4⟩
theorem dens_net {F : Env} {w : World} (hF : OkF w F) : ∀ {nets : List (Int × List Int)} {ys : List Value}, Dens F (Ty.flat tNet nets) ys → ∃ l : List NetAt, l.map NetAt.net = nets ∧ ys = ncells l ∧ ∀ n ∈ l, Row w w.heap.size n.loc (n.cols.map (Value.int .i64))
  | [], ys, h => by cases h; exact ⟨[], rfl, rfl, fun _ h => by cases h⟩
  | n :: nets, ys, h => by
    have e : Ty.flat tNet (n :: nets) = .raw (.int .i64 n.1) :: .lst false tInt n.2 :: Ty.flat tNet nets := rfl
    rw [e] at h
    cases h with
    | cons h1 h2 =>
      cases h2 with
      | cons h2 h3 =>
        obtain ⟨l, g1, g2, g3⟩ := dens_net hF h3
        obtain ⟨A, c, rfl, _, g4⟩ := den_ints hF h2
        refine ⟨⟨n.1, n.2, A, c⟩ :: l, by rw [List.map_cons, g1]; rfl, by rw [h1.raw_eq, g2]; rfl, fun m hm => ?_⟩
        rcases List.mem_cons.1 hm with rfl | hm
        · exact g4
        · exact g3 m hm
/-- nets whose numbers are ints, with no very long list -/
def GoodNets (nets : List (Int × List Int)) : Prop := ∀ n ∈ nets, (I64 n.1 ∧ ∀ c ∈ n.2, I64 c) ∧ n.2.length ≤ 140737488355328
theorem den_nets {F : Env} {w : World} {nets : List (Int × List Int)} {x : Value} (hF : OkF w F) (hg : GoodNets nets) (h : Den F (.lst false tNet nets) x) :
    ∃ A c l, x = .slice A (l : List NetAt).length c ∧ l.map NetAt.net = nets ∧ NetsIn w w.heap.size A l := by
  obtain ⟨A, c, ys, rfl, _, h3, h4⟩ := den_row hF h
  obtain ⟨l, g1, rfl, g3⟩ := dens_net hF h3
  have hlen : nets.length = l.length := by rw [← g1, List.length_map]
  refine ⟨A, c, l, by rw [hlen], g1, ⟨h4, g3, fun n hn => ?_, fun n hn => ?_⟩⟩
  · exact (hg n.net (by rw [← g1]; exact List.mem_map_of_mem hn)).2
  · exact (hg n.net (by rw [← g1]; exact List.mem_map_of_mem hn)).1
/-- a new row of integers that is handed back -/
theorem ints_den {w' : World} {n0 : Nat} {at' : Nat → Option (Nat × Nat)} {xs : List Int} {A : Option Addr} {c : Nat} (h : Row w' w'.heap.size A (xs.map (Value.int .i64))) (hf : xs = [] ∨ FreshA n0 A) (hc : xs.length ≤ c) :
    Den ⟨at', fun b => if n0 ≤ b then cellsOf? w' b else none⟩ (.lst false tInt xs) (.slice A xs.length c) := by
  by_cases hx : xs = []
  · subst hx; exact .lstNil fun e => by cases e
  · have hf := hf.resolve_left hx
    rcases h with h | ⟨b, off, rfl, hlt, hcs⟩
    · exact absurd (List.map_eq_nil_iff.1 h) hx
    · have hb := hf b off rfl
      have hpos : 0 < xs.length := List.length_pos_iff.2 hx
      have h0 := hcs 0 (by simpa using hpos)
      cases ho : w'.heap[b]? with
      | none => simp [World.cell?, ho] at h0
      | some o =>
        cases o with
        | cells Arr e fr =>
          have hall : ∀ i, i < xs.length → Arr[off + i]? = some (Value.int .i64 (xs.getD i 0)) := fun i hi => by
            have := hcs i (by simpa using hi)
            rw [cell_of ho] at this
            rw [this]
            simp [List.getD_eq_getElem?_getD, List.getElem?_eq_getElem hi]
          have hlen : (Ty.flat tInt xs).length = xs.length := by rw [flat_ints]; simp
          have hsz : off + xs.length ≤ Arr.size := by
            have := hall (xs.length - 1) (by omega)
            have := (Array.getElem?_eq_some_iff.1 this).1
            omega
          have hys : (Arr.toList.drop off).take (Ty.flat tInt xs).length = xs.map (Value.int .i64) := by
            rw [hlen]
            apply List.ext_getElem?
            intro i
            rw [List.getElem?_take]
            by_cases hi : i < xs.length
            · rw [if_pos hi, List.getElem?_drop]
              have := hall i hi
              simp only [Array.getElem?_toList, this]
              simp [List.getD_eq_getElem?_getD, List.getElem?_eq_getElem hi]
            · rw [if_neg hi, List.getElem?_eq_none (by simp; omega)]
          refine .lst (A := Arr) (b := b) (off := off) ?_ (by rw [hlen]; exact hsz) hys (by rw [flat_ints]; exact Dens.raws _) hc fun e => by cases e
          show (if n0 ≤ b then cellsOf? w' b else none) = some Arr
          rw [if_pos hb]; exact cellsOf?_some.2 ⟨e, fr, ho⟩
        | _ => simp [World.cell?, ho] at h0
/-- a contract that leaves integers, booleans alone -/
theorem holds_raw {f : FuncId} {args : List AV} {v : Value} {fresh : Bool} (h : ∀ (w : World) (F : Env) (xs : List Value), OkF w F → Dens F args xs → Calls Tryz.prog f xs.toArray w fun e w' => e = .returned v ∧ Below w.heap.size w w') : Holds Tryz.prog fresh f args (.raw v) := fun w F xs hF hd =>
  (h w F xs hF hd).mono fun e w' ⟨h1, h2⟩ => ⟨v, ⟨F.at', fun _ => none⟩, h1, .raw v, ⟨hF.glob, hF.all, fun b A h => by cases h⟩, (fun b A h => by cases h), h2⟩
end Go.Proofs.YtkjjnnbbicoljaaGreatDoor
