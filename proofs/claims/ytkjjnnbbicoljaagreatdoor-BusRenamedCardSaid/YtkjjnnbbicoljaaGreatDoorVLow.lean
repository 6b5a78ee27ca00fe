/- Package bus, plain: the tracks are a layout, as many as the nets of the clique; any layout has at least so many. -/
import Derived.Test.YtkjjnnbbicoljaaGreatDoorVLaw
namespace Go.Proofs.YtkjjnnbbicoljaaGreatDoor
open Go.RowKit Sv
set_option linter.unusedVariables false

/-! ### the tracks, net by net -/
structure Col (xs : List (Int × Int)) (n : Nat) (ends : List Int) (tr dn : List Nat) : Prop where
  len : tr.length = n
  mem : ∀ j ∈ dn, j < n ∧ tr.getD j 0 < ends.length ∧ (xs.getD j (0, 0)).2 ≤ ends.getD (tr.getD j 0) 0
  top : ∀ t, t < ends.length → ∃ j ∈ dn, tr.getD j 0 = t ∧ ends.getD t 0 = (xs.getD j (0, 0)).2
  apart : ∀ j ∈ dn, ∀ k ∈ dn, j ≠ k → tr.getD j 0 = tr.getD k 0 → meetB xs j k = false
  full : ∃ (p : Int) (C : List Nat), (ends.length = 0 ∨ ∃ i ∈ dn, p = (xs.getD i (0, 0)).1) ∧ C.Nodup ∧ C.length = ends.length ∧ ∀ j ∈ C, j ∈ dn ∧ (xs.getD j (0, 0)).1 ≤ p ∧ p ≤ (xs.getD j (0, 0)).2
theorem meetB_comm (xs : List (Int × Int)) (j k : Nat) : meetB xs j k = meetB xs k j := by
  unfold meetB
  rw [Bool.and_comm]
theorem meetB_far {xs : List (Int × Int)} {j k : Nat} (h : (xs.getD j (0, 0)).2 < (xs.getD k (0, 0)).1) : meetB xs j k = false := by
  unfold meetB
  rw [decide_eq_false (p := (xs.getD k (0, 0)).1 ≤ (xs.getD j (0, 0)).2) (by omega), Bool.and_false]
theorem col_step (xs : List (Int × Int)) (n : Nat) {ends : List Int} {tr dn : List Nat} (i : Nat) (hn : i < n) (hid : i ∉ dn)
    (hle : ∀ j ∈ dn, (xs.getD j (0, 0)).1 ≤ (xs.getD i (0, 0)).1) (hii : (xs.getD i (0, 0)).1 ≤ (xs.getD i (0, 0)).2)
    (h : Col xs n ends tr dn) : Col xs n (trackStep xs (ends, tr) i).1 (trackStep xs (ends, tr) i).2 (dn ++ [i]) := by
  obtain ⟨hl, hmem, htop, hap, p, C, hp, hC1, hC2, hC3⟩ := h
  have hil : i < tr.length := by omega
  have hne : ∀ j ∈ dn, i ≠ j := fun j hj e => hid (e ▸ hj)
  unfold trackStep
  simp only
  rcases freeFrom_spec (xs.getD i (0, 0)).1 ends 0 with ⟨f1, f2⟩ | ⟨t, f1, f2, f3, f4⟩
  · rw [if_pos f1]
    simp only
    refine ⟨by simpa using hl, fun j hj => ?_, fun u hu => ?_, fun j hj k hk hjk e => ?_, ?_⟩
    · rcases List.mem_append.1 hj with hj | hj
      · obtain ⟨m1, m2, m3⟩ := hmem j hj
        rw [getN_set_ne (hne j hj)]
        refine ⟨m1, by rw [List.length_append]; exact Nat.lt_of_lt_of_le m2 (Nat.le_add_right _ _), ?_⟩
        rw [getD_app m2]
        exact m3
      · rw [List.mem_singleton.1 hj, getN_set_self hil]
        refine ⟨hn, by simp, ?_⟩
        simp [List.getD_eq_getElem?_getD]
    · by_cases hue : u < ends.length
      · obtain ⟨j, hj, e1, e2⟩ := htop u hue
        refine ⟨j, List.mem_append_left _ hj, by rw [getN_set_ne (hne j hj)]; exact e1, ?_⟩
        rw [getD_app hue]
        exact e2
      · obtain rfl : u = ends.length := by simp at hu; omega
        refine ⟨i, by simp, getN_set_self hil, ?_⟩
        simp [List.getD_eq_getElem?_getD]
    · rcases List.mem_append.1 hj with hj | hj <;> rcases List.mem_append.1 hk with hk | hk
      · rw [getN_set_ne (hne j hj), getN_set_ne (hne k hk)] at e
        exact hap j hj k hk hjk e
      · rw [List.mem_singleton.1 hk, getN_set_ne (hne j hj), getN_set_self hil] at e
        have := (hmem j hj).2.1
        omega
      · rw [List.mem_singleton.1 hj, getN_set_ne (hne k hk), getN_set_self hil] at e
        have := (hmem k hk).2.1
        omega
      · exact absurd ((List.mem_singleton.1 hj).trans (List.mem_singleton.1 hk).symm) hjk
    · have hch : ∃ f : Nat → Nat, ∀ t, t < ends.length → f t ∈ dn ∧ tr.getD (f t) 0 = t ∧ ends.getD t 0 = (xs.getD (f t) (0, 0)).2 := by
        refine ⟨fun t => if h : t < ends.length then (htop t h).choose else 0, fun t ht => ?_⟩
        simp only [dif_pos ht]
        exact (htop t ht).choose_spec
      obtain ⟨f, hf⟩ := hch
      refine ⟨(xs.getD i (0, 0)).1, i :: (List.range ends.length).map f, .inr ⟨i, by simp, rfl⟩, List.nodup_cons.2 ⟨fun hm => ?_, ?_⟩, by simp, fun j hj => ?_⟩
      · obtain ⟨t, ht, e⟩ := List.mem_map.1 hm
        exact hid (e ▸ (hf t (List.mem_range.1 ht)).1)
      · unfold List.Nodup
        rw [List.pairwise_map]
        refine (List.nodup_range (n := ends.length)).imp_of_mem fun {a b} ha hb hab e => hab ?_
        rw [← (hf a (List.mem_range.1 ha)).2.1, ← (hf b (List.mem_range.1 hb)).2.1, e]
      · rcases List.mem_cons.1 hj with rfl | hj
        · exact ⟨by simp, Int.le_refl _, hii⟩
        · obtain ⟨t, ht, rfl⟩ := List.mem_map.1 hj
          have ht := List.mem_range.1 ht
          obtain ⟨g1, g2, g3⟩ := hf t ht
          exact ⟨List.mem_append_left _ g1, hle _ g1, by rw [← g3]; exact f2 t ht⟩
  · have hnn : ¬ freeFrom (xs.getD i (0, 0)).1 0 ends < 0 := by rw [f2]; omega
    have ht : (freeFrom (xs.getD i (0, 0)).1 0 ends).toNat = t := by rw [f2]; omega
    rw [if_neg hnn, ht]
    simp only
    have far : ∀ j ∈ dn, tr.getD j 0 = t → meetB xs j i = false := fun j hj e => by
      have := (hmem j hj).2.2
      rw [e] at this
      exact meetB_far (by omega)
    refine ⟨by simpa using hl, fun j hj => ?_, fun u hu => ?_, fun j hj k hk hjk e => ?_, ?_⟩
    · rcases List.mem_append.1 hj with hj | hj
      · obtain ⟨m1, m2, m3⟩ := hmem j hj
        rw [getN_set_ne (hne j hj)]
        refine ⟨m1, by simpa using m2, ?_⟩
        by_cases htt : t = tr.getD j 0
        · rw [← htt] at m3 ⊢
          rw [getD_set_self f1]
          omega
        · rw [getD_set_ne htt]; exact m3
      · rw [List.mem_singleton.1 hj, getN_set_self hil]
        refine ⟨hn, by simpa using f1, ?_⟩
        rw [getD_set_self f1]
        exact Int.le_refl _
    · have hu : u < ends.length := by simpa using hu
      by_cases htt : t = u
      · subst htt
        exact ⟨i, by simp, getN_set_self hil, by rw [getD_set_self f1]⟩
      · obtain ⟨j, hj, e1, e2⟩ := htop u hu
        exact ⟨j, List.mem_append_left _ hj, by rw [getN_set_ne (hne j hj)]; exact e1, by rw [getD_set_ne htt]; exact e2⟩
    · rcases List.mem_append.1 hj with hj | hj <;> rcases List.mem_append.1 hk with hk | hk
      · rw [getN_set_ne (hne j hj), getN_set_ne (hne k hk)] at e
        exact hap j hj k hk hjk e
      · rw [List.mem_singleton.1 hk, getN_set_ne (hne j hj), getN_set_self hil] at e
        rw [List.mem_singleton.1 hk]
        exact far j hj e
      · rw [List.mem_singleton.1 hj, getN_set_ne (hne k hk), getN_set_self hil] at e
        rw [List.mem_singleton.1 hj, meetB_comm]
        exact far k hk e.symm
      · exact absurd ((List.mem_singleton.1 hj).trans (List.mem_singleton.1 hk).symm) hjk
    · refine ⟨p, C, ?_, hC1, by simpa using hC2, fun j hj => ?_⟩
      · rcases hp with hp | ⟨q, hq, e⟩
        · exact .inl (by simpa using hp)
        · exact .inr ⟨q, List.mem_append_left _ hq, e⟩
      · obtain ⟨g1, g2⟩ := hC3 j hj
        exact ⟨List.mem_append_left _ g1, g2⟩
theorem col_all (xs : List (Int × Int)) (n : Nat) (hii : ∀ i, i < n → (xs.getD i (0, 0)).1 ≤ (xs.getD i (0, 0)).2) :
    ∀ (L : List Nat) (s : List Int × List Nat) (dn : List Nat), L.Pairwise (Lo (lowAt xs)) → (∀ b ∈ L, b < n ∧ b ∉ dn ∧ ∀ a ∈ dn, Lo (lowAt xs) a b) → Col xs n s.1 s.2 dn →
      Col xs n (L.foldl (trackStep xs) s).1 (L.foldl (trackStep xs) s).2 (dn ++ L)
  | [], s, dn, _, _, h => by rw [List.append_nil]; exact h
  | i :: L, s, dn, hp, hb, h => by
    obtain ⟨p1, p2⟩ := List.pairwise_cons.1 hp
    obtain ⟨b1, b2, b3⟩ := hb i List.mem_cons_self
    rw [List.foldl_cons]
    have := col_all xs n hii L (trackStep xs s i) (dn ++ [i]) p2 (fun b hb' => ?_) (col_step xs n i b1 b2 (fun j hj => ?_) (hii i b1) h)
    · rwa [List.append_assoc] at this
    · obtain ⟨c1, c2, c3⟩ := hb b (List.mem_cons_of_mem _ hb')
      have hib := p1 b hb'
      refine ⟨c1, fun hmem => ?_, fun a ha => ?_⟩
      · rcases List.mem_append.1 hmem with g | g
        · exact c2 g
        · rw [List.mem_singleton.1 g] at hib; exact hib.asymm hib
      · rcases List.mem_append.1 ha with g | g
        · exact c3 a g
        · rw [List.mem_singleton.1 g]; exact hib
    · have := b3 j hj
      unfold Lo lowAt at this
      omega
theorem col_tracks (xs : List (Int × Int)) (P : Nat) (hlo : ∀ i, i < xs.length → 0 ≤ (xs.getD i (0, 0)).1 ∧ (xs.getD i (0, 0)).1 < P) (hii : ∀ i, i < xs.length → (xs.getD i (0, 0)).1 ≤ (xs.getD i (0, 0)).2) :
    ∃ dn, Col xs xs.length (tracksOf xs).1 (tracksOf xs).2 dn ∧ ∀ j, j < xs.length → j ∈ dn := by
  obtain ⟨o1, o2⟩ := refOrd_spec (lowAt xs) xs.length P
  have h := col_all xs xs.length hii (refOrd (lowAt xs) xs.length P) ([], List.replicate xs.length 0) [] o1 (fun b hb => ⟨((o2 b).1 hb).1, by simp, fun a ha => by cases ha⟩)
    ⟨by simp, fun j hj => (by cases hj), fun t ht => absurd ht (Nat.not_lt_zero _), fun j hj => (by cases hj), 0, [], .inl rfl, List.nodup_nil, rfl, fun j hj => by cases hj⟩
  have hT : tracksOf xs = (refOrd (lowAt xs) xs.length P).foldl (trackStep xs) ([], List.replicate xs.length 0) := by
    unfold tracksOf
    rw [sort_refOrd (lowAt xs) xs.length P hlo]
  rw [← hT, List.nil_append] at h
  exact ⟨_, h, fun j hj => (o2 j).2 ⟨hj, hlo j hj⟩⟩

/-! ### the nets at a position -/
theorem mem_cover (xs : List (Int × Int)) (p : Int) : ∀ (k : Nat) (v : Int), v ∈ coverUp xs p k ↔ ∃ j, j < k ∧ v = (j : Int) ∧ covB xs j p = true
  | 0, v => by simp [coverUp]
  | k + 1, v => by
    unfold coverUp
    have ih := mem_cover xs p k v
    split
    · rename_i h
      rw [List.mem_append, List.mem_singleton, ih]
      constructor
      · rintro (⟨j, h1, h2, h3⟩ | rfl)
        · exact ⟨j, by omega, h2, h3⟩
        · exact ⟨k, by omega, rfl, h⟩
      · rintro ⟨j, h1, h2, h3⟩
        by_cases hj : j = k
        · subst hj; exact .inr h2
        · exact .inl ⟨j, by omega, h2, h3⟩
    · rename_i h
      rw [ih]
      constructor
      · rintro ⟨j, h1, h2, h3⟩; exact ⟨j, by omega, h2, h3⟩
      · rintro ⟨j, h1, h2, h3⟩
        refine ⟨j, ?_, h2, h3⟩
        by_cases hj : j = k
        · subst hj; exact absurd h3 h
        · omega
theorem nodup_cover (xs : List (Int × Int)) (p : Int) : ∀ k, (coverUp xs p k).Nodup
  | 0 => List.nodup_nil
  | k + 1 => by
    unfold coverUp
    split
    · refine List.nodup_append.2 ⟨nodup_cover xs p k, by simp, fun a ha b hb => ?_⟩
      obtain ⟨j, h1, rfl, _⟩ := (mem_cover xs p k a).1 ha
      rw [List.mem_singleton.1 hb]
      omega
    · exact nodup_cover xs p k
theorem clique_spec (xs : List (Int × Int)) : ∀ P : Nat, (∀ p, p < P → (coverUp xs (p : Int) xs.length).length ≤ (cliqueUp xs P).1.length) ∧ (cliqueUp xs P = ([], 0) ∨ ∃ p, p < P ∧ cliqueUp xs P = (coverUp xs (p : Int) xs.length, (p : Int)))
  | 0 => ⟨fun p hp => absurd hp (Nat.not_lt_zero _), .inl rfl⟩
  | P + 1 => by
    obtain ⟨h1, h2⟩ := clique_spec xs P
    unfold cliqueUp
    split
    · rename_i h
      refine ⟨fun p hp => ?_, .inr ⟨P, by omega, rfl⟩⟩
      by_cases he : p = P
      · subst he; exact Nat.le_refl _
      · exact Nat.le_trans (h1 p (by omega)) (Nat.le_of_lt h)
    · rename_i h
      refine ⟨fun p hp => ?_, ?_⟩
      · by_cases he : p = P
        · subst he; omega
        · exact h1 p (by omega)
      · rcases h2 with h2 | ⟨p, g1, g2⟩
        · exact .inl h2
        · exact .inr ⟨p, by omega, g2⟩
theorem cover_meet {xs : List (Int × Int)} {p : Int} {j k : Nat} (h1 : covB xs j p = true) (h2 : covB xs k p = true) : meetB xs j k = true := by
  unfold covB at h1 h2
  unfold meetB
  rw [Bool.and_eq_true, decide_eq_true_eq, decide_eq_true_eq] at h1 h2 ⊢
  omega
theorem conf_false {xs : List (Int × Int)} {ts : List Int} {n : Nat} : conf xs ts n = false ↔ ∀ i k, i < n → k < n → i ≠ k → ts.getD i 0 = ts.getD k 0 → meetB xs i k = false := by
  rw [conf_hit, ← Bool.not_eq_true, allHit_iff]
  constructor
  · intro h i k hi hk hik e
    cases hm : meetB xs i k with
    | false => rfl
    | true =>
      exfalso
      rcases Nat.lt_or_gt_of_ne hik with hlt | hlt
      · exact h ⟨k, i, hlt, hk, by rw [meetB_comm, hm, e, beq_self_eq_true]; rfl⟩
      · exact h ⟨i, k, hlt, hi, by rw [hm, e, beq_self_eq_true]; rfl⟩
  · rintro h ⟨i, k, hk, hi, hc⟩
    rw [Bool.and_eq_true, beq_iff_eq] at hc
    rw [h i k hi (by omega) (by omega) hc.1] at hc
    cases hc.2
/-- in a layout, the nets at a position stand on as many tracks -/
theorem cover_few {xs : List (Int × Int)} {ts : List Int} (hl : ts.length = xs.length) (h : conf xs ts xs.length = false) (p : Int) : (coverUp xs p xs.length).length ≤ cntUp ts ts.length := by
  obtain ⟨D, d1, d2, d3⟩ := cnt_spec ts ts.length (Nat.le_refl _)
  rw [← d2]
  rw [List.take_length] at d3
  have e : (coverUp xs p xs.length).length = ((coverUp xs p xs.length).map fun v => ts.getD v.toNat 0).length := by simp
  rw [e]
  refine nodup_le ?_ fun v hv => ?_
  · unfold List.Nodup
    rw [List.pairwise_map]
    refine (nodup_cover xs p xs.length).imp_of_mem fun {a b} ha hb hab he => ?_
    obtain ⟨j, j1, rfl, j3⟩ := (mem_cover xs p _ a).1 ha
    obtain ⟨k, k1, rfl, k3⟩ := (mem_cover xs p _ b).1 hb
    have hjk : j ≠ k := fun e => hab (by rw [e])
    have := conf_false.1 h j k j1 k1 hjk he
    rw [cover_meet j3 k3] at this
    cases this
  · obtain ⟨a, ha, rfl⟩ := List.mem_map.1 hv
    obtain ⟨j, j1, rfl, _⟩ := (mem_cover xs p _ a).1 ha
    rw [d3]
    show ts.getD (j : Int).toNat 0 ∈ ts
    rw [Int.toNat_natCast, getD_lt (by omega)]
    exact List.getElem_mem _

/-! ### nets that pass the checks -/
section
variable {nets : List (Int × List Int)} {n : Int} {order : List Int}
theorem ext_bd (hE : Bus.bothErr nets n order = 0) (i : Nat) (hi : i < nets.length) : 0 ≤ ((extsOf nets order).getD i (0, 0)).1 ∧ ((extsOf nets order).getD i (0, 0)).1 ≤ ((extsOf nets order).getD i (0, 0)).2 ∧ ((extsOf nets order).getD i (0, 0)).2 < order.length := by
  obtain ⟨h1, h2, h3, h4⟩ := ext_at hE i hi
  rw [h1]; exact ⟨h2, h3, h4⟩
theorem low_conf (hE : Bus.bothErr nets n order = 0) : conf (extsOf nets order) (toI (tracksOf (extsOf nets order)).2) nets.length = false ∧
    (∀ t ∈ toI (tracksOf (extsOf nets order)).2, 0 ≤ t ∧ t < nets.length) ∧
    (toI (tracksOf (extsOf nets order)).2).length = nets.length ∧ cntUp (toI (tracksOf (extsOf nets order)).2) nets.length = (tracksOf (extsOf nets order)).1.length ∧
    ∃ p : Nat, p < order.length ∧ (tracksOf (extsOf nets order)).1.length ≤ (coverUp (extsOf nets order) (p : Int) (extsOf nets order).length).length := by
  have hl := extsOf_len nets order
  obtain ⟨t1, t2⟩ := tracks_fact hE
  have hpos : 0 < order.length := by
    have h1 := (Bus.orderErr_zero (both_iff.1 hE).2).1
    have h2 := (Bus.netsErr_zero (both_iff.1 hE).1).1
    omega
  obtain ⟨dn, hC, hall⟩ := col_tracks (extsOf nets order) order.length (fun i hi => by have := ext_bd hE i (by omega); omega) (fun i hi => (ext_bd hE i (by omega)).2.1)
  rw [hl] at hC hall
  have hlen : (toI (tracksOf (extsOf nets order)).2).length = nets.length := by rw [List.length_map, hC.len]
  rw [t1] at t2
  have hfew : (tracksOf (extsOf nets order)).1.length ≤ nets.length := by
    rw [← t2]
    obtain ⟨D, d1, d2, d3⟩ := cnt_spec (toI (tracksOf (extsOf nets order)).2) nets.length (by omega)
    have := nodup_le d1 fun v hv => (d3 v).1 hv
    rw [List.length_take] at this
    omega
  refine ⟨conf_false.2 fun i k hi hk hik e => ?_, fun t ht => ?_, hlen, t2, ?_⟩
  · rw [map_getD, map_getD] at e
    exact hC.apart i (hall i hi) k (hall k hk) hik (by omega)
  · obtain ⟨x, hx, rfl⟩ := List.mem_map.1 ht
    obtain ⟨j, hj, rfl⟩ := List.mem_iff_getElem.1 hx
    have := (hC.mem j (hall j (by rw [← hC.len]; exact hj))).2.1
    rw [List.getD_eq_getElem?_getD, List.getElem?_eq_getElem hj] at this
    simp only [Option.getD_some] at this
    omega
  · obtain ⟨p, C, hp, c1, c2, c3⟩ := hC.full
    have key : ∀ q : Nat, (q : Int) = p → (tracksOf (extsOf nets order)).1.length ≤ (coverUp (extsOf nets order) (q : Int) (extsOf nets order).length).length := fun q hq => by
      rw [← c2]
      have e : C.length = (C.map fun (x : Nat) => (x : Int)).length := by simp
      rw [e]
      refine nodup_le ?_ fun v hv => ?_
      · unfold List.Nodup
        rw [List.pairwise_map]
        exact c1.imp fun h e => h (Int.ofNat.inj e)
      · obtain ⟨j, hj, rfl⟩ := List.mem_map.1 hv
        obtain ⟨g1, g2, g3⟩ := c3 j hj
        refine (mem_cover _ _ _ _).2 ⟨j, by have := (hC.mem j g1).1; omega, rfl, ?_⟩
        unfold covB
        rw [Bool.and_eq_true, decide_eq_true_eq, decide_eq_true_eq]
        omega
    rcases hp with hp | ⟨i, hi, rfl⟩
    · exact ⟨0, hpos, by rw [hp]; exact Nat.zero_le _⟩
    · have := ext_bd hE i (hC.mem i hi).1
      refine ⟨((extsOf nets order).getD i (0, 0)).1.toNat, by omega, key _ (by omega)⟩
theorem clq_len (hE : Bus.bothErr nets n order = 0) : (cliqueUp (extsOf nets order) n.toNat).1.length = (tracksOf (extsOf nets order)).1.length := by
  obtain ⟨h1, h2, h3, h4, p, h5, h6⟩ := low_conf hE
  have hl := extsOf_len nets order
  have hn : (order.length : Int) = n := (Bus.orderErr_zero (both_iff.1 hE).2).1
  obtain ⟨q1, q2⟩ := clique_spec (extsOf nets order) n.toNat
  refine Nat.le_antisymm ?_ (Nat.le_trans h6 (q1 p (by omega)))
  rcases q2 with q2 | ⟨q, _, q2⟩
  · rw [q2]; exact Nat.zero_le _
  · rw [q2, ← h4, ← h3]
    exact cover_few (by omega) (by rw [hl]; exact h1) _
theorem clq_at (hE : Bus.bothErr nets n order = 0) : 0 ≤ (cliqueUp (extsOf nets order) n.toNat).2 ∧ (cliqueUp (extsOf nets order) n.toNat).2 < n := by
  have h2 := (Bus.netsErr_zero (both_iff.1 hE).1).1
  obtain ⟨q1, q2⟩ := clique_spec (extsOf nets order) n.toNat
  rcases q2 with q2 | ⟨q, q3, q2⟩
  · rw [q2]; exact ⟨Int.le_refl _, h2⟩
  · rw [q2]
    show 0 ≤ (q : Int) ∧ (q : Int) < n
    omega
theorem low_lay (hE : Bus.bothErr nets n order = 0) : layErr nets n order (toI (tracksOf (extsOf nets order)).2) = 0 := by
  obtain ⟨h1, h2, h3, _⟩ := low_conf hE
  have h64 := (Bus.netsErr_zero (both_iff.1 hE).1).2.2.1
  unfold layErr
  have hf : ¬ farB (toI (tracksOf (extsOf nets order)).2) = true := fun h => by
    unfold farB at h
    rw [List.any_eq_true] at h
    obtain ⟨t, ht, h⟩ := h
    have := h2 t ht
    rw [Bool.or_eq_true, decide_eq_true_eq, decide_eq_true_eq] at h
    omega
  have hc : ¬ conf (extsOf nets order) (toI (tracksOf (extsOf nets order)).2) nets.length = true := by rw [h1]; exact Bool.false_ne_true
  rw [if_neg (fun h => h hE), if_neg (fun h => h h3), if_neg hf, if_neg hc]
theorem lay_zero {ts : List Int} (hE : Bus.bothErr nets n order = 0) (h : layErr nets n order ts = 0) : ts.length = nets.length ∧ (∀ t ∈ ts, 0 ≤ t ∧ t < 64) ∧ conf (extsOf nets order) ts nets.length = false := by
  unfold layErr at h
  rw [if_neg (fun g => g hE)] at h
  by_cases h1 : ts.length ≠ nets.length
  · rw [if_pos h1] at h; cases h
  · rw [if_neg h1] at h
    by_cases h2 : farB ts = true
    · rw [if_pos h2] at h; cases h
    · rw [if_neg h2] at h
      by_cases h3 : conf (extsOf nets order) ts nets.length = true
      · rw [if_pos h3] at h; cases h
      · refine ⟨Classical.not_not.1 h1, fun t ht => ?_, by simpa using h3⟩
        unfold farB at h2
        rw [List.any_eq_true] at h2
        by_cases hh : 0 ≤ t ∧ t < 64
        · exact hh
        · exact absurd ⟨t, ht, by rw [Bool.or_eq_true, decide_eq_true_eq, decide_eq_true_eq]; omega⟩ h2
theorem lay_least {ts : List Int} (hE : Bus.bothErr nets n order = 0) (h : layErr nets n order ts = 0) : (tracksOf (extsOf nets order)).1.length ≤ cntUp ts ts.length := by
  obtain ⟨h1, h2, h3⟩ := lay_zero hE h
  have hl := extsOf_len nets order
  rw [← clq_len hE]
  obtain ⟨q1, q2⟩ := clique_spec (extsOf nets order) n.toNat
  rcases q2 with q2 | ⟨q, _, q2⟩
  · rw [q2]; exact Nat.zero_le _
  · rw [q2]
    exact cover_few (by omega) (by rw [hl]; exact h3) _
theorem orderFrom_ok (N : Int) : ∀ (l seen : List Int), (∀ c ∈ l, 0 ≤ c ∧ c < N ∧ c ∉ seen) → l.Nodup → Bus.orderFrom N seen l = 0
  | [], _, _, _ => rfl
  | c :: r, seen, h, hn => by
    obtain ⟨h1, h2, h3⟩ := h c List.mem_cons_self
    obtain ⟨n1, n2⟩ := List.nodup_cons.1 hn
    unfold Bus.orderFrom
    rw [if_neg (by omega), if_neg h3]
    refine orderFrom_ok N r (seen ++ [c]) (fun d hd => ?_) n2
    obtain ⟨g1, g2, g3⟩ := h d (List.mem_cons_of_mem _ hd)
    refine ⟨g1, g2, fun hm => ?_⟩
    rcases List.mem_append.1 hm with g | g
    · exact g3 g
    · rw [List.mem_singleton.1 g] at hd; exact n1 hd
theorem clq_ok (hE : Bus.bothErr nets n order = 0) : cliqueErr nets n order (cliqueUp (extsOf nets order) n.toNat).1 = 0 := by
  have hl := extsOf_len nets order
  obtain ⟨q1, q2⟩ := clique_spec (extsOf nets order) n.toNat
  generalize cliqueUp (extsOf nets order) n.toNat = z at *
  have key : Bus.orderFrom (nets.length : Int) [] z.1 = 0 ∧ ¬ allHit (apartB (extsOf nets order) z.1) z.1.length = true := by
    rcases q2 with rfl | ⟨q, _, rfl⟩
    · exact ⟨rfl, by simp [allHit]⟩
    · refine ⟨orderFrom_ok _ _ _ (fun c hc => ?_) (nodup_cover _ _ _), fun hh => ?_⟩
      · obtain ⟨j, j1, rfl, _⟩ := (mem_cover _ _ _ _).1 hc
        have j2 : j < nets.length := by rw [← hl]; exact j1
        exact ⟨by omega, by omega, by simp⟩
      · obtain ⟨i, k, hk, hi, hc⟩ := (allHit_iff _ _).1 hh
        have g : ∀ m, m < (coverUp (extsOf nets order) (q : Int) (extsOf nets order).length).length → ∃ j : Nat, (coverUp (extsOf nets order) (q : Int) (extsOf nets order).length).getD m 0 = (j : Int) ∧ covB (extsOf nets order) j (q : Int) = true := fun m hm => by
          have := (mem_cover (extsOf nets order) (q : Int) (extsOf nets order).length ((coverUp (extsOf nets order) (q : Int) (extsOf nets order).length).getD m 0)).1 (by rw [getD_lt hm]; exact List.getElem_mem _)
          obtain ⟨j, _, j2, j3⟩ := this
          exact ⟨j, j2, j3⟩
        obtain ⟨a, a1, a2⟩ := g i hi
        obtain ⟨b, b1, b2⟩ := g k (Nat.lt_trans hk hi)
        unfold apartB at hc
        rw [a1, b1, Int.toNat_natCast, Int.toNat_natCast, cover_meet a2 b2] at hc
        cases hc
  unfold cliqueErr
  rw [if_neg (fun h => h hE), if_neg (fun h => h key.1), if_neg key.2]
end
end Go.Proofs.YtkjjnnbbicoljaaGreatDoor
