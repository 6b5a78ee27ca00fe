/- Package bus, with no program in sight: the tracks of the left ends in their order are the tracks that the reference finds. -/
import Derived.Test.YtbldpojkpmafpaaGreatDoorZbBusTap1
import Derived.Test.YtbldpojkpmafpaaGreatDoorZbBusRefNets
namespace Go.Proofs.YtbldpojkpmafpaaGreatDoor
open Go.RowKit

def Lo (K : Nat → Int) (a b : Nat) : Prop := K a < K b ∨ K a = K b ∧ a < b
theorem Lo.trans {K : Nat → Int} {a b c : Nat} (h1 : Lo K a b) (h2 : Lo K b c) : Lo K a c := by
  unfold Lo at *; omega
theorem Lo.asymm {K : Nat → Int} {a b : Nat} (h1 : Lo K a b) (h2 : Lo K b a) : False := by
  unfold Lo at *; omega
theorem swapAt_app (pre post : List Nat) (y x : Nat) : swapAt (pre ++ y :: x :: post) pre.length = pre ++ x :: y :: post := by
  unfold swapAt
  have e1 : (pre ++ y :: x :: post).getD pre.length 0 = y := by simp [List.getD_eq_getElem?_getD]
  have e2 : (pre ++ y :: x :: post).getD (pre.length + 1) 0 = x := by
    simp [List.getD_eq_getElem?_getD]
  rw [e1, e2, List.set_append_right _ _ (by omega), List.set_append_right _ _ (by omega)]
  simp
theorem sink_spec (K : Nat → Int) : ∀ (j : Nat) (pre post : List Nat) (x : Nat), pre.length = j → pre.Pairwise (Lo K) → (∀ y ∈ pre, y < x) →
    ∃ l, sink K j (pre ++ x :: post) = l ++ post ∧ l.Pairwise (Lo K) ∧ (∀ z, z ∈ l ↔ z ∈ pre ∨ z = x) ∧ l.length = j + 1
  | 0, pre, post, x, hl, hs, hx => by
    obtain rfl := List.length_eq_zero_iff.1 hl
    exact ⟨[x], rfl, List.pairwise_singleton _ _, fun z => by simp, rfl⟩
  | j + 1, pre, post, x, hl, hs, hx => by
    obtain ⟨pre', y, rfl⟩ : ∃ p y, pre = p ++ [y] := ⟨pre.dropLast, pre.getLast (by intro h; rw [h] at hl; cases hl), (List.dropLast_concat_getLast _).symm⟩
    have hl' : pre'.length = j := by simpa using hl
    have e : pre' ++ [y] ++ x :: post = pre' ++ y :: x :: post := by simp
    rw [e]
    obtain ⟨s1, s2, s3⟩ := List.pairwise_append.1 hs
    have g1 : (pre' ++ y :: x :: post).getD j 0 = y := by rw [← hl']; simp [List.getD_eq_getElem?_getD]
    have g2 : (pre' ++ y :: x :: post).getD (j + 1) 0 = x := by rw [← hl']; simp [List.getD_eq_getElem?_getD]
    unfold sink
    rw [g1, g2]
    by_cases hk : K x < K y
    · rw [if_pos hk]
      have hsw : swapAt (pre' ++ y :: x :: post) j = pre' ++ x :: y :: post := by rw [← hl']; exact swapAt_app pre' post y x
      rw [hsw]
      obtain ⟨l, h1, h2, h3, h4⟩ := sink_spec K j pre' (y :: post) x hl' s1 fun z hz => hx z (List.mem_append_left _ hz)
      refine ⟨l ++ [y], by rw [h1]; simp, List.pairwise_append.2 ⟨h2, List.pairwise_singleton _ _, fun a ha b hb => ?_⟩, fun z => ?_, by simp [h4]⟩
      · rw [List.mem_singleton.1 hb]
        rcases (h3 a).1 ha with h | rfl
        · exact s3 a h y (List.mem_singleton_self _)
        · exact .inl hk
      · simp only [List.mem_append, List.mem_singleton, h3]
        constructor
        · rintro ((h | h) | h)
          · exact .inl (.inl h)
          · exact .inr h
          · exact .inl (.inr h)
        · rintro ((h | h) | h)
          · exact .inl (.inl h)
          · exact .inr h
          · exact .inl (.inr h)
    · rw [if_neg hk]
      have hyx : Lo K y x := by
        have := hx y (by simp)
        unfold Lo; omega
      refine ⟨pre' ++ [y] ++ [x], by simp, List.pairwise_append.2 ⟨hs, List.pairwise_singleton _ _, fun a ha b hb => ?_⟩, fun z => by simp [or_assoc], by simp [hl']⟩
      rw [List.mem_singleton.1 hb]
      rcases List.mem_append.1 ha with h | h
      · exact (s3 a h y (List.mem_singleton_self _)).trans hyx
      · rw [List.mem_singleton.1 h]; exact hyx
theorem sortTo_spec (K : Nat → Int) (n : Nat) : ∀ i, i ≤ n → ∃ l, sortTo K (List.range n) i = l ++ (List.range n).drop i ∧ l.Pairwise (Lo K) ∧ (∀ z, z ∈ l ↔ z < i) ∧ l.length = i
  | 0, _ => ⟨[], by simp [sortTo], List.Pairwise.nil, by simp, rfl⟩
  | i + 1, hi => by
    obtain ⟨l, h1, h2, h3, h4⟩ := sortTo_spec K n i (by omega)
    have hd : (List.range n).drop i = i :: (List.range n).drop (i + 1) := by
      rw [List.drop_eq_getElem_cons (by rw [List.length_range]; omega)]; simp
    unfold sortTo
    rw [h1, hd]
    obtain ⟨l', g1, g2, g3, g4⟩ := sink_spec K i l ((List.range n).drop (i + 1)) i h4 h2 fun y hy => (h3 y).1 hy
    exact ⟨l', g1, g2, fun z => by rw [g3, h3]; omega, g4⟩
theorem sorted_unique {K : Nat → Int} : ∀ {l1 l2 : List Nat}, l1.Pairwise (Lo K) → l2.Pairwise (Lo K) → (∀ z, z ∈ l1 ↔ z ∈ l2) → l1 = l2
  | [], [], _, _, _ => rfl
  | [], b :: l, _, _, h => absurd ((h b).2 List.mem_cons_self) (by simp)
  | a :: l, [], _, _, h => absurd ((h a).1 List.mem_cons_self) (by simp)
  | a :: l1, b :: l2, h1, h2, h => by
    obtain ⟨a1, a2⟩ := List.pairwise_cons.1 h1
    obtain ⟨b1, b2⟩ := List.pairwise_cons.1 h2
    have hab : a = b := by
      rcases List.mem_cons.1 ((h a).1 List.mem_cons_self) with e | e
      · exact e
      · rcases List.mem_cons.1 ((h b).2 List.mem_cons_self) with e' | e'
        · exact e'.symm
        · exact ((b1 a e).asymm (a1 b e')).elim
    subst hab
    rw [sorted_unique a2 b2 fun z => ?_]
    have hz := h z
    simp only [List.mem_cons] at hz
    constructor
    · intro hm
      rcases hz.1 (.inr hm) with e | e
      · subst e; exact ((a1 z hm).asymm (a1 z hm)).elim
      · exact e
    · intro hm
      rcases hz.2 (.inr hm) with e | e
      · subst e; exact ((b1 z hm).asymm (b1 z hm)).elim
      · exact e
def refOrd (K : Nat → Int) (n : Nat) : Nat → List Nat
  | 0 => []
  | p + 1 => refOrd K n p ++ (List.range n).filter fun i => K i == (p : Int)
theorem refOrd_spec (K : Nat → Int) (n : Nat) : ∀ p, (refOrd K n p).Pairwise (Lo K) ∧ ∀ z, z ∈ refOrd K n p ↔ z < n ∧ 0 ≤ K z ∧ K z < p
  | 0 => ⟨List.Pairwise.nil, fun z => by simp only [refOrd, List.not_mem_nil, false_iff]; omega⟩
  | p + 1 => by
    obtain ⟨h1, h2⟩ := refOrd_spec K n p
    unfold refOrd
    refine ⟨List.pairwise_append.2 ⟨h1, ?_, fun a ha b hb => ?_⟩, fun z => ?_⟩
    · have hr : (List.range n).Pairwise (· < ·) := List.pairwise_lt_range
      refine List.Pairwise.imp_of_mem (S := Lo K) (fun ha hb hab => ?_) (hr.filter _)
      have e1 := (List.mem_filter.1 ha).2
      have e2 := (List.mem_filter.1 hb).2
      rw [beq_iff_eq] at e1 e2
      exact .inr ⟨by omega, hab⟩
    · have e1 := (h2 a).1 ha
      have e2 := (List.mem_filter.1 hb).2
      rw [beq_iff_eq] at e2
      exact .inl (by omega)
    · simp only [List.mem_append, h2, List.mem_filter, List.mem_range, beq_iff_eq]
      omega
theorem sort_refOrd (K : Nat → Int) (n p : Nat) (h : ∀ i, i < n → 0 ≤ K i ∧ K i < p) : sortTo K (List.range n) n = refOrd K n p := by
  obtain ⟨l, h1, h2, h3, _⟩ := sortTo_spec K n n (Nat.le_refl _)
  obtain ⟨g1, g2⟩ := refOrd_spec K n p
  rw [h1, List.drop_of_length_le (by simp), List.append_nil]
  refine sorted_unique h2 g1 fun z => ?_
  rw [h3, g2]
  exact ⟨fun hz => ⟨hz, h z hz⟩, fun hz => hz.1⟩

theorem freeFrom_spec (lo : Int) : ∀ (es : List Int) (k : Nat), (freeFrom lo k es < 0 ∧ ∀ t, t < es.length → lo ≤ es.getD t 0) ∨ ∃ t, t < es.length ∧ freeFrom lo k es = ((k + t : Nat) : Int) ∧ es.getD t 0 < lo ∧ ∀ u, u < t → lo ≤ es.getD u 0
  | [], k => .inl ⟨by simp [freeFrom], fun t ht => by simp at ht⟩
  | e :: r, k => by
    unfold freeFrom
    by_cases h : e < lo
    · rw [if_pos h]
      exact .inr ⟨0, by simp, by simp, by simpa using h, fun u hu => by omega⟩
    · rw [if_neg h]
      rcases freeFrom_spec lo r (k + 1) with ⟨h1, h2⟩ | ⟨t, h1, h2, h3, h4⟩
      · refine .inl ⟨h1, fun t ht => ?_⟩
        cases t with
        | zero => simp; omega
        | succ t => simpa using h2 t (by simpa using ht)
      · refine .inr ⟨t + 1, by simpa using h1, by rw [h2]; congr 1; omega, by simpa using h3, fun u hu => ?_⟩
        cases u with
        | zero => simp; omega
        | succ u => simpa using h4 u (by omega)
def hit (meet : Nat → Nat → Bool) (out : List Int) (dn : List Nat) (i : Nat) : Bool := dn.any fun j => out.getD j 0 == out.getD i 0 && meet j i
def place (meet : Nat → Nat → Bool) (dn : List Nat) (i : Nat) : Nat → List Int → List Int
  | 0, out => out
  | m + 1, out => if hit meet out dn i = true then place meet dn i m (out.set i (out.getD i 0 + 1)) else out
def refStep (meet : Nat → Nat → Bool) (s : List Int × List Nat) (i : Nat) : List Int × List Nat := (place meet s.2 i (s.2.length + 1) s.1, s.2 ++ [i])
theorem getD_set_self {l : List Int} {i : Nat} {x : Int} (h : i < l.length) : (l.set i x).getD i 0 = x := by simp [List.getD_eq_getElem?_getD, h]
theorem getD_set_ne {l : List Int} {i j : Nat} {x : Int} (h : i ≠ j) : (l.set i x).getD j 0 = l.getD j 0 := by simp [List.getD_eq_getElem?_getD, List.getElem?_set_ne h]
theorem getN_set_self {l : List Nat} {i : Nat} {x : Nat} (h : i < l.length) : (l.set i x).getD i 0 = x := by simp [List.getD_eq_getElem?_getD, h]
theorem getN_set_ne {l : List Nat} {i j : Nat} {x : Nat} (h : i ≠ j) : (l.set i x).getD j 0 = l.getD j 0 := by simp [List.getD_eq_getElem?_getD, List.getElem?_set_ne h]
theorem set_getD {l : List Int} {i : Nat} (h : i < l.length) : l.set i (l.getD i 0) = l := by
  rw [List.getD_eq_getElem?_getD, List.getElem?_eq_getElem h]
  simp
theorem place_spec (meet : Nat → Nat → Bool) (dn : List Nat) (i : Nat) (hi : i ∉ dn) : ∀ (m : Nat) (out : List Int) (v T : Nat), i < out.length → out.getD i 0 = (v : Int) → v ≤ T → T < v + m →
    (∀ t, v ≤ t → t < T → ∃ j ∈ dn, out.getD j 0 = (t : Int) ∧ meet j i = true) → (∀ j ∈ dn, out.getD j 0 = (T : Int) → meet j i = false) → place meet dn i m out = out.set i (T : Int)
  | 0, out, v, T, _, _, h1, h2, _, _ => absurd h2 (by omega)
  | m + 1, out, v, T, hl, hv, h1, h2, h3, h4 => by
    unfold place
    by_cases he : v = T
    · subst he
      have hh : ¬ hit meet out dn i = true := by
        unfold hit
        rw [List.any_eq_true]
        rintro ⟨j, hj, hc⟩
        rw [Bool.and_eq_true, beq_iff_eq, hv] at hc
        have := h4 j hj hc.1
        rw [this] at hc
        cases hc.2
      rw [if_neg hh, ← hv, set_getD hl]
    · have hh : hit meet out dn i = true := by
        unfold hit
        rw [List.any_eq_true]
        obtain ⟨j, hj, e1, e2⟩ := h3 v (Nat.le_refl _) (by omega)
        exact ⟨j, hj, by rw [Bool.and_eq_true, beq_iff_eq, hv]; exact ⟨e1, e2⟩⟩
      have hne : ∀ j ∈ dn, i ≠ j := fun j hj e => hi (e ▸ hj)
      rw [if_pos hh, place_spec meet dn i hi m (out.set i (out.getD i 0 + 1)) (v + 1) T (by simpa using hl) (by rw [getD_set_self hl, hv]; omega) (by omega) (by omega) (fun t ht1 ht2 => ?_) (fun j hj e => ?_)]
      · simp
      · obtain ⟨j, hj, e1, e2⟩ := h3 t (by omega) ht2
        exact ⟨j, hj, by rw [getD_set_ne (hne j hj)]; exact e1, e2⟩
      · rw [getD_set_ne (hne j hj)] at e
        exact h4 j hj e
theorem getD_app {a b : List Int} {t : Nat} (h : t < a.length) : (a ++ b).getD t 0 = a.getD t 0 := by
  rw [List.getD_eq_getElem?_getD, List.getElem?_append_left h, List.getD_eq_getElem?_getD]
structure Tie (lo hi : Nat → Int) (n : Nat) (ends : List Int) (tr : List Nat) (out : List Int) (dn : List Nat) : Prop where
  out : out = tr.map fun (x : Nat) => (x : Int)
  len : tr.length = n
  mem : ∀ j ∈ dn, j < n ∧ tr.getD j 0 < ends.length ∧ hi j ≤ ends.getD (tr.getD j 0) 0
  top : ∀ t, t < ends.length → ∃ j ∈ dn, tr.getD j 0 = t ∧ ends.getD t 0 = hi j
  rest : ∀ j, j ∉ dn → tr.getD j 0 = 0
  few : ends.length ≤ dn.length
theorem map_getD (tr : List Nat) (j : Nat) : (tr.map fun (x : Nat) => (x : Int)).getD j 0 = ((tr.getD j 0 : Nat) : Int) := by
  simp only [List.getD_eq_getElem?_getD, List.getElem?_map]
  cases tr[j]? <;> rfl
theorem map_set (tr : List Nat) (i x : Nat) : (tr.map fun (x : Nat) => (x : Int)).set i (x : Int) = (tr.set i x).map fun (x : Nat) => (x : Int) := by simp
theorem tie_step (xs : List (Int × Int)) (meet : Nat → Nat → Bool) (n : Nat) {ends : List Int} {tr : List Nat} {out : List Int} {dn : List Nat} (i : Nat) (hn : i < n) (hid : i ∉ dn)
    (hle : ∀ j ∈ dn, (xs.getD j (0, 0)).1 ≤ (xs.getD i (0, 0)).1) (hii : (xs.getD i (0, 0)).1 ≤ (xs.getD i (0, 0)).2)
    (hm : ∀ j, j < n → meet j i = (decide ((xs.getD j (0, 0)).1 ≤ (xs.getD i (0, 0)).2) && decide ((xs.getD i (0, 0)).1 ≤ (xs.getD j (0, 0)).2)))
    (h : Tie (fun j => (xs.getD j (0, 0)).1) (fun j => (xs.getD j (0, 0)).2) n ends tr out dn) :
    Tie (fun j => (xs.getD j (0, 0)).1) (fun j => (xs.getD j (0, 0)).2) n (trackStep xs (ends, tr) i).1 (trackStep xs (ends, tr) i).2 (refStep meet (out, dn) i).1 (refStep meet (out, dn) i).2 := by
  obtain ⟨ho, hl, hmem, htop, hrest, hfew⟩ := h
  subst ho
  have hlen : i < (tr.map fun (x : Nat) => (x : Int)).length := by simpa [hl] using hn
  have hil : i < tr.length := by omega
  have h0 : (tr.map fun (x : Nat) => (x : Int)).getD i 0 = ((0 : Nat) : Int) := by rw [map_getD, hrest i hid]
  have hne : ∀ j ∈ dn, i ≠ j := fun j hj e => hid (e ▸ hj)
  -- a track is hit just if it ends behind the low
  have busy : ∀ t, t < ends.length → (xs.getD i (0, 0)).1 ≤ ends.getD t 0 → ∃ j ∈ dn, (tr.map fun (x : Nat) => (x : Int)).getD j 0 = (t : Int) ∧ meet j i = true := fun t ht hlo => by
    obtain ⟨j, hj, e1, e2⟩ := htop t ht
    refine ⟨j, hj, by rw [map_getD, e1], ?_⟩
    have := hle j hj
    rw [hm j (hmem j hj).1, Bool.and_eq_true, decide_eq_true_eq, decide_eq_true_eq]
    omega
  have free : ∀ t, (t < ends.length → ends.getD t 0 < (xs.getD i (0, 0)).1) → ∀ j ∈ dn, (tr.map fun (x : Nat) => (x : Int)).getD j 0 = (t : Int) → meet j i = false := fun t ht j hj e => by
    rw [map_getD] at e
    have e : tr.getD j 0 = t := by omega
    obtain ⟨m1, m2, m3⟩ := hmem j hj
    rw [e] at m2 m3
    have := ht m2
    rw [hm j m1]
    rw [decide_eq_false (p := (xs.getD i (0, 0)).1 ≤ (xs.getD j (0, 0)).2) (by omega), Bool.and_false]
  unfold trackStep refStep
  simp only
  rcases freeFrom_spec (xs.getD i (0, 0)).1 ends 0 with ⟨f1, f2⟩ | ⟨t, f1, f2, f3, f4⟩
  · rw [if_pos f1]
    have hp := place_spec meet dn i hid (dn.length + 1) (tr.map fun (x : Nat) => (x : Int)) 0 ends.length hlen h0 (Nat.zero_le _) (by omega) (fun t _ ht => busy t ht (f2 t ht)) (free ends.length fun h => absurd h (Nat.lt_irrefl _))
    simp only
    rw [hp, map_set]
    refine ⟨rfl, by simpa using hl, fun j hj => ?_, fun u hu => ?_, fun j hj => ?_, by simp; omega⟩
    · rcases List.mem_append.1 hj with hj | hj
      · obtain ⟨m1, m2, m3⟩ := hmem j hj
        rw [getN_set_ne (hne j hj)]
        refine ⟨m1, by rw [List.length_append]; exact Nat.lt_of_lt_of_le m2 (Nat.le_add_right _ _), ?_⟩
        rw [getD_app m2]
        exact m3
      · rw [List.mem_singleton.1 hj, getN_set_self hil]
        refine ⟨hn, by simp, ?_⟩
        simp [List.getD_eq_getElem?_getD]
    · by_cases hue : u < ends.length
      · obtain ⟨j, hj, e1, e2⟩ := htop u hue
        refine ⟨j, List.mem_append_left _ hj, by rw [getN_set_ne (hne j hj)]; exact e1, ?_⟩
        rw [getD_app hue]
        exact e2
      · obtain rfl : u = ends.length := by simp at hu; omega
        refine ⟨i, by simp, getN_set_self hil, ?_⟩
        simp [List.getD_eq_getElem?_getD]
    · have h1 : j ∉ dn := fun h => hj (List.mem_append_left _ h)
      have h2 : i ≠ j := fun h => hj (by simp [h])
      rw [getN_set_ne h2]; exact hrest j h1
  · have hnn : ¬ freeFrom (xs.getD i (0, 0)).1 0 ends < 0 := by rw [f2]; omega
    have ht : (freeFrom (xs.getD i (0, 0)).1 0 ends).toNat = t := by rw [f2]; omega
    rw [if_neg hnn, ht]
    have hp := place_spec meet dn i hid (dn.length + 1) (tr.map fun (x : Nat) => (x : Int)) 0 t hlen h0 (Nat.zero_le _) (by omega) (fun u _ hu => busy u (by omega) (f4 u hu)) (free t fun _ => f3)
    simp only
    rw [hp, map_set]
    refine ⟨rfl, by simpa using hl, fun j hj => ?_, fun u hu => ?_, fun j hj => ?_, by simp; omega⟩
    · rcases List.mem_append.1 hj with hj | hj
      · obtain ⟨m1, m2, m3⟩ := hmem j hj
        rw [getN_set_ne (hne j hj)]
        refine ⟨m1, by simpa using m2, ?_⟩
        by_cases htt : t = tr.getD j 0
        · rw [← htt] at m3 ⊢
          rw [getD_set_self f1]
          omega
        · rw [getD_set_ne htt]; exact m3
      · rw [List.mem_singleton.1 hj, getN_set_self hil]
        refine ⟨hn, by simpa using f1, ?_⟩
        rw [getD_set_self f1]
        exact Int.le_refl _
    · have hu : u < ends.length := by simpa using hu
      by_cases htt : t = u
      · subst htt
        exact ⟨i, by simp, getN_set_self hil, by rw [getD_set_self f1]⟩
      · obtain ⟨j, hj, e1, e2⟩ := htop u hu
        exact ⟨j, List.mem_append_left _ hj, by rw [getN_set_ne (hne j hj)]; exact e1, by rw [getD_set_ne htt]; exact e2⟩
    · have h1 : j ∉ dn := fun h => hj (List.mem_append_left _ h)
      have h2 : i ≠ j := fun h => hj (by simp [h])
      rw [getN_set_ne h2]; exact hrest j h1

theorem tie_all (xs : List (Int × Int)) (meet : Nat → Nat → Bool) (n : Nat)
    (hii : ∀ i, i < n → (xs.getD i (0, 0)).1 ≤ (xs.getD i (0, 0)).2)
    (hm : ∀ j i, j < n → i < n → meet j i = (decide ((xs.getD j (0, 0)).1 ≤ (xs.getD i (0, 0)).2) && decide ((xs.getD i (0, 0)).1 ≤ (xs.getD j (0, 0)).2))) :
    ∀ (L : List Nat) (s : List Int × List Nat) (r : List Int × List Nat), L.Pairwise (Lo (lowAt xs)) → (∀ b ∈ L, b < n ∧ b ∉ r.2 ∧ ∀ a ∈ r.2, Lo (lowAt xs) a b) →
      Tie (fun j => (xs.getD j (0, 0)).1) (fun j => (xs.getD j (0, 0)).2) n s.1 s.2 r.1 r.2 → Tie (fun j => (xs.getD j (0, 0)).1) (fun j => (xs.getD j (0, 0)).2) n (L.foldl (trackStep xs) s).1 (L.foldl (trackStep xs) s).2 (L.foldl (refStep meet) r).1 (L.foldl (refStep meet) r).2
  | [], s, r, _, _, h => h
  | i :: L, s, r, hp, hb, h => by
    obtain ⟨p1, p2⟩ := List.pairwise_cons.1 hp
    obtain ⟨b1, b2, b3⟩ := hb i List.mem_cons_self
    rw [List.foldl_cons, List.foldl_cons]
    refine tie_all xs meet n hii hm L _ _ p2 (fun b hb' => ?_) (tie_step xs meet n i b1 b2 (fun j hj => ?_) (hii i b1) (fun j hj => hm j i hj b1) h)
    · obtain ⟨c1, c2, c3⟩ := hb b (List.mem_cons_of_mem _ hb')
      have hib := p1 b hb'
      refine ⟨c1, fun hmem => ?_, fun a ha => ?_⟩
      · rcases List.mem_append.1 hmem with g | g
        · exact c2 g
        · rw [List.mem_singleton.1 g] at hib; exact hib.asymm hib
      · rcases List.mem_append.1 ha with g | g
        · exact c3 a g
        · rw [List.mem_singleton.1 g]; exact hib
    · have := b3 j hj
      unfold Lo lowAt at this
      omega
theorem ref_done (meet : Nat → Nat → Bool) : ∀ (L : List Nat) (r : List Int × List Nat), (L.foldl (refStep meet) r).2 = r.2 ++ L
  | [], r => by simp
  | i :: L, r => by rw [List.foldl_cons, ref_done meet L]; simp [refStep]
theorem cnt_spec (l : List Int) : ∀ k, k ≤ l.length → ∃ D : List Int, D.Nodup ∧ D.length = cntUp l k ∧ ∀ v, v ∈ D ↔ v ∈ l.take k
  | 0, _ => ⟨[], List.nodup_nil, rfl, fun v => by simp⟩
  | k + 1, hk => by
    obtain ⟨D, h1, h2, h3⟩ := cnt_spec l k (by omega)
    unfold cntUp
    split
    · rename_i h
      refine ⟨D, h1, h2, fun v => ?_⟩
      rw [h3, take_next hk, List.mem_append, List.mem_singleton]
      exact ⟨.inl, fun g => g.elim id fun e => e ▸ h⟩
    · rename_i h
      refine ⟨l.getD k 0 :: D, List.nodup_cons.2 ⟨fun g => h ((h3 _).1 g), h1⟩, by simp [h2], fun v => ?_⟩
      rw [take_next hk, List.mem_append, List.mem_singleton, List.mem_cons, h3]
      exact ⟨fun g => g.elim .inr .inl, fun g => g.elim .inr .inl⟩
theorem nodup_le : ∀ {D E : List Int}, D.Nodup → (∀ v ∈ D, v ∈ E) → D.length ≤ E.length
  | [], _, _, _ => Nat.zero_le _
  | d :: D, E, h, hs => by
    obtain ⟨h1, h2⟩ := List.nodup_cons.1 h
    have hd := hs d List.mem_cons_self
    have := nodup_le (D := D) (E := E.erase d) h2 fun v hv => (List.mem_erase_of_ne fun (e : v = d) => h1 (by rw [← e]; exact hv)).2 (hs v (List.mem_cons_of_mem _ hv))
    rw [List.length_erase_of_mem hd] at this
    have := List.length_pos_of_mem hd
    simp only [List.length_cons]; omega
theorem nodup_map_cast (m : Nat) : ((List.range m).map fun (x : Nat) => (x : Int)).Nodup := by
  unfold List.Nodup
  rw [List.pairwise_map]
  exact (List.nodup_range (n := m)).imp fun h e => h (Int.ofNat.inj e)
theorem tracks_same (xs : List (Int × Int)) (meet : Nat → Nat → Bool) (P : Nat) (hlo : ∀ i, i < xs.length → 0 ≤ (xs.getD i (0, 0)).1 ∧ (xs.getD i (0, 0)).1 < P)
    (hii : ∀ i, i < xs.length → (xs.getD i (0, 0)).1 ≤ (xs.getD i (0, 0)).2)
    (hm : ∀ j i, j < xs.length → i < xs.length → meet j i = (decide ((xs.getD j (0, 0)).1 ≤ (xs.getD i (0, 0)).2) && decide ((xs.getD i (0, 0)).1 ≤ (xs.getD j (0, 0)).2))) :
    ((refOrd (lowAt xs) xs.length P).foldl (refStep meet) (List.replicate xs.length 0, [])).1 = ((tracksOf xs).2.map fun (x : Nat) => (x : Int)) ∧
      cntUp ((refOrd (lowAt xs) xs.length P).foldl (refStep meet) (List.replicate xs.length 0, [])).1 xs.length = (tracksOf xs).1.length := by
  obtain ⟨o1, o2⟩ := refOrd_spec (lowAt xs) xs.length P
  have h := tie_all xs meet xs.length hii hm (refOrd (lowAt xs) xs.length P) ([], List.replicate xs.length 0) (List.replicate xs.length 0, []) o1 (fun b hb => ⟨((o2 b).1 hb).1, by simp, fun a ha => by cases ha⟩)
    ⟨by simp, by simp, fun j hj => (by cases hj), fun t ht => absurd ht (Nat.not_lt_zero _), fun j _ => by simp only [List.getD_eq_getElem?_getD, List.getElem?_replicate]; split <;> rfl, Nat.le_refl _⟩
  have hT : tracksOf xs = (refOrd (lowAt xs) xs.length P).foldl (trackStep xs) ([], List.replicate xs.length 0) := by
    unfold tracksOf
    rw [sort_refOrd (lowAt xs) xs.length P hlo]
  rw [← hT, ref_done, List.nil_append] at h
  refine ⟨h.out, ?_⟩
  rw [h.out]
  obtain ⟨D, d1, d2, d3⟩ := cnt_spec ((tracksOf xs).2.map fun (x : Nat) => (x : Int)) xs.length (by simp [h.len])
  rw [← d2]
  rw [List.take_of_length_le (by simp [h.len])] at d3
  have hall : ∀ j, j < xs.length → j ∈ refOrd (lowAt xs) xs.length P := fun j hj => (o2 j).2 ⟨hj, hlo j hj⟩
  have e : ∀ v, v ∈ D ↔ v ∈ (List.range (tracksOf xs).1.length).map fun (x : Nat) => (x : Int) := fun v => by
    rw [d3, List.mem_map, List.mem_map]
    constructor
    · rintro ⟨x, hx, rfl⟩
      obtain ⟨j, hj, rfl⟩ := List.mem_iff_getElem.1 hx
      have hj' : j < xs.length := by rw [← h.len]; exact hj
      have := (h.mem j (hall j hj')).2.1
      rw [List.getD_eq_getElem?_getD, List.getElem?_eq_getElem hj] at this
      exact ⟨_, List.mem_range.2 this, rfl⟩
    · rintro ⟨t, ht, rfl⟩
      obtain ⟨j, hj, e1, _⟩ := h.top t (List.mem_range.1 ht)
      have hj' : j < (tracksOf xs).2.length := by rw [h.len]; exact ((o2 j).1 hj).1
      rw [List.getD_eq_getElem?_getD, List.getElem?_eq_getElem hj'] at e1
      exact ⟨t, by rw [← e1]; exact List.getElem_mem _, rfl⟩
  have l1 := nodup_le d1 fun v hv => (e v).1 hv
  have l2 := nodup_le (nodup_map_cast (tracksOf xs).1.length) fun v hv => (e v).2 hv
  simp only [List.length_map, List.length_range] at l1 l2
  omega
end Go.Proofs.YtbldpojkpmafpaaGreatDoor
