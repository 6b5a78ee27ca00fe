/- Package bus, plain: columns under other numbers leave the extents and the crossings as they were. -/
import Derived.Test.YtkjjnnbbicoljaaGreatDoorVCr
namespace Go.Proofs.YtkjjnnbbicoljaaGreatDoor
open Go.RowKit Sv
set_option linter.unusedVariables false
def isum : List Int → Int
  | [] => 0
  | x :: r => x + isum r
theorem isum_app : ∀ (a b : List Int), isum (a ++ b) = isum a + isum b
  | [], b => by simp [isum]
  | x :: r, b => by
    show x + isum (r ++ b) = x + isum r + isum b
    rw [isum_app r b]; omega
theorem isum_perm {a b : List Int} (h : a.Perm b) : isum a = isum b := by
  induction h with
  | nil => rfl
  | cons x _ ih => show x + _ = x + _; rw [ih]
  | swap x y l => show y + (x + isum l) = x + (y + isum l); omega
  | trans _ _ h1 h2 => exact h1.trans h2

/-! ### the columns under other numbers -/
def nameOf (names : List Int) (x : Int) : Int := names.getD x.toNat 0
def pickUp (names cs : List Int) (c : Nat) : Nat → List Int
  | 0 => []
  | k + 1 => if names.getD (cs.getD k 0).toNat 0 = (c : Int) then pickUp names cs c k ++ [(c : Int)] else pickUp names cs c k
def colsUp (names cs : List Int) : Nat → List Int
  | 0 => []
  | c + 1 => colsUp names cs c ++ pickUp names cs c cs.length
theorem pick_filter (names cs : List Int) (c : Nat) : ∀ k, k ≤ cs.length → pickUp names cs c k = ((cs.take k).map (nameOf names)).filter (fun v => decide (v = (c : Int)))
  | 0, _ => by simp [pickUp]
  | k + 1, hk => by
    have ih := pick_filter names cs c k (by omega)
    have e0 : pickUp names cs c (k + 1) = if names.getD (cs.getD k 0).toNat 0 = (c : Int) then pickUp names cs c k ++ [(c : Int)] else pickUp names cs c k := rfl
    rw [e0, take_next (by omega), List.map_append, List.filter_append, ← ih]
    by_cases h : names.getD (cs.getD k 0).toNat 0 = (c : Int)
    · rw [if_pos h]
      have h2 : nameOf names (cs.getD k 0) = (c : Int) := h
      have e : List.filter (fun v => decide (v = (c : Int))) [nameOf names (cs.getD k 0)] = [(c : Int)] := by rw [h2]; simp
      show _ = _ ++ List.filter (fun v => decide (v = (c : Int))) [nameOf names (cs.getD k 0)]
      rw [e]
    · rw [if_neg h]
      have h2 : ¬ nameOf names (cs.getD k 0) = (c : Int) := h
      have e : List.filter (fun v => decide (v = (c : Int))) [nameOf names (cs.getD k 0)] = [] := by
        rw [List.filter_eq_nil_iff]
        intro v hv
        rw [List.mem_singleton.1 hv]
        exact fun hh => h2 (of_decide_eq_true hh)
      show _ = _ ++ List.filter (fun v => decide (v = (c : Int))) [nameOf names (cs.getD k 0)]
      rw [e, List.append_nil]
theorem filter_split (L : List Int) (p q : Int → Bool) (h : ∀ x ∈ L, p x = true → q x = true → False) : (L.filter p ++ L.filter q).Perm (L.filter fun x => p x || q x) := by
  induction L with
  | nil => simp
  | cons x r ih =>
    have ih := ih fun y hy => h y (List.mem_cons_of_mem _ hy)
    have hx := h x List.mem_cons_self
    cases hp : p x with
    | true =>
      have hq : q x = false := by
        cases hq : q x with
        | false => rfl
        | true => exact (hx hp hq).elim
      simp only [List.filter_cons, hp, hq, if_true, Bool.true_or, Bool.false_eq_true, if_false, List.cons_append]
      exact ih.cons x
    | false =>
      cases hq : q x with
      | false =>
        simp only [List.filter_cons, hp, hq, Bool.or_self, Bool.false_eq_true, if_false]
        exact ih
      | true =>
        simp only [List.filter_cons, hp, hq, if_true, Bool.false_or, Bool.false_eq_true, if_false]
        exact List.perm_middle.trans (ih.cons x)
theorem cols_perm (names cs : List Int) (h0 : ∀ x ∈ cs, 0 ≤ nameOf names x) : ∀ c : Nat, (colsUp names cs c).Perm ((cs.map (nameOf names)).filter fun v => decide (v < (c : Int)))
  | 0 => by
    have : (cs.map (nameOf names)).filter (fun v => decide (v < ((0 : Nat) : Int))) = [] := by
      rw [List.filter_eq_nil_iff]
      intro v hv
      obtain ⟨x, hx, rfl⟩ := List.mem_map.1 hv
      have := h0 x hx
      simp; omega
    rw [this]; exact List.Perm.refl _
  | c + 1 => by
    have ih := cols_perm names cs h0 c
    unfold colsUp
    rw [pick_filter names cs c cs.length (Nat.le_refl _), List.take_length]
    refine (ih.append_right _).trans ((filter_split _ _ _ fun x _ h1 h2 => ?_).trans ?_)
    · have h1 := of_decide_eq_true h1
      have h2 := of_decide_eq_true h2
      omega
    · have e : (fun v : Int => decide (v < (c : Int)) || decide (v = (c : Int))) = fun v => decide (v < ((c + 1 : Nat) : Int)) := by
        funext v
        rw [Bool.eq_iff_iff, Bool.or_eq_true, decide_eq_true_iff, decide_eq_true_iff, decide_eq_true_iff]
        omega
      rw [e]
section
variable {nets : List (Int × List Int)} {n : Int} {order names : List Int}
theorem name_in (hN : Bus.orderErr names n = 0) {x : Int} (hx : 0 ≤ x ∧ x < n) : 0 ≤ nameOf names x ∧ nameOf names x < n := by
  obtain ⟨h1, h2, h3⟩ := Bus.orderErr_zero hN
  unfold nameOf
  rw [getD_lt (by omega)]
  exact h3 _ (List.getElem_mem _)
theorem name_inj (hN : Bus.orderErr names n = 0) {x y : Int} (hx : 0 ≤ x ∧ x < n) (hy : 0 ≤ y ∧ y < n) (h : nameOf names x = nameOf names y) : x = y := by
  obtain ⟨h1, h2, h3⟩ := Bus.orderErr_zero hN
  unfold nameOf at h
  rw [getD_lt (by omega), getD_lt (by omega)] at h
  have := (List.getElem_inj h2).1 h
  omega
theorem cols_all (hN : Bus.orderErr names n = 0) {cs : List Int} (hc : ∀ c ∈ cs, 0 ≤ c ∧ c < n) : (colsUp names cs n.toNat).Perm (cs.map (nameOf names)) := by
  have h := cols_perm names cs (fun x hx => (name_in hN (hc x hx)).1) n.toNat
  have e : (cs.map (nameOf names)).filter (fun v => decide (v < ((n.toNat : Nat) : Int))) = cs.map (nameOf names) := by
    rw [List.filter_eq_self]
    intro v hv
    obtain ⟨x, hx, rfl⟩ := List.mem_map.1 hv
    have := (name_in hN (hc x hx)).2
    exact decide_eq_true (by omega)
  rwa [e] at h
/-! ### strictly ascending -/
theorem colErr_app (n : Int) : ∀ (l : List Int) (last x : Int), Bus.colErr n last l = 0 → (∀ y ∈ l, y < x) → last < x → 0 ≤ x → x < n → Bus.colErr n last (l ++ [x]) = 0
  | [], last, x, _, _, h1, h2, h3 => by
    show Bus.colErr n last [x] = 0
    unfold Bus.colErr
    rw [if_neg (by omega), if_neg (by omega)]
    rfl
  | y :: r, last, x, h, hl, h1, h2, h3 => by
    show Bus.colErr n last (y :: (r ++ [x])) = 0
    unfold Bus.colErr at h ⊢
    split at h
    · cases h
    · rename_i g1
      split at h
      · cases h
      · rename_i g2
        rw [if_neg g1, if_neg g2]
        exact colErr_app n r y x h (fun z hz => hl z (List.mem_cons_of_mem _ hz)) (hl y List.mem_cons_self) h2 h3
theorem colErr_nodup (n : Int) : ∀ (l : List Int) (last : Int), Bus.colErr n last l = 0 → l.Nodup ∧ ∀ y ∈ l, last < y
  | [], _, _ => ⟨List.nodup_nil, fun y h => by cases h⟩
  | x :: r, last, h => by
    unfold Bus.colErr at h
    split at h
    · cases h
    · split at h
      · cases h
      · rename_i g1 g2
        obtain ⟨h1, h2⟩ := colErr_nodup n r x h
        refine ⟨List.nodup_cons.2 ⟨fun hm => by have := h2 x hm; omega, h1⟩, fun y hy => ?_⟩
        rcases List.mem_cons.1 hy with rfl | hy
        · omega
        · have := h2 y hy; omega
theorem seg_one {L : List Int} (h : L.Nodup) (c : Int) : L.filter (fun v => decide (v = c)) = [] ∨ L.filter (fun v => decide (v = c)) = [c] := by
  have hn := h.filter (fun v => decide (v = c))
  generalize hF : L.filter (fun v => decide (v = c)) = F at *
  have hm : ∀ x ∈ F, x = c := fun x hx => by
    rw [← hF] at hx
    exact of_decide_eq_true (List.mem_filter.1 hx).2
  match F, hn, hm with
  | [], _, _ => exact .inl rfl
  | [x], _, hm => exact .inr (by rw [hm x (by simp)])
  | x :: y :: r, hn, hm =>
    have e1 := hm x (by simp)
    have e2 := hm y (by simp)
    rw [e1, e2] at hn
    simp at hn
theorem cols_asc (hN : Bus.orderErr names n = 0) {cs : List Int} (hc : ∀ c ∈ cs, 0 ≤ c ∧ c < n) (hd : cs.Nodup) : ∀ c : Nat, (c : Int) ≤ n → Bus.colErr n (-1) (colsUp names cs c) = 0 ∧ ∀ y ∈ colsUp names cs c, y < (c : Int)
  | 0, _ => ⟨rfl, fun y h => by cases h⟩
  | c + 1, hcn => by
    obtain ⟨h1, h2⟩ := cols_asc hN hc hd c (by omega)
    have hmd : (cs.map (nameOf names)).Nodup := by
      unfold List.Nodup
      rw [List.pairwise_map]
      exact hd.imp_of_mem fun {a b} ha hb hab e => hab (name_inj hN (hc a ha) (hc b hb) e)
    unfold colsUp
    rw [pick_filter names cs c cs.length (Nat.le_refl _), List.take_length]
    rcases seg_one hmd (c : Int) with e | e
    · rw [e, List.append_nil]
      exact ⟨h1, fun y hy => by have := h2 y hy; omega⟩
    · rw [e]
      refine ⟨colErr_app n _ _ _ h1 h2 (by omega) (by omega) (by omega), fun y hy => ?_⟩
      rcases List.mem_append.1 hy with g | g
      · have := h2 y g; omega
      · rw [List.mem_singleton.1 g]; omega
/-! ### nets and order under other numbers -/
def renNet (names : List Int) (n : Int) (x : Int × List Int) : Int × List Int := (x.1, colsUp names x.2 n.toNat)
def renOrd (names order : List Int) : List Int := order.map (nameOf names)
theorem ren_nets (hN : Bus.orderErr names n = 0) (hn : 0 ≤ n) : ∀ (l : List (Int × List Int)) (seen : List Int), Bus.netsFrom n seen l = 0 → Bus.netsFrom n seen (l.map (renNet names n)) = 0
  | [], _, _ => rfl
  | x :: r, seen, h => by
    show Bus.netsFrom n seen (renNet names n x :: r.map (renNet names n)) = 0
    have hin := (Bus.netsFrom_mem n (x :: r) seen h x List.mem_cons_self)
    unfold Bus.netsFrom at h ⊢
    split at h
    · cases h
    · rename_i g1
      split at h
      · cases h
      · rename_i g2
        split at h
        · cases h
        · rename_i g3
          split at h
          · rename_i g4; exact absurd h g4
          · rename_i g4
            have g4 : Bus.colErr n (-1) x.2 = 0 := Classical.not_not.1 g4
            obtain ⟨hd, _⟩ := colErr_nodup n x.2 (-1) g4
            have hasc := (cols_asc hN hin.2 hd n.toNat (by omega)).1
            have hp := cols_all hN hin.2
            have hne : (renNet names n x).2 ≠ [] := fun e => by
              have : (renNet names n x).2.length = (x.2.map (nameOf names)).length := hp.length_eq
              rw [e, List.length_map] at this
              exact g3 (List.length_eq_zero_iff.1 this.symm)
            have hasc2 : Bus.colErr n (-1) (renNet names n x).2 = 0 := hasc
            rw [if_neg (show ¬ ((renNet names n x).1 < 0 ∨ 100 ≤ (renNet names n x).1) from g1), if_neg (show ¬ (renNet names n x).1 ∈ seen from g2), if_neg hne, if_neg (fun e => e hasc2)]
            exact ren_nets hN hn r _ h
theorem ren_both (hE : Bus.bothErr nets n order = 0) (hN : Bus.orderErr names n = 0) : Bus.bothErr (nets.map (renNet names n)) n (renOrd names order) = 0 := by
  obtain ⟨e1, e2⟩ := both_iff.1 hE
  obtain ⟨n1, n97, l64, _⟩ := Bus.netsErr_zero e1
  obtain ⟨o1, o2, o3⟩ := Bus.orderErr_zero e2
  refine both_iff.2 ⟨?_, ?_⟩
  · unfold Bus.netsErr at e1 ⊢
    rw [if_neg (by omega), if_neg (by omega)] at e1
    rw [if_neg (by omega), List.length_map, if_neg (by omega)]
    exact ren_nets hN (by omega) nets [] e1
  · unfold Bus.orderErr
    have hl : (renOrd names order).length = order.length := by unfold renOrd; simp
    rw [hl, if_neg (by omega)]
    refine orderFrom_ok n _ _ (fun c hc => ?_) ?_
    · obtain ⟨x, hx, rfl⟩ := List.mem_map.1 hc
      have := name_in hN (o3 x hx)
      exact ⟨this.1, this.2, by simp⟩
    · unfold renOrd List.Nodup
      rw [List.pairwise_map]
      exact o2.imp_of_mem fun {a b} ha hb hab e => hab (name_inj hN (o3 a ha) (o3 b hb) e)
theorem ren_at (hO : Bus.orderErr order n = 0) (hN : Bus.orderErr names n = 0) {c : Int} (hc : 0 ≤ c ∧ c < n) : ∀ k, k ≤ order.length → Bus.atUp (renOrd names order) k (nameOf names c).toNat = Bus.atUp order k c.toNat
  | 0, _ => rfl
  | k + 1, hk => by
    obtain ⟨o1, o2, o3⟩ := Bus.orderErr_zero hO
    have ih := ren_at hO hN hc k (by omega)
    have hk' : k < order.length := by omega
    have hm := o3 _ (List.getElem_mem hk')
    have hn := name_in hN hc
    have e1 : (renOrd names order).getD k (-1) = nameOf names order[k] := by
      unfold renOrd
      simp [List.getD_eq_getElem?_getD, hk']
    have e2 : order.getD k (-1) = order[k] := by simp [List.getD_eq_getElem?_getD, hk']
    unfold Bus.atUp
    rw [ih, e1, e2]
    by_cases h : c = order[k]
    · rw [if_pos (by rw [← h]; omega), if_pos (by omega)]
    · rw [if_neg (fun e => h (name_inj hN hc hm (by omega))), if_neg (by omega)]
theorem ext_set (g g' : Int → Int) (l l' : List Int) (h1 : ∀ c ∈ l, ∃ c' ∈ l', g' c' = g c) (h2 : ∀ c' ∈ l', ∃ c ∈ l, g c = g' c') : Bus.ext g' l' = Bus.ext g l := by
  unfold Bus.ext
  obtain ⟨a1, a2, a3⟩ := foldMin g l 97
  obtain ⟨b1, b2, b3⟩ := foldMin g' l' 97
  obtain ⟨c1, c2, c3⟩ := foldMax g l (-1)
  obtain ⟨d1, d2, d3⟩ := foldMax g' l' (-1)
  refine Prod.ext (Int.le_antisymm (a3 _ b1 fun c hc => ?_) (b3 _ a1 fun c hc => ?_)) (Int.le_antisymm (d3 _ c1 fun c hc => ?_) (c3 _ d1 fun c hc => ?_))
  · obtain ⟨c', h, e⟩ := h1 c hc; rw [← e]; exact b2 c' h
  · obtain ⟨c', h, e⟩ := h2 c hc; rw [← e]; exact a2 c' h
  · obtain ⟨c', h, e⟩ := h2 c hc; rw [← e]; exact c2 c' h
  · obtain ⟨c', h, e⟩ := h1 c hc; rw [← e]; exact d2 c' h
theorem ren_exts (hE : Bus.bothErr nets n order = 0) (hN : Bus.orderErr names n = 0) : extsOf (nets.map (renNet names n)) (renOrd names order) = extsOf nets order := by
  obtain ⟨e1, e2⟩ := both_iff.1 hE
  obtain ⟨n1, n97, l64, hcols⟩ := Bus.netsErr_zero e1
  have hl : (renOrd names order).length = order.length := by unfold renOrd; simp
  unfold extsOf Bus.exts
  rw [List.map_map]
  refine List.map_congr_left fun x hx => ?_
  have hin := (hcols x hx).2
  have hp := cols_all hN hin
  show Bus.ext _ (colsUp names x.2 n.toNat) = Bus.ext _ x.2
  refine ext_set _ _ _ _ (fun c hc => ⟨nameOf names c, hp.mem_iff.2 (List.mem_map_of_mem hc), ?_⟩) fun c' hc => ?_
  · show Bus.atUp (renOrd names order) (renOrd names order).length (nameOf names c).toNat = Bus.atUp order order.length c.toNat
    rw [hl]; exact ren_at e2 hN (hin c hc) _ (Nat.le_refl _)
  · obtain ⟨c, hc2, rfl⟩ := List.mem_map.1 (hp.mem_iff.1 hc)
    refine ⟨c, hc2, ?_⟩
    show Bus.atUp order order.length c.toNat = Bus.atUp (renOrd names order) (renOrd names order).length (nameOf names c).toNat
    rw [hl]; exact (ren_at e2 hN (hin c hc2) _ (Nat.le_refl _)).symm
/-! ### the crossings -/
theorem run_free (f : Nat → Int) (most : Int) (L : Nat) (hf : ∀ x, 0 ≤ f x ∧ f x ≤ L) : ∀ (pre : List Nat) (s0 : Int), 0 ≤ s0 → s0 + (pre.length * L : Nat) ≤ most → crossRun f most s0 pre = (s0 + isum (pre.map f), false)
  | [], s0, _, _ => by simp [crossRun, isum]
  | x :: r, s0, h0, h => by
    have h1 := hf x
    have e : ((x :: r).length * L : Nat) = r.length * L + L := by rw [List.length_cons, Nat.add_mul, Nat.one_mul]
    rw [e] at h
    unfold crossRun
    rw [if_neg (by omega), run_free f most L hf r (s0 + f x) (by omega) (by omega)]
    show (s0 + f x + isum (r.map f), false) = (s0 + (f x + isum (r.map f)), false)
    rw [Int.add_assoc]
theorem range_getD (taps : List (Nat × Int)) (h : Nat × Int → Int) : (List.range taps.length).map (fun x => h (taps.getD x (0, 0))) = taps.map h := by
  apply List.ext_getElem
  · simp
  · intro i h1 h2
    have hi : i < taps.length := by simpa using h1
    simp [List.getD_eq_getElem?_getD, hi]
/-- the crossings as a sum over all taps -/
def crossSum (xs : List (Int × Int)) (ts : List Int) (taps : List (Nat × Int)) : Int := isum (taps.map fun t => crossUp xs ts t.1 t.2 xs.length)
theorem cross_sum (hE : Bus.bothErr nets n order = 0) (ts : List Int) : crossOf nets order ts 1099511627776 = crossSum (extsOf nets order) ts (tapFrom (Bus.atUp order order.length) 0 (nets.map Prod.snd)) := by
  obtain ⟨e1, e2⟩ := both_iff.1 hE
  obtain ⟨n1, n97, l64, _⟩ := Bus.netsErr_zero e1
  have hT := taps_few (l := mkNets nets) (n := n) (by rw [mkNets_net]; exact e1) (Bus.atUp order order.length)
  have e : (mkNets nets).map NetAt.cols = nets.map Prod.snd := by
    have : (mkNets nets).map NetAt.cols = ((mkNets nets).map NetAt.net).map Prod.snd := by rw [List.map_map]; rfl
    rw [this, mkNets_net]
  rw [e] at hT
  have hxl := extsOf_len nets order
  unfold crossOf
  have hf : ∀ x, 0 ≤ tapF (extsOf nets order) ts (tapFrom (Bus.atUp order order.length) 0 (nets.map Prod.snd)) x ∧ tapF (extsOf nets order) ts (tapFrom (Bus.atUp order order.length) 0 (nets.map Prod.snd)) x ≤ (64 : Nat) := fun x => by
    unfold tapF
    have := crossUp_lo (extsOf nets order) ts ((tapFrom (Bus.atUp order order.length) 0 (nets.map Prod.snd)).getD x (0, 0)).1 ((tapFrom (Bus.atUp order order.length) 0 (nets.map Prod.snd)).getD x (0, 0)).2 (extsOf nets order).length
    omega
  have hb : (List.range (tapFrom (Bus.atUp order order.length) 0 (nets.map Prod.snd)).length).length * 64 ≤ 6208 * 64 := Nat.mul_le_mul_right _ (by rw [List.length_range]; exact hT)
  have hr := run_free _ 1099511627776 64 hf (List.range (tapFrom (Bus.atUp order order.length) 0 (nets.map Prod.snd)).length) 0 (Int.le_refl _) (by omega)
  have hr2 := congrArg Prod.fst hr
  refine hr2.trans ?_
  show 0 + isum _ = crossSum _ _ _
  rw [Int.zero_add]
  unfold crossSum
  rw [← range_getD]
  rfl
theorem tap_sum (h : Nat × Int → Int) (F F' : Nat → Int) : ∀ (ls ls' : List (List Int)) (i : Nat), ls.length = ls'.length → (∀ k, k < ls.length → ((ls'.getD k []).map fun x => F' x.toNat).Perm ((ls.getD k []).map fun x => F x.toNat)) → isum ((tapFrom F' i ls').map h) = isum ((tapFrom F i ls).map h)
  | [], [], _, _, _ => rfl
  | [], _ :: _, _, hl, _ => by cases hl
  | _ :: _, [], _, hl, _ => by cases hl
  | c :: r, c' :: r', i, hl, hp => by
    unfold tapFrom
    rw [List.map_append, List.map_append, isum_app, isum_app, tap_sum h F F' r r' (i + 1) (by simpa using hl) fun k hk => by simpa using hp (k + 1) (by simpa using hk)]
    have h0 : (c'.map fun x => F' x.toNat).Perm (c.map fun x => F x.toNat) := by simpa using hp 0 (by simp)
    have h1 := h0.map (fun v => h (i, v))
    rw [List.map_map, List.map_map] at h1
    rw [List.map_map, List.map_map]
    have := isum_perm h1
    show isum (c'.map fun x => h (i, F' x.toNat)) + _ = isum (c.map fun x => h (i, F x.toNat)) + _
    have e : isum (c'.map fun x => h (i, F' x.toNat)) = isum (c.map fun x => h (i, F x.toNat)) := this
    rw [e]
theorem ren_cross (hE : Bus.bothErr nets n order = 0) (hN : Bus.orderErr names n = 0) (ts : List Int) : crossOf (nets.map (renNet names n)) (renOrd names order) ts 1099511627776 = crossOf nets order ts 1099511627776 := by
  obtain ⟨e1, e2⟩ := both_iff.1 hE
  obtain ⟨n1, n97, l64, hcols⟩ := Bus.netsErr_zero e1
  have hl : (renOrd names order).length = order.length := by unfold renOrd; simp
  rw [cross_sum (ren_both hE hN), cross_sum hE, ren_exts hE hN]
  unfold crossSum
  refine tap_sum _ _ _ _ _ 0 (by simp) fun k hk => ?_
  have hk : k < nets.length := by simpa using hk
  have g1 : (nets.map Prod.snd).getD k [] = nets[k].2 := by simp [List.getD_eq_getElem?_getD, hk]
  have g2 : ((nets.map (renNet names n)).map Prod.snd).getD k [] = colsUp names nets[k].2 n.toNat := by simp [List.getD_eq_getElem?_getD, hk, renNet]
  rw [g1, g2]
  have hin := (hcols _ (List.getElem_mem hk)).2
  have hp := (cols_all hN hin).map fun x => Bus.atUp (renOrd names order) (renOrd names order).length x.toNat
  refine hp.trans ?_
  rw [List.map_map]
  have e : (nets[k].2.map ((fun x : Int => Bus.atUp (renOrd names order) (renOrd names order).length x.toNat) ∘ nameOf names)) = nets[k].2.map fun x => Bus.atUp order order.length x.toNat := by
    refine List.map_congr_left fun c hc => ?_
    show Bus.atUp (renOrd names order) (renOrd names order).length (nameOf names c).toNat = _
    rw [hl]
    exact ren_at e2 hN (hin c hc) _ (Nat.le_refl _)
  rw [e]
end
end Go.Proofs.YtkjjnnbbicoljaaGreatDoor
