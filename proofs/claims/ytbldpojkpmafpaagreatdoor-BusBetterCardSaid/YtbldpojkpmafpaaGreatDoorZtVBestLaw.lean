/- Package bus, plain: columns under other numbers leave the extents and the crossings as they were. -/
import Derived.Test.YtbldpojkpmafpaaGreatDoorZtVCr
import Derived.Lib.SlicesCompact
import Derived.Test.YtbldpojkpmafpaaGreatDoorZtVSm
namespace Go.Proofs.YtbldpojkpmafpaaGreatDoor
open Go.RowKit Sv
set_option linter.unusedVariables false
def isum : List Int → Int
  | [] => 0
  | x :: r => x + isum r
theorem isum_app : ∀ (a b : List Int), isum (a ++ b) = isum a + isum b
  | [], b => by simp [isum]
  | x :: r, b => by
    show x + isum (r ++ b) = x + isum r + isum b
    rw [isum_app r b]; omega
def nameOf (names : List Int) (x : Int) : Int := names.getD x.toNat 0
section
variable {nets : List (Int × List Int)} {n : Int} {order names : List Int}
theorem name_in (hN : Bus.orderErr names n = 0) {x : Int} (hx : 0 ≤ x ∧ x < n) : 0 ≤ nameOf names x ∧ nameOf names x < n := by
  obtain ⟨h1, h2, h3⟩ := Bus.orderErr_zero hN
  unfold nameOf
  rw [getD_lt (by omega)]
  exact h3 _ (List.getElem_mem _)
theorem name_inj (hN : Bus.orderErr names n = 0) {x y : Int} (hx : 0 ≤ x ∧ x < n) (hy : 0 ≤ y ∧ y < n) (h : nameOf names x = nameOf names y) : x = y := by
  obtain ⟨h1, h2, h3⟩ := Bus.orderErr_zero hN
  unfold nameOf at h
  rw [getD_lt (by omega), getD_lt (by omega)] at h
  have := (List.getElem_inj h2).1 h
  omega
def renOrd (names order : List Int) : List Int := order.map (nameOf names)
theorem ren_at (hO : Bus.orderErr order n = 0) (hN : Bus.orderErr names n = 0) {c : Int} (hc : 0 ≤ c ∧ c < n) : ∀ k, k ≤ order.length → Bus.atUp (renOrd names order) k (nameOf names c).toNat = Bus.atUp order k c.toNat
  | 0, _ => rfl
  | k + 1, hk => by
    obtain ⟨o1, o2, o3⟩ := Bus.orderErr_zero hO
    have ih := ren_at hO hN hc k (by omega)
    have hk' : k < order.length := by omega
    have hm := o3 _ (List.getElem_mem hk')
    have hn := name_in hN hc
    have e1 : (renOrd names order).getD k (-1) = nameOf names order[k] := by
      unfold renOrd
      simp [List.getD_eq_getElem?_getD, hk']
    have e2 : order.getD k (-1) = order[k] := by simp [List.getD_eq_getElem?_getD, hk']
    unfold Bus.atUp
    rw [ih, e1, e2]
    by_cases h : c = order[k]
    · rw [if_pos (by rw [← h]; omega), if_pos (by omega)]
    · rw [if_neg (fun e => h (name_inj hN hc hm (by omega))), if_neg (by omega)]
theorem run_free (f : Nat → Int) (most : Int) (L : Nat) (hf : ∀ x, 0 ≤ f x ∧ f x ≤ L) : ∀ (pre : List Nat) (s0 : Int), 0 ≤ s0 → s0 + (pre.length * L : Nat) ≤ most → crossRun f most s0 pre = (s0 + isum (pre.map f), false)
  | [], s0, _, _ => by simp [crossRun, isum]
  | x :: r, s0, h0, h => by
    have h1 := hf x
    have e : ((x :: r).length * L : Nat) = r.length * L + L := by rw [List.length_cons, Nat.add_mul, Nat.one_mul]
    rw [e] at h
    unfold crossRun
    rw [if_neg (by omega), run_free f most L hf r (s0 + f x) (by omega) (by omega)]
    show (s0 + f x + isum (r.map f), false) = (s0 + (f x + isum (r.map f)), false)
    rw [Int.add_assoc]
theorem range_getD (taps : List (Nat × Int)) (h : Nat × Int → Int) : (List.range taps.length).map (fun x => h (taps.getD x (0, 0))) = taps.map h := by
  apply List.ext_getElem
  · simp
  · intro i h1 h2
    have hi : i < taps.length := by simpa using h1
    simp [List.getD_eq_getElem?_getD, hi]
def crossSum (xs : List (Int × Int)) (ts : List Int) (taps : List (Nat × Int)) : Int := isum (taps.map fun t => crossUp xs ts t.1 t.2 xs.length)
theorem cross_sum (hE : Bus.bothErr nets n order = 0) (ts : List Int) : crossOf nets order ts 1099511627776 = crossSum (extsOf nets order) ts (tapFrom (Bus.atUp order order.length) 0 (nets.map Prod.snd)) := by
  obtain ⟨e1, e2⟩ := both_iff.1 hE
  obtain ⟨n1, n97, l64, _⟩ := Bus.netsErr_zero e1
  have hT := taps_few (l := mkNets nets) (n := n) (by rw [mkNets_net]; exact e1) (Bus.atUp order order.length)
  have e : (mkNets nets).map NetAt.cols = nets.map Prod.snd := by
    have : (mkNets nets).map NetAt.cols = ((mkNets nets).map NetAt.net).map Prod.snd := by rw [List.map_map]; rfl
    rw [this, mkNets_net]
  rw [e] at hT
  have hxl := extsOf_len nets order
  unfold crossOf
  have hf : ∀ x, 0 ≤ tapF (extsOf nets order) ts (tapFrom (Bus.atUp order order.length) 0 (nets.map Prod.snd)) x ∧ tapF (extsOf nets order) ts (tapFrom (Bus.atUp order order.length) 0 (nets.map Prod.snd)) x ≤ (64 : Nat) := fun x => by
    unfold tapF
    have := crossUp_lo (extsOf nets order) ts ((tapFrom (Bus.atUp order order.length) 0 (nets.map Prod.snd)).getD x (0, 0)).1 ((tapFrom (Bus.atUp order order.length) 0 (nets.map Prod.snd)).getD x (0, 0)).2 (extsOf nets order).length
    omega
  have hb : (List.range (tapFrom (Bus.atUp order order.length) 0 (nets.map Prod.snd)).length).length * 64 ≤ 6208 * 64 := Nat.mul_le_mul_right _ (by rw [List.length_range]; exact hT)
  have hr := run_free _ 1099511627776 64 hf (List.range (tapFrom (Bus.atUp order order.length) 0 (nets.map Prod.snd)).length) 0 (Int.le_refl _) (by omega)
  have hr2 := congrArg Prod.fst hr
  refine hr2.trans ?_
  show 0 + isum _ = crossSum _ _ _
  rw [Int.zero_add]
  unfold crossSum
  rw [← range_getD]
  rfl
end
end Go.Proofs.YtbldpojkpmafpaaGreatDoor

/- Package bus and its reference, plain: the crossings, the table of the tracks, the bound. -/
namespace Go.Proofs.YtbldpojkpmafpaaGreatDoor
open Go.RowKit Sv
set_option linter.unusedVariables false
def sm (f : Nat → Int) : Nat → Int
  | 0 => 0
  | k + 1 => sm f k + f k
theorem sm_congr {f g : Nat → Int} : ∀ {n : Nat}, (∀ k, k < n → f k = g k) → sm f n = sm g n
  | 0, _ => rfl
  | n + 1, h => by rw [sm, sm, sm_congr fun k hk => h k (by omega), h n (by omega)]
theorem sm_add (f g : Nat → Int) : ∀ n, sm (fun k => f k + g k) n = sm f n + sm g n
  | 0 => rfl
  | n + 1 => by rw [sm, sm, sm, sm_add f g n]; omega
theorem sm_cons (f : Nat → Int) : ∀ n, sm f (n + 1) = f 0 + sm (fun k => f (k + 1)) n
  | 0 => by simp [sm]
  | n + 1 => by rw [sm, sm_cons f n, sm]; omega
theorem isum_sm (g : Int → Int) : ∀ l : List Int, isum (l.map g) = sm (fun k => g (l.getD k 0)) l.length
  | [] => rfl
  | x :: r => by
    show g x + isum (r.map g) = _
    rw [List.length_cons, sm_cons, isum_sm g r]; simp
theorem tap_sm (h : Nat × Int → Int) (F : Nat → Int) : ∀ (ls : List (List Int)) (i : Nat), isum ((tapFrom F i ls).map h) = sm (fun j => sm (fun c => h (i + j, F ((ls.getD j []).getD c 0).toNat)) (ls.getD j []).length) ls.length
  | [], i => rfl
  | c :: r, i => by
    show isum ((c.map (fun x => (i, F x.toNat)) ++ tapFrom F (i + 1) r).map h) = _
    rw [List.map_append, isum_app, List.map_map, tap_sm h F r (i + 1), List.length_cons, sm_cons]
    have e := isum_sm (h ∘ fun x => (i, F x.toNat)) c
    rw [e]
    congr 1
    refine sm_congr fun j _ => ?_
    have : i + 1 + j = i + (j + 1) := by omega
    rw [this]; simp
theorem isum_bd {α : Type} (f : α → Int) (L : Nat) (h : ∀ x, 0 ≤ f x ∧ f x ≤ L) : ∀ l : List α, 0 ≤ isum (l.map f) ∧ isum (l.map f) ≤ (l.length * L : Nat)
  | [] => by simp [isum]
  | x :: r => by
    have h1 := isum_bd f L h r
    have h2 := h x
    have e : ((x :: r).length * L : Nat) = r.length * L + L := by rw [List.length_cons, Nat.add_mul, Nat.one_mul]
    rw [e]
    show 0 ≤ f x + isum (r.map f) ∧ f x + isum (r.map f) ≤ _
    omega
theorem cross_up_sm (xs : List (Int × Int)) (ts : List Int) (i : Nat) (p : Int) : ∀ k, crossUp xs ts i p k = sm (fun k => if ts.getD k 0 < ts.getD i 0 ∧ covB xs k p = true then 1 else 0) k
  | 0 => rfl
  | k + 1 => by
    rw [crossUp, cross_up_sm xs ts i p k, sm]
    congr 1
    by_cases b : covB xs k p = true
    · rw [b, Bool.and_true]; simp
    · have b : covB xs k p = false := by simpa using b
      rw [b, Bool.and_false]; simp
theorem cols_at (nets : List (Int × List Int)) (j : Nat) : (nets.map Prod.snd).getD j [] = (nets.getD j (0, [])).2 := by
  simp only [List.getD_eq_getElem?_getD, List.getElem?_map]
  cases nets[j]? <;> rfl
end Go.Proofs.YtbldpojkpmafpaaGreatDoor

/- The reference of package bus: over, Under, used, Crossings, Bound, Mirror as contracts on plain data. -/
namespace Go.Proofs.YtbldpojkpmafpaaGreatDoor
open Go.RowKit Sv
set_option maxRecDepth 100000
set_option linter.unusedVariables false
noncomputable section
abbrev layE (j : Nat) (order ts : List Int) : Nat × Ent := (j, .blk (.cells 29 [lv order, lv ts] true false false))
abbrev nilLay (j : Nat) : Nat × Ent := (j, .blk (.cells 29 [.raw (.slice none 0 0), .raw (.slice none 0 0)] true false false))
end
end Go.Proofs.YtbldpojkpmafpaaGreatDoor

/- The best order of the columns, in plain Lean. -/
namespace Go.Proofs.YtbldpojkpmafpaaGreatDoor
open Go.RowKit Sv
set_option linter.unusedVariables false
section
variable {nets : List (Int × List Int)} {n : Int} {o : List Int}
theorem isum_nn (f : Nat → Int) (hf : ∀ x, 0 ≤ f x) : ∀ l : List Nat, 0 ≤ isum (l.map f)
  | [] => Int.le_refl _
  | x :: r => by
    have h1 := hf x
    have h2 := isum_nn f hf r
    show 0 ≤ f x + isum (r.map f)
    omega
theorem run_cmp (f : Nat → Int) (hf : ∀ x, 0 ≤ f x) (most : Int) : ∀ (l : List Nat) (s0 : Int), s0 ≤ most →
    (s0 + isum (l.map f) ≤ most ∧ crossRun f most s0 l = (s0 + isum (l.map f), false)) ∨ (most < s0 + isum (l.map f) ∧ most < (crossRun f most s0 l).1)
  | [], s0, h => .inl ⟨by simp [isum]; exact h, by simp [crossRun, isum]⟩
  | x :: r, s0, h => by
    have hx := hf x
    have hr := isum_nn f hf r
    have e : s0 + isum ((x :: r).map f) = (s0 + f x) + isum (r.map f) := by show s0 + (f x + isum (r.map f)) = _; omega
    rw [e]
    unfold crossRun
    by_cases hm : most < s0 + f x
    · rw [if_pos hm]
      exact .inr ⟨by omega, hm⟩
    · rw [if_neg hm]
      exact run_cmp f hf most r (s0 + f x) (by omega)
theorem tap_congr (F F' : Nat → Int) (h : ∀ k, k < 97 → F k = F' k) : ∀ (ls : List (List Int)) (i : Nat), (∀ c ∈ ls, ∀ x ∈ c, 0 ≤ x ∧ x < 97) → tapFrom F i ls = tapFrom F' i ls
  | [], _, _ => rfl
  | c :: r, i, hc => by
    unfold tapFrom
    rw [tap_congr F F' h r (i + 1) fun d hd => hc d (List.mem_cons_of_mem _ hd)]
    congr 1
    refine List.map_congr_left fun x hx => ?_
    have := hc c List.mem_cons_self x hx
    rw [h x.toNat (by omega)]
abbrev manyI : Int := 1099511627776
abbrev trkO (nets : List (Int × List Int)) (o : List Int) : List Int := toI (tracksOf (extsOf nets o)).2
abbrev numO (nets : List (Int × List Int)) (o : List Int) : Int := (((tracksOf (extsOf nets o)).1.length : Nat) : Int)
abbrev crsO (nets : List (Int × List Int)) (o : List Int) : Int := crossOf nets o (trkO nets o) manyI
def valOf (nets : List (Int × List Int)) (o : List Int) : List Int := [crsO nets o, numO nets o, sumExt (extsOf nets o)]
theorem nets97 (hE : Bus.bothErr nets n o = 0) : ∀ x ∈ nets, ∀ c ∈ x.2, 0 ≤ c ∧ c < 97 := fun x hx c hc => by
  obtain ⟨n1, n97, l64, hcols⟩ := Bus.netsErr_zero (both_iff.1 hE).1
  have := (hcols x hx).2 c hc
  omega
theorem row_taps (hE : Bus.bothErr nets n o = 0) : tapFrom (getI 97 (rowD nets o).2.1) 0 ((rowD nets o).1.map Prod.snd) = tapFrom (Bus.atUp o o.length) 0 (nets.map Prod.snd) := by
  refine tap_congr _ _ (fun k hk => ?_) _ _ fun c hc => ?_
  · show getI 97 (mkI (Bus.atUp o o.length) 97 0) k = _
    rw [getI_mkI _ _ _ _ hk, Nat.zero_add]
  · obtain ⟨x, hx, rfl⟩ := List.mem_map.1 hc
    exact nets97 hE x hx
theorem crossD_of (hE : Bus.bothErr nets n o = 0) (ts : List Int) (most : Int) : crossD (rowD nets o) ts most = crossOf nets o ts most := by
  unfold crossD crossOf
  rw [row_taps hE]
  rfl
theorem tapF_bd (hE : Bus.bothErr nets n o = 0) (ts : List Int) (taps : List (Nat × Int)) (x : Nat) : 0 ≤ tapF (extsOf nets o) ts taps x ∧ tapF (extsOf nets o) ts taps x ≤ (64 : Nat) := by
  obtain ⟨n1, n97, l64, hcols⟩ := Bus.netsErr_zero (both_iff.1 hE).1
  unfold tapF
  have := crossUp_lo (extsOf nets o) ts (taps.getD x (0, 0)).1 (taps.getD x (0, 0)).2 (extsOf nets o).length
  have := extsOf_len nets o
  omega
theorem cross_full (hE : Bus.bothErr nets n o = 0) (ts : List Int) : crossOf nets o ts manyI = 0 + isum ((List.range (tapFrom (Bus.atUp o o.length) 0 (nets.map Prod.snd)).length).map (tapF (extsOf nets o) ts (tapFrom (Bus.atUp o o.length) 0 (nets.map Prod.snd)))) := by
  rw [show manyI = 1099511627776 from rfl, cross_sum hE, Int.zero_add]
  unfold crossSum
  rw [← range_getD]
  rfl
theorem cross_bd (hE : Bus.bothErr nets n o = 0) (ts : List Int) : 0 ≤ crossOf nets o ts manyI ∧ crossOf nets o ts manyI ≤ 397312 := by
  have hf := tapF_bd hE ts (tapFrom (Bus.atUp o o.length) 0 (nets.map Prod.snd))
  have h := isum_bd _ 64 hf (List.range (tapFrom (Bus.atUp o o.length) 0 (nets.map Prod.snd)).length)
  have hT := taps_few (l := mkNets nets) (n := n) (by rw [mkNets_net]; exact (both_iff.1 hE).1) (Bus.atUp o o.length)
  have e : (mkNets nets).map NetAt.cols = nets.map Prod.snd := by
    have : (mkNets nets).map NetAt.cols = ((mkNets nets).map NetAt.net).map Prod.snd := by rw [List.map_map]; rfl
    rw [this, mkNets_net]
  rw [e] at hT
  rw [cross_full hE, Int.zero_add]
  have hb : (List.range (tapFrom (Bus.atUp o o.length) 0 (nets.map Prod.snd)).length).length * 64 ≤ 6208 * 64 := Nat.mul_le_mul_right _ (by rw [List.length_range]; exact hT)
  omega
theorem own_lt (hE : Bus.bothErr nets n o = 0) {r0 : Int} (h0 : 0 ≤ r0) (ts : List Int) (N L : Int) (rest : List Int) :
    lexB [crossOf nets o ts r0, N, L] (r0 :: rest) = lexB [crossOf nets o ts manyI, N, L] (r0 :: rest) ∧ (lexB [crossOf nets o ts manyI, N, L] (r0 :: rest) = true → crossOf nets o ts r0 = crossOf nets o ts manyI) := by
  have hf := tapF_bd hE ts (tapFrom (Bus.atUp o o.length) 0 (nets.map Prod.snd))
  have h := run_cmp _ (fun x => (hf x).1) r0 (List.range (tapFrom (Bus.atUp o o.length) 0 (nets.map Prod.snd)).length) 0 h0
  rw [← cross_full hE] at h
  rcases h with ⟨_, h2⟩ | ⟨h1, h2⟩
  · have e : crossOf nets o ts r0 = crossOf nets o ts manyI := by
      have h3 := congrArg Prod.fst h2
      exact h3
    rw [e]
    exact ⟨rfl, fun _ => rfl⟩
  · have h2 : r0 < crossOf nets o ts r0 := h2
    simp only [lexB]
    rw [if_neg (by omega), if_neg (by omega), decide_eq_false (by omega), decide_eq_false (by omega)]
    exact ⟨rfl, fun h => by cases h⟩
def rk0 (nets : List (Int × List Int)) : Option (List Int) → Int
  | none => manyI
  | some b => crsO nets b
def rk1 (nets : List (Int × List Int)) : Option (List Int) → Int
  | none => manyI
  | some b => numO nets b
def rk2 (nets : List (Int × List Int)) : Option (List Int) → Int
  | none => manyI
  | some b => sumExt (extsOf nets b)
def bOrd : Option (List Int) → List Int
  | none => []
  | some b => b
def bTrk (nets : List (Int × List Int)) : Option (List Int) → List Int
  | none => []
  | some b => trkO nets b
theorem rk0_nn {st : Option (List Int)} (hst : ∀ b, st = some b → Bus.bothErr nets n b = 0) : 0 ≤ rk0 nets st ∧ rk0 nets st ≤ manyI := by
  cases st with
  | none => exact ⟨show (0 : Int) ≤ manyI by decide, Int.le_refl _⟩
  | some b =>
    have h := cross_bd (hst b rfl) (trkO nets b)
    show 0 ≤ crsO nets b ∧ crsO nets b ≤ manyI
    have h2 : crsO nets b = crossOf nets b (trkO nets b) manyI := rfl
    rw [h2]
    constructor
    · exact h.1
    · exact Int.le_trans h.2 (by decide)
theorem best_take (hE : Bus.bothErr nets n o = 0) {st : Option (List Int)} (hst : ∀ b, st = some b → Bus.bothErr nets n b = 0)
    (h : lexB [crossD (rowD nets o) (trkO nets o) (rk0 nets st), numO nets o, sumExt (extsOf nets o)] [rk0 nets st, rk1 nets st, rk2 nets st] = true) :
    bestStep (valOf nets) lexB st o = some o ∧ crossD (rowD nets o) (trkO nets o) (rk0 nets st) = crsO nets o := by
  rw [crossD_of hE] at h ⊢
  obtain ⟨h1, h2⟩ := own_lt hE (rk0_nn hst).1 (trkO nets o) (numO nets o) (sumExt (extsOf nets o)) [rk1 nets st, rk2 nets st]
  rw [h1] at h
  refine ⟨?_, h2 h⟩
  cases st with
  | none => rfl
  | some b =>
    show (if lexB (valOf nets o) (valOf nets b) = true then some o else some b) = some o
    rw [if_pos (show lexB (valOf nets o) (valOf nets b) = true from h)]
theorem best_keep (hE : Bus.bothErr nets n o = 0) {st : Option (List Int)} (hst : ∀ b, st = some b → Bus.bothErr nets n b = 0)
    (h : lexB [crossD (rowD nets o) (trkO nets o) (rk0 nets st), numO nets o, sumExt (extsOf nets o)] [rk0 nets st, rk1 nets st, rk2 nets st] = false) :
    bestStep (valOf nets) lexB st o = st := by
  rw [crossD_of hE] at h
  obtain ⟨h1, h2⟩ := own_lt hE (rk0_nn hst).1 (trkO nets o) (numO nets o) (sumExt (extsOf nets o)) [rk1 nets st, rk2 nets st]
  rw [h1] at h
  cases st with
  | none =>
    have hb := cross_bd hE (trkO nets o)
    have h : lexB [crossOf nets o (trkO nets o) manyI, numO nets o, sumExt (extsOf nets o)] [manyI, manyI, manyI] = false := h
    simp only [lexB] at h
    rw [if_neg (by intro e; rw [e] at hb; exact absurd hb.2 (by decide))] at h
    have h := of_decide_eq_false h
    have h3 : (397312 : Int) < manyI := by decide
    omega
  | some b =>
    show (if lexB (valOf nets o) (valOf nets b) = true then some o else some b) = some b
    rw [if_neg (by rw [show lexB (valOf nets o) (valOf nets b) = false from h]; simp)]
theorem ord_err {m : Nat} {p : List Int} (h : IsOrd m p) : Bus.orderErr p m = 0 := by
  unfold Bus.orderErr
  rw [if_neg (by rw [h.len]; exact fun h => h rfl)]
  exact orderFrom_ok _ _ _ (fun c hc => ⟨(h.bd c hc).1, (h.bd c hc).2, by simp⟩) h.nd
theorem ord_both {m : Nat} {p : List Int} (hN : Bus.netsErr nets m = 0) (h : IsOrd m p) : Bus.bothErr nets m p = 0 := both_iff.2 ⟨hN, ord_err h⟩
theorem ext_ne (m : Nat) : ext m m [] ≠ [] := fun h => by
  have : ((List.range m).map fun (k : Nat) => (k : Int)) ∈ ext m m [] := (ord_mem m _).2 ⟨by simp, fun x hx => by
    obtain ⟨k, hk, rfl⟩ := List.mem_map.1 hx
    have := List.mem_range.1 hk
    omega, nodup_map_cast m⟩
  rw [h] at this
  cases this
def bestO (nets : List (Int × List Int)) (m : Nat) : Option (List Int) := bestOf (valOf nets) lexB (ext m m [])
theorem best_some (m : Nat) : ∃ b, bestO nets m = some b ∧ IsOrd m b := by
  rcases bestOf_mem (valOf nets) lexB (ext m m []) with ⟨h, _⟩ | ⟨b, h1, h2⟩
  · exact absurd h (ext_ne m)
  · exact ⟨b, h1, (ord_mem m b).1 h2⟩
end
end Go.Proofs.YtbldpojkpmafpaaGreatDoor
