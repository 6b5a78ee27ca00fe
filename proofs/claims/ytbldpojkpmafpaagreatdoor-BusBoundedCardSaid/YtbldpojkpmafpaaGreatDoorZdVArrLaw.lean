/- Package bus: what Bound returns. -/
import Derived.Test.YtbldpojkpmafpaaGreatDoorZdVRef7
namespace Go.Proofs.YtbldpojkpmafpaaGreatDoor
open Go.RowKit Sv
set_option maxRecDepth 100000
set_option linter.unusedVariables false
noncomputable section
def bndPRow (tab : List (List Int)) (i k : Nat) : Int := sm (fun k => mn ((tab.getD i []).getD k 0) ((tab.getD k []).getD i 0)) k
def bndP (tab : List (List Int)) (i : Nat) : Int := sm (fun i => bndPRow tab i i) i
theorem bdB_end : List.drop 3 (fl BBd dB) = [] := by kernel_rfl
theorem bd_ok : CallOk Tryz.prog (gS bdCs) := ctrs_ok fun c hc => by
  simp only [List.mem_cons, List.not_mem_nil, or_false] at hc
  rcases hc with rfl | rfl
  · exact cLayB_ok
  · exact cPairs_ok
theorem tab_at {nets : List (Int × List Int)} {order ts : List Int} {i k : Nat} (hi : i < (trkU ts).length) (hk : k < (trkU ts).length) : ((tabOf nets order ts).getD i []).getD k 0 = tabF nets order ts ((trkU ts).getD i 0) ((trkU ts).getD k 0) := by
  unfold tabOf
  simp only [List.getD_eq_getElem?_getD, List.getElem?_map, List.getElem?_eq_getElem hi, Option.map_some, Option.getD_some, List.getElem?_eq_getElem hk]
theorem tab_row {nets : List (Int × List Int)} {order ts : List Int} {i : Nat} (hi : i < (trkU ts).length) : ((tabOf nets order ts).getD i []).length = (trkU ts).length := by
  unfold tabOf
  simp only [List.getD_eq_getElem?_getD, List.getElem?_map, List.getElem?_eq_getElem hi, Option.map_some, Option.getD_some, List.length_map]
theorem tabF_bd {nets : List (Int × List Int)} {n : Int} {order : List Int} (hE : Bus.bothErr nets n order = 0) (ts : List Int) (a b : Int) : 0 ≤ tabF nets order ts a b ∧ tabF nets order ts a b ≤ 397312 := by
  obtain ⟨e1, e2⟩ := both_iff.1 hE
  obtain ⟨n1, n97, l64, _⟩ := Bus.netsErr_zero e1
  have hT := taps_few (l := mkNets nets) (n := n) (by rw [mkNets_net]; exact e1) (Bus.atUp order order.length)
  have e : (mkNets nets).map NetAt.cols = nets.map Prod.snd := by
    have : (mkNets nets).map NetAt.cols = ((mkNets nets).map NetAt.net).map Prod.snd := by rw [List.map_map]; rfl
    rw [this, mkNets_net]
  rw [e] at hT
  have hxl := extsOf_len nets order
  unfold tabF tabI
  have h1 := isum_bd (fun t => tapI (extsOf nets order) ts t a b (extsOf nets order).length) 64 (fun t => by have := tap_bd (extsOf nets order) ts t a b (extsOf nets order).length; omega) (tapFrom (Bus.atUp order order.length) 0 (nets.map Prod.snd))
  have h2 : (tapFrom (Bus.atUp order order.length) 0 (nets.map Prod.snd)).length * 64 ≤ 6208 * 64 := Nat.mul_le_mul_right _ hT
  omega
theorem trkU_len (ts : List Int) : (trkU ts).length ≤ ts.length := by
  have h1 := Lib.compact_length_le (ts.mergeSort fun x y => decide (x ≤ y))
  rw [List.length_mergeSort] at h1
  exact h1
def bndB (nets : List (Int × List Int)) (n : Int) (order ts : List Int) : Int × Int := if layErr nets n order ts = 0 then (bndP (tabOf nets order ts) (trkU ts).length, 0) else (0, layErr nets n order ts)
theorem lay_n {nets : List (Int × List Int)} {n : Int} {order ts : List Int} (h : layErr nets n order ts = 0) : n = order.length := by
  have := (Bus.orderErr_zero (both_iff.1 (both_of_lay h)).2).1
  omega
theorem lay_len {nets : List (Int × List Int)} {n : Int} {order ts : List Int} (h : layErr nets n order ts = 0) : ts.length = nets.length := by
  have hB := both_of_lay h
  unfold layErr at h
  rw [if_neg (fun g => g hB)] at h
  by_cases g : ts.length ≠ nets.length
  · rw [if_pos g] at h; cases h
  · exact Classical.not_not.1 g
theorem bound_holds (nets : List (Int × List Int)) (n : Int) (order ts : List Int) (h : okLay nets order ts = true) : Holds Tryz.prog true 16 [nv nets, iv n, yv order ts] (.tuple [iv (bndB nets n order ts).1, iv (bndB nets n order ts).2]) := by
  have hS := bd_ok
  refine holds_fl (c := BBd) Tryz.func16 rfl rfl fun w F => ?_
  by_cases hL : layErr nets n order ts = 0
  · have hB := both_of_lay hL
    have en := lay_n hL
    have hts := lay_len hL
    obtain ⟨_, n97, l64, _⟩ := Bus.netsErr_zero (both_iff.1 hB).1
    have hpr : okPr nets order ts = true := by
      unfold okPr
      rw [h, Bool.true_and, decide_eq_true_eq, ← en]; exact hL
    have e : bndB nets n order ts = (bndP (tabOf nets order ts) (trkU ts).length, 0) := by unfold bndB; rw [if_pos hL]
    rw [e]
    have hul := trkU_len ts
    have hlen : (tabOf nets order ts).length = (trkU ts).length := by unfold tabOf; rw [List.length_map]
    have hrow : ∀ i, i < (trkU ts).length → ((tabOf nets order ts).getD i []).length = (trkU ts).length := fun i hi => tab_row hi
    have hbd : ∀ i k, i < (trkU ts).length → k < (trkU ts).length → 0 ≤ ((tabOf nets order ts).getD i []).getD k 0 ∧ ((tabOf nets order ts).getD i []).getD k 0 ≤ 397312 := fun i k hi hk => by rw [tab_at hi hk]; exact tabF_bd hB ts _ _
    refine GoalL.to known mixed hS 7 _ (bb_start nets n order ts h hL hpr) (by kernel_rfl) ?_
    generalize tabOf nets order ts = tab at *
    generalize (trkU ts).length = m at *
    have hrb : ∀ i k, k ≤ i → i < m → 0 ≤ bndPRow tab i k ∧ bndPRow tab i k ≤ k * 397312 := fun i k hk hi => by
      refine sm_bd (L := 397312) fun j hj => ?_
      have g1 := hbd i j hi (by omega)
      have g2 := hbd j i (by omega) hi
      exact mn_bd g1 g2
    have hpb : ∀ i, i ≤ m → 0 ≤ bndP tab i ∧ bndP tab i ≤ i * 25427968 := fun i hi => by
      refine sm_bd (L := 25427968) fun j hj => ?_
      have := hrb j j (Nat.le_refl _) (by omega)
      omega
    refine GoalL.loop (ι := { i : Nat // i ≤ m }) (id := 0) (b := cat BBd dO) (rest := List.drop 8 (fl BBd [])) (by kernel_rfl) (fun i => SBd tab (bndP tab i.1) i.1) (fun i => m - i.1) ⟨0, Nat.zero_le _⟩ (fun _ => rfl) ?_
    rintro ⟨i, hi⟩
    have hb := hpb i hi
    by_cases hlt : i < m
    · refine GoalL.st (s := SBd tab (bndP tab i) i) known mixed hS 2 _ (bb_row tab _ i (by omega)) (by kernel_rfl) ?_
      refine goalL_blk (id := 1) (c := cat BBd dB) (rest := List.drop 3 (fl BBd dO)) (by kernel_rfl) ?_
      refine GoalL.st (s := SBd tab (bndP tab i) i) known mixed hS 2 _ (bb_in tab _ i) (by kernel_rfl) ?_
      rw [show SBk tab (bndP tab i) i 0 = SBk tab (bndP tab i + bndPRow tab i 0) i 0 from by rw [show bndPRow tab i 0 = 0 from rfl, Int.add_zero]]
      refine GoalL.loop (ι := { k : Nat // k ≤ i }) (id := 2) (b := cat BBd dK) (rest := List.drop 3 (fl BBd dB)) (by kernel_rfl) (fun k => SBk tab (bndP tab i + bndPRow tab i k.1) i k.1) (fun k => i - k.1) ⟨0, Nat.zero_le _⟩ (fun _ => rfl) ?_
      rintro ⟨k, hk⟩
      have hr := hrb i k hk hlt
      by_cases hlk : k < i
      · have g1 := hbd i k hlt (by omega)
        have g2 := hbd k i (by omega) hlt
        refine GoalL.all (s := SBk tab (bndP tab i + bndPRow tab i k) i k) known mixed hS _ (bb_add tab _ i k (by omega) (by omega) (by rw [hrow i hlt]; omega) (by omega) (by rw [hrow k (by omega)]; omega) (by split <;> omega) (by omega)) (by kernel_rfl) ?_
        have e2 : bndP tab i + bndPRow tab i (k + 1) = bndP tab i + bndPRow tab i k + mn ((tab.getD i []).getD k 0) ((tab.getD k []).getD i 0) := (Int.add_assoc _ _ _).symm
        exact ⟨⟨k + 1, hlk⟩, by simp; omega, by show _ = (SBk tab (bndP tab i + bndPRow tab i (k + 1)) i (k + 1)).T; rw [e2], by show _ = (SBk tab (bndP tab i + bndPRow tab i (k + 1)) i (k + 1)).H; rw [e2]⟩
      · refine GoalL.all (s := SBk tab (bndP tab i + bndPRow tab i k) i k) known mixed hS _ (bb_end tab _ i k (by omega)) (by kernel_rfl) ?_
        refine onN_exit (inB_exit ?_)
        obtain rfl : k = i := by omega
        refine goalL_nil bdB_end ?_
        refine GoalL.all (s := SBd tab (bndP tab k + bndPRow tab k k) k) known mixed hS _ (bb_next tab _ k (by omega)) (by kernel_rfl) ?_
        exact ⟨⟨k + 1, hlt⟩, by simp; omega, rfl, rfl⟩
    · refine GoalL.st (s := SBd tab (bndP tab i) i) known mixed hS 2 _ (bb_stop tab _ i (by omega)) (by kernel_rfl) ?_
      refine onN_exit (onN_exit (inB_exit ?_))
      obtain rfl : i = m := by omega
      exact GoalL.allRet (s := SBd tab (bndP tab i) i) known mixed hS _ (bb_ret tab _ _) fun T H h => h
  · have e : bndB nets n order ts = (0, layErr nets n order ts) := by unfold bndB; rw [if_neg hL]
    rw [e]
    exact GoalL.ret known mixed hS 4 _ (bb_bad nets n order ts h hL) fun T H h => h
noncomputable def cBoundB : Ctr := { f := 16, ps := [.list false tN, .int .i64, .pair (.list false (.int .i64)) (.list false (.int .i64))], rs := [.int .i64, .int .i64], fresh := true, pre := fun d => okLay d.1 d.2.2.1.1 d.2.2.1.2, fn := fun d => ((bndB d.1 d.2.1 d.2.2.1.1 d.2.2.1.2).1, ((bndB d.1 d.2.1 d.2.2.1.1 d.2.2.1.2).2, ())) }
theorem cBoundB_ok : cBoundB.Ok Tryz.prog := fun ⟨nets, n, ⟨order, ts⟩, _⟩ h => bound_holds nets n order ts h
theorem bnd_same {nets : List (Int × List Int)} {n : Int} {order ts : List Int} (hE : Bus.bothErr nets n order = 0) : bndP (tabOf nets order ts) (trkU ts).length = bndR nets order ts (trkU ts) (trkU ts).length := by
  obtain ⟨hu, _⟩ := trkU_ok ts
  refine sm_congr fun i hi => sm_congr fun k hk => ?_
  have hki : k < (trkU ts).length := by omega
  have hne : (trkU ts).getD k 0 < (trkU ts).getD i 0 := (asc_lt hu hi hki).2 hk
  rw [tab_at hi hki, tab_at hki hi]
  unfold tabF
  rw [tab_und hE ts (by omega), tab_und hE ts (by omega)]
  unfold mn
  split <;> split <;> omega
end
end Go.Proofs.YtbldpojkpmafpaaGreatDoor

/- The best numbering of the tracks, in plain Lean. -/
namespace Go.Proofs.YtbldpojkpmafpaaGreatDoor
open Go.RowKit Sv
set_option linter.unusedVariables false
def trO (u ts to : List Int) : List Int := ts.map fun t => to.getD (u.idxOf t) 0
def arrRow (tab : List (List Int)) (to : List Int) (a b : Nat) : Int := sm (fun b => if to.getD a 0 < to.getD b 0 then (tab.getD a []).getD b 0 else 0) b
def arrS (tab : List (List Int)) (to : List Int) (m a : Nat) : Int := sm (fun a => arrRow tab to a m) a
theorem sm_pick (f : Nat → Int) (a0 : Nat) : ∀ n, a0 < n → sm (fun a => if a = a0 then f a else 0) n = f a0
  | 0, h => absurd h (Nat.not_lt_zero _)
  | n + 1, h => by
    rw [sm]
    by_cases e : n = a0
    · subst e
      rw [if_pos rfl]
      have : sm (fun a => if a = n then f a else 0) n = 0 := by
        rw [sm_congr (g := fun _ => 0) fun k hk => if_neg (by omega), sm_zero]
      omega
    · rw [if_neg e, sm_pick f a0 n (by omega)]; omega
theorem sm_two (g : Nat → Nat → Int) (a0 b0 n m : Nat) (ha : a0 < n) (hb : b0 < m) : sm (fun a => sm (fun b => if a = a0 ∧ b = b0 then g a b else 0) m) n = g a0 b0 := by
  have e : ∀ a, sm (fun b => if a = a0 ∧ b = b0 then g a b else 0) m = if a = a0 then g a b0 else 0 := fun a => by
    by_cases h : a = a0
    · rw [if_pos h, ← sm_pick (fun b => g a b) b0 m hb]
      exact sm_congr fun b _ => by simp [h]
    · rw [if_neg h, sm_congr (g := fun _ => 0) fun b _ => if_neg fun e => h e.1, sm_zero]
  rw [sm_congr fun a _ => e a, sm_pick (fun a => g a b0) a0 n ha]
theorem idx_of {u : List Int} (hu : u.Nodup) {t : Int} (ht : t ∈ u) : u.idxOf t < u.length ∧ u.getD (u.idxOf t) 0 = t ∧ ∀ a, a < u.length → (t = u.getD a 0 ↔ a = u.idxOf t) := by
  have h1 : u.idxOf t < u.length := List.idxOf_lt_length_iff.2 ht
  have h2 : u.getD (u.idxOf t) 0 = t := by rw [getD_lt h1]; exact List.getElem_idxOf h1
  refine ⟨h1, h2, fun a ha => ⟨fun e => ?_, fun e => by rw [e, h2]⟩⟩
  rw [← h2, getD_lt h1, getD_lt ha] at e
  exact ((List.getElem_inj hu).1 e).symm
theorem trO_at {u ts to : List Int} {k : Nat} (hk : k < ts.length) : (trO u ts to).getD k 0 = to.getD (u.idxOf (ts.getD k 0)) 0 := by
  unfold trO
  rw [getD_lt (by rw [List.length_map]; exact hk), List.getElem_map, getD_lt hk]
theorem trO_len (u ts to : List Int) : (trO u ts to).length = ts.length := by unfold trO; rw [List.length_map]
theorem ord_at {m : Nat} {to : List Int} (h : IsOrd m to) {i k : Nat} (hi : i < m) (hk : k < m) : to.getD i 0 = to.getD k 0 ↔ i = k := by
  have h1 := h.len
  rw [getD_lt (by omega), getD_lt (by omega)]
  exact List.getElem_inj h.nd
theorem ord_bd {m : Nat} {to : List Int} (h : IsOrd m to) {i : Nat} (hi : i < m) : 0 ≤ to.getD i 0 ∧ to.getD i 0 < m := by
  have h1 := h.len
  rw [getD_lt (by omega)]
  exact h.bd _ (List.getElem_mem _)
section
variable {nets : List (Int × List Int)} {n : Int} {order ts : List Int}
theorem crossSum_sm (xs : List (Int × Int)) (ts : List Int) (taps : List (Nat × Int)) :
    crossSum xs ts taps = sm (fun x => sm (fun k => if ts.getD k 0 < ts.getD (taps.getD x (0, 0)).1 0 ∧ covB xs k (taps.getD x (0, 0)).2 = true then 1 else 0) xs.length) taps.length := by
  unfold crossSum
  rw [← taps_sm]
  exact sm_congr fun x _ => cross_up_sm _ _ _ _ _
theorem tabI_sm (xs : List (Int × Int)) (ts : List Int) (taps : List (Nat × Int)) (a b : Int) : tabI xs ts taps a b = sm (fun x => sm (hitI xs ts (taps.getD x (0, 0)) a b) xs.length) taps.length := by
  unfold tabI
  rw [← taps_sm]
  rfl
theorem arr_sum (hE : Bus.bothErr nets n order = 0) (hl : ts.length = nets.length) {to : List Int} (ho : IsOrd (trkU ts).length to) :
    arrS (tabOf nets order ts) to (trkU ts).length (trkU ts).length = crossOf nets order (trO (trkU ts) ts to) manyI := by
  have hu := (trkU_ok ts).1
  have hn := asc_nodup hu
  have hm : ∀ k, k < ts.length → ts.getD k 0 ∈ trkU ts := fun k hk => ((trkU_ok ts).2 _).2 (by rw [getD_lt hk]; exact List.getElem_mem _)
  rw [show manyI = 1099511627776 from rfl, cross_sum hE, crossSum_sm]
  have hxl := extsOf_len nets order
  have htap : ∀ x, x < (tapFrom (Bus.atUp order order.length) 0 (nets.map Prod.snd)).length → ((tapFrom (Bus.atUp order order.length) 0 (nets.map Prod.snd)).getD x (0, 0)).1 < nets.length := fun x hx => by
    have := tap_ok (Bus.atUp order order.length) (nets.map Prod.snd) x (by omega)
    simpa using this
  generalize hu0 : trkU ts = u at *
  unfold arrS arrRow
  have e1 : ∀ a, a < u.length → sm (fun b => if to.getD a 0 < to.getD b 0 then ((tabOf nets order ts).getD a []).getD b 0 else 0) u.length =
      sm (fun b => sm (fun x => sm (fun k => if to.getD a 0 < to.getD b 0 then hitI (extsOf nets order) ts ((tapFrom (Bus.atUp order order.length) 0 (nets.map Prod.snd)).getD x (0, 0)) (u.getD a 0) (u.getD b 0) k else 0) (extsOf nets order).length) (tapFrom (Bus.atUp order order.length) 0 (nets.map Prod.snd)).length) u.length := fun a ha => by
    refine sm_congr fun b hb => ?_
    have ht := tab_at (nets := nets) (order := order) (ts := ts) (i := a) (k := b) (by rw [hu0]; exact ha) (by rw [hu0]; exact hb)
    rw [ht, hu0]
    unfold tabF
    rw [tabI_sm, ← sm_ite]
    exact sm_congr fun x _ => (sm_ite _ _ _).symm
  rw [sm_congr e1]
  -- the taps and the nets outside, the numbers inside
  have e2 : ∀ a, sm (fun b => sm (fun x => sm (fun k => if to.getD a 0 < to.getD b 0 then hitI (extsOf nets order) ts ((tapFrom (Bus.atUp order order.length) 0 (nets.map Prod.snd)).getD x (0, 0)) (u.getD a 0) (u.getD b 0) k else 0) (extsOf nets order).length) (tapFrom (Bus.atUp order order.length) 0 (nets.map Prod.snd)).length) u.length =
      sm (fun x => sm (fun k => sm (fun b => if to.getD a 0 < to.getD b 0 then hitI (extsOf nets order) ts ((tapFrom (Bus.atUp order order.length) 0 (nets.map Prod.snd)).getD x (0, 0)) (u.getD a 0) (u.getD b 0) k else 0) u.length) (extsOf nets order).length) (tapFrom (Bus.atUp order order.length) 0 (nets.map Prod.snd)).length := fun a => by
    rw [sm_swap]
    exact sm_congr fun x _ => sm_swap _ _ _
  rw [sm_congr fun a _ => e2 a, sm_swap]
  refine sm_congr fun x hx => ?_
  rw [sm_swap]
  refine sm_congr fun k hk => ?_
  have hi := htap x hx
  generalize (tapFrom (Bus.atUp order order.length) 0 (nets.map Prod.snd)).getD x (0, 0) = t at *
  obtain ⟨i, p⟩ := t
  have hi : i < nets.length := hi
  have hk2 : k < ts.length := by omega
  have hi2 : i < ts.length := by omega
  obtain ⟨k1, k2, k3⟩ := idx_of hn (hm k hk2)
  obtain ⟨i1, i2, i3⟩ := idx_of hn (hm i hi2)
  have e3 : ∀ a, a < u.length → sm (fun b => if to.getD a 0 < to.getD b 0 then hitI (extsOf nets order) ts (i, p) (u.getD a 0) (u.getD b 0) k else 0) u.length =
      sm (fun b => if a = u.idxOf (ts.getD k 0) ∧ b = u.idxOf (ts.getD i 0) then (if to.getD a 0 < to.getD b 0 ∧ covB (extsOf nets order) k p = true then 1 else 0) else 0) u.length := fun a ha => by
    refine sm_congr fun b hb => ?_
    unfold hitI
    by_cases ea : a = u.idxOf (ts.getD k 0)
    · by_cases eb : b = u.idxOf (ts.getD i 0)
      · rw [if_pos (show a = u.idxOf (ts.getD k 0) ∧ b = u.idxOf (ts.getD i 0) from ⟨ea, eb⟩)]
        have h1 := (k3 a ha).2 ea
        have h2 := (i3 b hb).2 eb
        by_cases hlt : to.getD a 0 < to.getD b 0
        · rw [if_pos hlt]
          have hne : ts.getD k 0 ≠ ts.getD i 0 := fun e => by
            rw [← e, ← ea] at eb
            rw [eb] at hlt
            omega
          by_cases hc : covB (extsOf nets order) k p = true
          · rw [if_pos ⟨h1, h2, hne, hc⟩, if_pos ⟨hlt, hc⟩]
          · rw [if_neg (fun h => hc h.2.2.2), if_neg (fun h => hc h.2)]
        · rw [if_neg hlt, if_neg (fun h => hlt h.1)]
      · rw [if_neg (show ¬ (a = u.idxOf (ts.getD k 0) ∧ b = u.idxOf (ts.getD i 0)) from fun h => eb h.2)]
        have hz : ¬ (ts.getD k 0 = u.getD a 0 ∧ ts.getD (i, p).1 0 = u.getD b 0 ∧ ts.getD k 0 ≠ ts.getD (i, p).1 0 ∧ covB (extsOf nets order) k (i, p).2 = true) := fun h => eb ((i3 b hb).1 h.2.1)
        simp only [if_neg hz]
        split <;> rfl
    · rw [if_neg (show ¬ (a = u.idxOf (ts.getD k 0) ∧ b = u.idxOf (ts.getD i 0)) from fun h => ea h.1)]
      have hz : ¬ (ts.getD k 0 = u.getD a 0 ∧ ts.getD (i, p).1 0 = u.getD b 0 ∧ ts.getD k 0 ≠ ts.getD (i, p).1 0 ∧ covB (extsOf nets order) k (i, p).2 = true) := fun h => ea ((k3 a ha).1 h.1)
      simp only [if_neg hz]
      split <;> rfl
  rw [sm_congr e3, sm_two (fun a b => if to.getD a 0 < to.getD b 0 ∧ covB (extsOf nets order) k p = true then 1 else 0) _ _ _ _ k1 i1]
  show _ = if (trO u ts to).getD k 0 < (trO u ts to).getD i 0 ∧ covB (extsOf nets order) k p = true then 1 else 0
  rw [trO_at hk2, trO_at hi2]
def arrKey (nets : List (Int × List Int)) (order ts : List Int) (to : List Int) : List Int := crossOf nets order (trO (trkU ts) ts to) manyI :: trO (trkU ts) ts to
def aLeast (nets : List (Int × List Int)) (order ts : List Int) : Option (List Int) → Int
  | none => manyI
  | some b => crossOf nets order (trO (trkU ts) ts b) manyI
def aBest (ts : List Int) : Option (List Int) → List Int
  | none => []
  | some b => trO (trkU ts) ts b
def bestA (nets : List (Int × List Int)) (order ts : List Int) : Option (List Int) := bestOf (arrKey nets order ts) lexB (ext (trkU ts).length (trkU ts).length [])
theorem bestA_some (nets : List (Int × List Int)) (order ts : List Int) : ∃ b, bestA nets order ts = some b ∧ IsOrd (trkU ts).length b := by
  rcases bestOf_mem (arrKey nets order ts) lexB (ext (trkU ts).length (trkU ts).length []) with ⟨h, _⟩ | ⟨b, h1, h2⟩
  · exact absurd h (ext_ne _)
  · exact ⟨b, h1, (ord_mem _ b).1 h2⟩
theorem lexB_cons {a b : Int} {l m : List Int} : lexB (a :: l) (b :: m) = true ↔ a < b ∨ a = b ∧ lexB l m = true := by
  show (if a = b then lexB l m else decide (a < b)) = true ↔ _
  by_cases e : a = b
  · rw [if_pos e]
    constructor
    · exact fun h => .inr ⟨e, h⟩
    · rintro (h | h)
      · omega
      · exact h.2
  · rw [if_neg e, decide_eq_true_eq]
    constructor
    · exact .inl
    · rintro (h | h)
      · exact h
      · exact absurd h.1 e
theorem arr_take (hE : Bus.bothErr nets n order = 0) {st : Option (List Int)} {to : List Int}
    (h : crossOf nets order (trO (trkU ts) ts to) manyI < aLeast nets order ts st ∨ crossOf nets order (trO (trkU ts) ts to) manyI = aLeast nets order ts st ∧ lexB (trO (trkU ts) ts to) (aBest ts st) = true) :
    bestStep (arrKey nets order ts) lexB st to = some to := by
  cases st with
  | none => rfl
  | some b =>
    show (if lexB (arrKey nets order ts to) (arrKey nets order ts b) = true then some to else some b) = some to
    exact if_pos (lexB_cons.2 h)
theorem arr_keep (hE : Bus.bothErr nets n order = 0) {st : Option (List Int)} {to : List Int}
    (h : ¬ (crossOf nets order (trO (trkU ts) ts to) manyI < aLeast nets order ts st ∨ crossOf nets order (trO (trkU ts) ts to) manyI = aLeast nets order ts st ∧ lexB (trO (trkU ts) ts to) (aBest ts st) = true)) :
    bestStep (arrKey nets order ts) lexB st to = st := by
  cases st with
  | none =>
    exfalso
    have hb := cross_bd hE (trO (trkU ts) ts to)
    refine h (.inl ?_)
    show _ < manyI
    exact Int.lt_of_le_of_lt hb.2 (by decide)
  | some b =>
    show (if lexB (arrKey nets order ts to) (arrKey nets order ts b) = true then some to else some b) = some b
    exact if_neg (fun h2 => h (lexB_cons.1 h2))
theorem tr_mem (hE : Bus.bothErr nets n order = 0) (hl : ts.length = nets.length) {to : List Int} (ho : IsOrd (trkU ts).length to) : ∀ t ∈ trO (trkU ts) ts to, 0 ≤ t ∧ t < (trkU ts).length := fun t ht => by
  unfold trO at ht
  obtain ⟨x, hx, rfl⟩ := List.mem_map.1 ht
  have := (idx_of (asc_nodup (trkU_ok ts).1) (((trkU_ok ts).2 x).2 hx)).1
  exact ord_bd ho this
end
end Go.Proofs.YtbldpojkpmafpaaGreatDoor
