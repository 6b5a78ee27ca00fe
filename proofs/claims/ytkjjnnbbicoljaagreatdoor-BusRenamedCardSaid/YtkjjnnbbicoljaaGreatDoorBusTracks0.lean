/- Package bus and its reference: they say the same of layouts and of cliques (plain law). -/
import Derived.Test.YtkjjnnbbicoljaaGreatDoorBusCl
namespace Go.Proofs.YtkjjnnbbicoljaaGreatDoor
open Go.RowKit

theorem foldMin (f : Int → Int) : ∀ (l : List Int) (a : Int), l.foldl (fun l c => min l (f c)) a ≤ a ∧ (∀ c ∈ l, l.foldl (fun l c => min l (f c)) a ≤ f c) ∧ ∀ m, m ≤ a → (∀ c ∈ l, m ≤ f c) → m ≤ l.foldl (fun l c => min l (f c)) a
  | [], a => ⟨Int.le_refl _, fun c h => (by cases h), fun m h _ => h⟩
  | d :: r, a => by
    obtain ⟨h1, h2, h3⟩ := foldMin f r (min a (f d))
    simp only [List.foldl_cons]
    refine ⟨by omega, fun c hc => ?_, fun m hm hall => h3 m (by have := hall d List.mem_cons_self; omega) fun c hc => hall c (List.mem_cons_of_mem _ hc)⟩
    rcases List.mem_cons.1 hc with rfl | hc
    · omega
    · exact h2 c hc
theorem foldMax (f : Int → Int) : ∀ (l : List Int) (a : Int), a ≤ l.foldl (fun h c => max h (f c)) a ∧ (∀ c ∈ l, f c ≤ l.foldl (fun h c => max h (f c)) a) ∧ ∀ m, a ≤ m → (∀ c ∈ l, f c ≤ m) → l.foldl (fun h c => max h (f c)) a ≤ m
  | [], a => ⟨Int.le_refl _, fun c h => (by cases h), fun m h _ => h⟩
  | d :: r, a => by
    obtain ⟨h1, h2, h3⟩ := foldMax f r (max a (f d))
    simp only [List.foldl_cons]
    refine ⟨by omega, fun c hc => ?_, fun m hm hall => h3 m (by have := hall d List.mem_cons_self; omega) fun c hc => hall c (List.mem_cons_of_mem _ hc)⟩
    rcases List.mem_cons.1 hc with rfl | hc
    · omega
    · exact h2 c hc

/-- of valid nets in a valid order: both extents are one, and lie in the order -/
theorem valid_ext {l : List NetAt} {n : Int} {order : List Int} (hE : Bus.bothErr (l.map NetAt.net) n order = 0) (i : Nat) (hi : i < l.length) :
    (Bus.exts (Bus.atUp order order.length) (l.map NetAt.net)).getD i (0, 0) = refExt order ((l.map NetAt.cols).getD i []) ∧ 0 ≤ (refExt order ((l.map NetAt.cols).getD i [])).1 ∧ (refExt order ((l.map NetAt.cols).getD i [])).1 ≤ (refExt order ((l.map NetAt.cols).getD i [])).2 ∧
      (refExt order ((l.map NetAt.cols).getD i [])).2 < order.length := by
  obtain ⟨z1, z2⟩ := both_zero hE
  obtain ⟨n1, n97, l64, hcols⟩ := Bus.netsErr_zero z1
  obtain ⟨on, ond, oin⟩ := Bus.orderErr_zero z2
  have hall : ∀ c, 0 ≤ c → c < n → c ∈ order := fun c h0 h1 => has_all order.length order ond rfl (fun d hd => by have := oin d hd; omega) c h0 (by omega)
  obtain ⟨x, hx⟩ : ∃ x, l[i]? = some x := ⟨_, List.getElem?_eq_getElem hi⟩
  have hxm : x ∈ l := List.mem_of_getElem? hx
  have hc1 : (l.map NetAt.cols).getD i [] = x.cols := by simp only [List.getD_eq_getElem?_getD, List.getElem?_map, hx, Option.map_some, Option.getD_some]
  have hne := (hcols x.net (List.mem_map_of_mem hxm)).1
  have hin := (hcols x.net (List.mem_map_of_mem hxm)).2
  have hxe := ref_ext (order := order) (cols := x.cols) (n := n) ond on hne hin hall n97
  rw [hc1]
  have e1 : refExt order x.cols = Bus.ext (fun c => Bus.atUp order order.length c.toNat) x.cols := hxe
  have hp : ∀ c ∈ x.cols, 0 ≤ Bus.pos order c ∧ Bus.pos order c < order.length := fun c hc => Bus.pos_bd (hall c (hin c hc).1 (hin c hc).2)
  have hlow : Bus.refLow (Bus.pos order) (-1) x.cols = (Bus.ext (Bus.pos order) x.cols).1 := Bus.refLow_ext _ _ hne fun c hc => by have := hp c hc; omega
  obtain ⟨m1, m2, m3⟩ := foldMin (Bus.pos order) x.cols 97
  obtain ⟨k1, k2, k3⟩ := foldMax (Bus.pos order) x.cols (-1)
  obtain ⟨c0, hc0⟩ : ∃ c, c ∈ x.cols := List.exists_mem_of_ne_nil _ hne
  have hlo : (refExt order x.cols).1 = x.cols.foldl (fun l c => min l (Bus.pos order c)) 97 := hlow
  have hhi : (refExt order x.cols).2 = x.cols.foldl (fun h c => max h (Bus.pos order c)) (-1) := rfl
  refine ⟨?_, ?_, ?_, ?_⟩
  · rw [e1]
    simp [Bus.exts, hx, NetAt.net]
  · rw [hlo]; exact m3 0 (by omega) fun c hc => (hp c hc).1
  · rw [hlo, hhi]; exact Int.le_trans (m2 c0 hc0) (k2 c0 hc0)
  · rw [hhi]
    have hpos : (0 : Int) < order.length := by omega
    have := k3 (order.length - 1) (by omega) fun c hc => by have := (hp c hc).2; omega
    omega
theorem valid_meet {l : List NetAt} {n : Int} {order : List Int} (hE : Bus.bothErr (l.map NetAt.net) n order = 0) (i k : Nat) (hi : i < l.length) (hk : k < l.length) :
    meetB (Bus.exts (Bus.atUp order order.length) (l.map NetAt.net)) i k = meetFrom (refExt order ((l.map NetAt.cols).getD i [])) (refExt order ((l.map NetAt.cols).getD k [])) order.length 0 := by
  obtain ⟨a1, a2, a3, a4⟩ := valid_ext hE i hi
  obtain ⟨b1, b2, b3, b4⟩ := valid_ext hE k hk
  rw [meetFrom_eq _ _ _ ⟨a2, a3, a4⟩ ⟨b2, b3, b4⟩]
  unfold meetB
  rw [a1, b1]

theorem allHit_congr {p q : Nat → Nat → Bool} {n : Nat} (h : ∀ i k, k < i → i < n → p i k = q i k) : allHit p n = allHit q n := by
  rw [Bool.eq_iff_iff, allHit_iff, allHit_iff]
  exact ⟨fun ⟨i, k, h1, h2, h3⟩ => ⟨i, k, h1, h2, by rw [← h i k h1 h2]; exact h3⟩, fun ⟨i, k, h1, h2, h3⟩ => ⟨i, k, h1, h2, by rw [h i k h1 h2]; exact h3⟩⟩
theorem confRow_hit (xs : List (Int × Int)) (ts : List Int) (i : Nat) : ∀ k, confRow xs ts i k = rowHit (fun k => ts.getD i 0 == ts.getD k 0 && meetB xs i k) k
  | 0 => rfl
  | k + 1 => by rw [confRow, rowHit, confRow_hit xs ts i k]
theorem conf_hit (xs : List (Int × Int)) (ts : List Int) : ∀ n, conf xs ts n = allHit (fun i k => ts.getD i 0 == ts.getD k 0 && meetB xs i k) n
  | 0 => rfl
  | n + 1 => by rw [conf, allHit, conf_hit xs ts n, confRow_hit]

/-- the check of a layout: the program's and the reference's are one -/
theorem lay_same (l : List NetAt) (n : Int) (order ts : List Int) : layErr (l.map NetAt.net) n order ts = layErrR l n order ts := by
  unfold layErr layErrR
  by_cases hE : Bus.bothErr (l.map NetAt.net) n order = 0
  · have h0 : ¬ Bus.bothErr (l.map NetAt.net) n order ≠ 0 := fun h => h hE
    rw [if_neg h0, if_neg h0, List.length_map, conf_hit]
    rw [allHit_congr (q := clashR l order ts) fun i k h1 h2 => by unfold clashR; rw [valid_meet hE i k h2 (by omega)]]
  · rw [if_pos hE, if_pos hE]
/-- the check of a clique of valid nets: the program's and the reference's are one -/
theorem clique_same (l : List NetAt) (n : Int) (order cl : List Int) (hE : Bus.bothErr (l.map NetAt.net) n order = 0) : cliqueErr (l.map NetAt.net) n order cl = cliqueErrR l order cl := by
  unfold cliqueErr cliqueErrR
  have h0 : ¬ Bus.bothErr (l.map NetAt.net) n order ≠ 0 := fun h => h hE
  rw [if_neg h0, List.length_map]
  by_cases hq : Bus.orderFrom (l.length : Int) [] cl = 0
  · have h1 : ¬ Bus.orderFrom (l.length : Int) [] cl ≠ 0 := fun h => h hq
    rw [if_neg h1, if_neg h1]
    have hin : ∀ i, i < cl.length → (cl.getD i 0).toNat < l.length := fun i hi => by
      have hm : cl.getD i 0 ∈ cl := by
        rw [List.getD_eq_getElem?_getD, List.getElem?_eq_getElem hi]; exact List.getElem_mem hi
      obtain ⟨h0, h1, _⟩ := Bus.orderFrom_mem _ cl [] hq _ hm
      omega
    rw [allHit_congr (q := apartR l order cl) fun i k h1 h2 => by unfold apartB apartR colsAt; rw [valid_meet hE _ _ (hin i h2) (hin k (by omega))]]
  · rw [if_pos hq, if_pos hq]
end Go.Proofs.YtkjjnnbbicoljaaGreatDoor

/- Package bus: the tracks of no nets at all. -/
namespace Go.Proofs.YtkjjnnbbicoljaaGreatDoor
open Go.RowKit

set_option maxRecDepth 100000 in
theorem insertion_nil (bx : Nat) (w : World) :
    Calls Tryz.prog 178 #[.slice none 0 0, .int .i64 0, .int .i64 0, .func (.func 102) #[] #[.pointer (some ⟨bx, 0, none⟩)]] w fun e w' => (∃ v, e = .returned v) ∧ w' = w := by
  go_enter Tryz.func178, Tryz.ntmps178
  go_wp2_with fail
  refine wp_loop_rounds 1 ?_
  rw [rounds_succ]
  go_wp2_with fail
  go_end0
  exact ⟨⟨_, rfl⟩, rfl⟩
set_option maxRecDepth 100000 in
theorem stable_nil (bx : Nat) (w : World) :
    Calls Tryz.prog 140 #[.slice none 0 0, .int .i64 0, .func (.func 102) #[] #[.pointer (some ⟨bx, 0, none⟩)]] w fun e w' => (∃ v, e = .returned v) ∧ w' = w := by
  have HI := Lib.hid (insertion_nil bx w)
  go_enter Tryz.func140, Tryz.ntmps140
  go_wp2_with fail
  refine wp_loop_rounds 1 ?_
  rw [rounds_succ]
  go_wp2_with fail
  refine HI.out.mono ?_
  rintro e w1 ⟨⟨v, rfl⟩, rfl⟩
  go_wp2_with fail
  refine wp_loop_rounds 1 ?_
  rw [rounds_succ]
  go_wp2_with fail
  go_end0
  exact ⟨⟨_, rfl⟩, rfl⟩
set_option maxRecDepth 100000 in
theorem SortStable_nil (bx : Nat) (w : World) :
    Calls Tryz.prog 101 #[.slice none 0 0, .func (.func 102) #[] #[.pointer (some ⟨bx, 0, none⟩)]] w fun e w' => (∃ v, e = .returned v) ∧ w' = w := by
  have HI := Lib.hid (stable_nil bx w)
  go_enter Tryz.func101, Tryz.ntmps101
  go_wp2_with fail
  refine HI.out.mono ?_
  rintro e w1 ⟨⟨v, rfl⟩, rfl⟩
  go_wp2_with fail
  go_end0
  exact ⟨⟨_, rfl⟩, rfl⟩

set_option maxHeartbeats 4000000 in
set_option maxRecDepth 100000 in
theorem tracks_nil (g : Nat) (F : Nat → Int) (A An : Option Addr) (c cn : Nat) (w : World) (h : RowAt w g (.slice An 0 cn) F (.slice A 0 c)) :
    Calls Tryz.prog 50 #[.pointer (some ⟨g, 0, none⟩)] w fun e w' => ∃ (Ao : Option Addr) (co : Nat), e = .returned (.tuple #[.slice Ao 0 co, .int .i64 0]) ∧ Below w.heap.size w w' := by
  have hgl := h.lt
  have hnets : w.cell? ⟨g, 0, none⟩ = some (.slice An 0 cn) := h.nets
  obtain ⟨i0, hi0, iz0, iz1, iz2⟩ := info_parts Tryz.info3
  clear h
  go_enter Tryz.func50, Tryz.ntmps50
  go_wp2_with fail
  have e0 := (Below.refl w.heap.size w).alloc (Nat.le_refl _) (.cells #[.pointer (some ⟨g, 0, none⟩)] 79)
  have d0 := Blk.new w 79 #[.pointer (some ⟨g, 0, none⟩)]
  have hn2 := (e0.cell (p := ⟨g, 0, none⟩) hgl).trans hnets
  have hp0 : (w.alloc (.cells #[.pointer (some ⟨g, 0, none⟩)] 79)).cell? ⟨w.heap.size, 0, none⟩ = some (.pointer (some ⟨g, 0, none⟩)) := d0.cell 0
  have HS := Lib.hid (SortStable_nil w.heap.size)
  generalize w.alloc (.cells #[.pointer (some ⟨g, 0, none⟩)] 79) = W0 at e0 d0 hn2 hp0 ⊢
  refine wp_loop_rounds 1 ?_
  rw [rounds_succ]
  go_wp2_with fail
  refine (HS.out _).mono ?_
  rintro e w1 ⟨⟨v, rfl⟩, rfl⟩
  go_wp2_with fail
  rw [run_makeSlice w1 23 3 i0 (.int .i64 0) Tryz.underlying23 hi0 iz0 .i64 .i64 0 0 (by decide) (by decide) (by simp) (by simp) (by decide)]
  simp only [Result.andThen]
  rw [Oper.upon_value]
  have e1 := e0.alloc e0.size (.cells (madeCells (Value.int .i64 0).cells ((0 : Int).toNat * i0.size)) 3)
  generalize w1.alloc _ = W2 at e1 ⊢
  go_wp2_with fail
  refine wp_loop_rounds 1 ?_
  rw [rounds_succ]
  go_wp2_with fail
  go_ret2
  exact ⟨_, _, rfl, e1⟩

set_option maxRecDepth 100000 in
theorem Tracks_none (A A2 : Option Addr) (c c2 B : Nat) (order : List Int) (n : Int) (w : World) (h : NetsIn w B A []) (h2 : Row w B A2 (order.map (Value.int .i64))) (hi : ∀ c ∈ order, I64 c) (hB : B ≤ w.heap.size) (hl2 : order.length ≤ 1000000)
    (hE : Bus.bothErr [] n order = 0) :
    Calls Tryz.prog 13 #[.slice A 0 c, .int .i64 n, .slice A2 order.length c2] w (RetTracks w []) := by
  have HC := Lib.hid (checked_any A A2 c c2 B [] order n w h h2 hi hB (Nat.zero_le _) hl2)
  rw [List.map_nil, hE] at HC
  obtain ⟨z1, z2⟩ := both_zero hE
  have HST := Lib.hid (fun w' (hb : Below w.heap.size w w') => stand_any A A2 c c2 B [] order n w' (h.below hb hB) (h2.below hb hB) (by have := hb.size; omega) z2 z1)
  obtain ⟨F, hF⟩ : ∃ F, Bus.atUp order order.length = F := ⟨_, rfl⟩
  rw [hF] at HST
  rw [List.length_nil] at HC HST
  clear h h2 hi hE hF z1 z2
  go_enter Tryz.func13, Tryz.ntmps13
  go_wp2_with fail
  refine HC.out.mono ?_
  rintro e w1 ⟨rfl, hb1⟩
  go_wp2_with fail
  refine (HST.out _ hb1).mono ?_
  rintro e w2 ⟨g, v, rfl, hg, hrow, hown, hb2⟩
  obtain ⟨Av, cv, rfl, _, hr⟩ := own_cap hown
  have e2 := below_after hb1 hb2 (Nat.le_refl _)
  have HT := Lib.hid (tracks_nil g F Av A cv c w2 hrow)
  clear hrow hown hr
  go_wp2_with fail
  refine HT.out.mono ?_
  rintro e w3 ⟨Ao, co, rfl, hb3⟩
  have e3 := below_after e2 hb3 (Nat.le_refl _)
  go_wp2_with fail
  go_ret3
  exact ⟨Ao, co, rfl, .inl rfl, e3, .inl rfl, Nat.zero_le _⟩
theorem Tracks_any (A A2 : Option Addr) (c c2 B : Nat) (l : List NetAt) (order : List Int) (n : Int) (w : World) (h : NetsIn w B A l) (h2 : Row w B A2 (order.map (Value.int .i64))) (hi : ∀ c ∈ order, I64 c) (hB : B ≤ w.heap.size) (hl2 : order.length ≤ 1000000)
    (hE : Bus.bothErr (l.map NetAt.net) n order = 0) (hl20 : l.length < 20) :
    Calls Tryz.prog 13 #[.slice A l.length c, .int .i64 n, .slice A2 order.length c2] w (RetTracks w (Bus.exts (Bus.atUp order order.length) (l.map NetAt.net))) := by
  cases l with
  | nil => exact Tracks_none A A2 c c2 B order n w h h2 hi hB hl2 hE
  | cons x r => exact Tracks_ok A A2 c c2 B (x :: r) order n w h h2 hi hB (by omega) hl2 hE (by simp) hl20
end Go.Proofs.YtkjjnnbbicoljaaGreatDoor
