/- Package bus and its reference: they say the same of layouts and of cliques (plain law). -/
import Derived.Test.YtkjjnnbbicoljaaGreatDoorBusCl
namespace Go.Proofs.YtkjjnnbbicoljaaGreatDoor
open Go.RowKit

theorem foldMin (f : Int → Int) : ∀ (l : List Int) (a : Int), l.foldl (fun l c => min l (f c)) a ≤ a ∧ (∀ c ∈ l, l.foldl (fun l c => min l (f c)) a ≤ f c) ∧ ∀ m, m ≤ a → (∀ c ∈ l, m ≤ f c) → m ≤ l.foldl (fun l c => min l (f c)) a
  | [], a => ⟨Int.le_refl _, fun c h => (by cases h), fun m h _ => h⟩
  | d :: r, a => by
    obtain ⟨h1, h2, h3⟩ := foldMin f r (min a (f d))
    simp only [List.foldl_cons]
    refine ⟨by omega, fun c hc => ?_, fun m hm hall => h3 m (by have := hall d List.mem_cons_self; omega) fun c hc => hall c (List.mem_cons_of_mem _ hc)⟩
    rcases List.mem_cons.1 hc with rfl | hc
    · omega
    · exact h2 c hc
theorem foldMax (f : Int → Int) : ∀ (l : List Int) (a : Int), a ≤ l.foldl (fun h c => max h (f c)) a ∧ (∀ c ∈ l, f c ≤ l.foldl (fun h c => max h (f c)) a) ∧ ∀ m, a ≤ m → (∀ c ∈ l, f c ≤ m) → l.foldl (fun h c => max h (f c)) a ≤ m
  | [], a => ⟨Int.le_refl _, fun c h => (by cases h), fun m h _ => h⟩
  | d :: r, a => by
    obtain ⟨h1, h2, h3⟩ := foldMax f r (max a (f d))
    simp only [List.foldl_cons]
    refine ⟨by omega, fun c hc => ?_, fun m hm hall => h3 m (by have := hall d List.mem_cons_self; omega) fun c hc => hall c (List.mem_cons_of_mem _ hc)⟩
    rcases List.mem_cons.1 hc with rfl | hc
    · omega
    · exact h2 c hc

/-- of valid nets in a valid order: both extents are one, and lie in the order -/
theorem valid_ext {l : List NetAt} {n : Int} {order : List Int} (hE : Bus.bothErr (l.map NetAt.net) n order = 0) (i : Nat) (hi : i < l.length) :
    (Bus.exts (Bus.atUp order order.length) (l.map NetAt.net)).getD i (0, 0) = refExt order ((l.map NetAt.cols).getD i []) ∧ 0 ≤ (refExt order ((l.map NetAt.cols).getD i [])).1 ∧ (refExt order ((l.map NetAt.cols).getD i [])).1 ≤ (refExt order ((l.map NetAt.cols).getD i [])).2 ∧
      (refExt order ((l.map NetAt.cols).getD i [])).2 < order.length := by
  obtain ⟨z1, z2⟩ := both_zero hE
  obtain ⟨n1, n97, l64, hcols⟩ := Bus.netsErr_zero z1
  obtain ⟨on, ond, oin⟩ := Bus.orderErr_zero z2
  have hall : ∀ c, 0 ≤ c → c < n → c ∈ order := fun c h0 h1 => has_all order.length order ond rfl (fun d hd => by have := oin d hd; omega) c h0 (by omega)
  obtain ⟨x, hx⟩ : ∃ x, l[i]? = some x := ⟨_, List.getElem?_eq_getElem hi⟩
  have hxm : x ∈ l := List.mem_of_getElem? hx
  have hc1 : (l.map NetAt.cols).getD i [] = x.cols := by simp only [List.getD_eq_getElem?_getD, List.getElem?_map, hx, Option.map_some, Option.getD_some]
  have hne := (hcols x.net (List.mem_map_of_mem hxm)).1
  have hin := (hcols x.net (List.mem_map_of_mem hxm)).2
  have hxe := ref_ext (order := order) (cols := x.cols) (n := n) ond on hne hin hall n97
  rw [hc1]
  have e1 : refExt order x.cols = Bus.ext (fun c => Bus.atUp order order.length c.toNat) x.cols := hxe
  have hp : ∀ c ∈ x.cols, 0 ≤ Bus.pos order c ∧ Bus.pos order c < order.length := fun c hc => Bus.pos_bd (hall c (hin c hc).1 (hin c hc).2)
  have hlow : Bus.refLow (Bus.pos order) (-1) x.cols = (Bus.ext (Bus.pos order) x.cols).1 := Bus.refLow_ext _ _ hne fun c hc => by have := hp c hc; omega
  obtain ⟨m1, m2, m3⟩ := foldMin (Bus.pos order) x.cols 97
  obtain ⟨k1, k2, k3⟩ := foldMax (Bus.pos order) x.cols (-1)
  obtain ⟨c0, hc0⟩ : ∃ c, c ∈ x.cols := List.exists_mem_of_ne_nil _ hne
  have hlo : (refExt order x.cols).1 = x.cols.foldl (fun l c => min l (Bus.pos order c)) 97 := hlow
  have hhi : (refExt order x.cols).2 = x.cols.foldl (fun h c => max h (Bus.pos order c)) (-1) := rfl
  refine ⟨?_, ?_, ?_, ?_⟩
  · rw [e1]
    simp [Bus.exts, hx, NetAt.net]
  · rw [hlo]; exact m3 0 (by omega) fun c hc => (hp c hc).1
  · rw [hlo, hhi]; exact Int.le_trans (m2 c0 hc0) (k2 c0 hc0)
  · rw [hhi]
    have hpos : (0 : Int) < order.length := by omega
    have := k3 (order.length - 1) (by omega) fun c hc => by have := (hp c hc).2; omega
    omega
theorem valid_meet {l : List NetAt} {n : Int} {order : List Int} (hE : Bus.bothErr (l.map NetAt.net) n order = 0) (i k : Nat) (hi : i < l.length) (hk : k < l.length) :
    meetB (Bus.exts (Bus.atUp order order.length) (l.map NetAt.net)) i k = meetFrom (refExt order ((l.map NetAt.cols).getD i [])) (refExt order ((l.map NetAt.cols).getD k [])) order.length 0 := by
  obtain ⟨a1, a2, a3, a4⟩ := valid_ext hE i hi
  obtain ⟨b1, b2, b3, b4⟩ := valid_ext hE k hk
  rw [meetFrom_eq _ _ _ ⟨a2, a3, a4⟩ ⟨b2, b3, b4⟩]
  unfold meetB
  rw [a1, b1]

theorem allHit_congr {p q : Nat → Nat → Bool} {n : Nat} (h : ∀ i k, k < i → i < n → p i k = q i k) : allHit p n = allHit q n := by
  rw [Bool.eq_iff_iff, allHit_iff, allHit_iff]
  exact ⟨fun ⟨i, k, h1, h2, h3⟩ => ⟨i, k, h1, h2, by rw [← h i k h1 h2]; exact h3⟩, fun ⟨i, k, h1, h2, h3⟩ => ⟨i, k, h1, h2, by rw [h i k h1 h2]; exact h3⟩⟩
theorem confRow_hit (xs : List (Int × Int)) (ts : List Int) (i : Nat) : ∀ k, confRow xs ts i k = rowHit (fun k => ts.getD i 0 == ts.getD k 0 && meetB xs i k) k
  | 0 => rfl
  | k + 1 => by rw [confRow, rowHit, confRow_hit xs ts i k]
theorem conf_hit (xs : List (Int × Int)) (ts : List Int) : ∀ n, conf xs ts n = allHit (fun i k => ts.getD i 0 == ts.getD k 0 && meetB xs i k) n
  | 0 => rfl
  | n + 1 => by rw [conf, allHit, conf_hit xs ts n, confRow_hit]

/-- the check of a layout: the program's and the reference's are one -/
theorem lay_same (l : List NetAt) (n : Int) (order ts : List Int) : layErr (l.map NetAt.net) n order ts = layErrR l n order ts := by
  unfold layErr layErrR
  by_cases hE : Bus.bothErr (l.map NetAt.net) n order = 0
  · have h0 : ¬ Bus.bothErr (l.map NetAt.net) n order ≠ 0 := fun h => h hE
    rw [if_neg h0, if_neg h0, List.length_map, conf_hit]
    rw [allHit_congr (q := clashR l order ts) fun i k h1 h2 => by unfold clashR; rw [valid_meet hE i k h2 (by omega)]]
  · rw [if_pos hE, if_pos hE]
/-- the check of a clique of valid nets: the program's and the reference's are one -/
theorem clique_same (l : List NetAt) (n : Int) (order cl : List Int) (hE : Bus.bothErr (l.map NetAt.net) n order = 0) : cliqueErr (l.map NetAt.net) n order cl = cliqueErrR l order cl := by
  unfold cliqueErr cliqueErrR
  have h0 : ¬ Bus.bothErr (l.map NetAt.net) n order ≠ 0 := fun h => h hE
  rw [if_neg h0, List.length_map]
  by_cases hq : Bus.orderFrom (l.length : Int) [] cl = 0
  · have h1 : ¬ Bus.orderFrom (l.length : Int) [] cl ≠ 0 := fun h => h hq
    rw [if_neg h1, if_neg h1]
    have hin : ∀ i, i < cl.length → (cl.getD i 0).toNat < l.length := fun i hi => by
      have hm : cl.getD i 0 ∈ cl := by
        rw [List.getD_eq_getElem?_getD, List.getElem?_eq_getElem hi]; exact List.getElem_mem hi
      obtain ⟨h0, h1, _⟩ := Bus.orderFrom_mem _ cl [] hq _ hm
      omega
    rw [allHit_congr (q := apartR l order cl) fun i k h1 h2 => by unfold apartB apartR colsAt; rw [valid_meet hE _ _ (hin i h2) (hin k (by omega))]]
  · rw [if_pos hq, if_pos hq]
end Go.Proofs.YtkjjnnbbicoljaaGreatDoor
