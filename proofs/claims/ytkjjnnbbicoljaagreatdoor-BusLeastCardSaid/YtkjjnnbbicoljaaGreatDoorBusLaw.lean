/- Plain facts on nets, orders and extents (no program). -/
namespace Go.Proofs.YtkjjnnbbicoljaaGreatDoor.Bus

/-- a net: its shaft and its columns -/
abbrev Net := Int × List Int

/-- the error of the columns of a net, behind a last one -/
def colErr (n : Int) : Int → List Int → Int
  | _, [] => 0
  | last, c :: r => if c < 0 ∨ n ≤ c then 10 else if c ≤ last then 11 else colErr n c r
/-- the error of nets, behind some shafts -/
def netsFrom (n : Int) : List Int → List Net → Int
  | _, [] => 0
  | seen, x :: r => if x.1 < 0 ∨ 100 ≤ x.1 then 3 else if x.1 ∈ seen then 9 else if x.2 = [] then 12 else if colErr n (-1) x.2 ≠ 0 then colErr n (-1) x.2 else netsFrom n (seen ++ [x.1]) r
def netsErr (l : List Net) (n : Int) : Int := if n < 1 ∨ 97 < n then 3 else if 64 < l.length then 5 else netsFrom n [] l
/-- the error of an order, behind some columns -/
def orderFrom (n : Int) : List Int → List Int → Int
  | _, [] => 0
  | seen, c :: r => if c < 0 ∨ n ≤ c then 10 else if c ∈ seen then 9 else orderFrom n (seen ++ [c]) r
def orderErr (order : List Int) (n : Int) : Int := if (order.length : Int) ≠ n then 2 else orderFrom n [] order
def bothErr (l : List Net) (n : Int) (order : List Int) : Int := if netsErr l n ≠ 0 then netsErr l n else orderErr order n

/-- where a column stands; -1: nowhere -/
def posFrom (k : Int) : List Int → Int → Int
  | [], _ => -1
  | x :: r, c => if x = c then k else posFrom (k + 1) r c
def pos (order : List Int) (c : Int) : Int := posFrom 0 order c

theorem nets_bad {n : Int} {seen : List Int} {x : Net} {r : List Net} (h : x.1 < 0 ∨ 100 ≤ x.1) : netsFrom n seen (x :: r) = 3 := by rw [netsFrom, if_pos h]
theorem nets_twice {n : Int} {seen : List Int} {x : Net} {r : List Net} (h : ¬ (x.1 < 0 ∨ 100 ≤ x.1)) (h2 : x.1 ∈ seen) : netsFrom n seen (x :: r) = 9 := by rw [netsFrom, if_neg h, if_pos h2]
theorem nets_empty {n : Int} {seen : List Int} {x : Net} {r : List Net} (h : ¬ (x.1 < 0 ∨ 100 ≤ x.1)) (h2 : x.1 ∉ seen) (h3 : x.2 = []) : netsFrom n seen (x :: r) = 12 := by rw [netsFrom, if_neg h, if_neg h2, if_pos h3]
theorem nets_cols {n : Int} {seen : List Int} {x : Net} {r : List Net} (h : ¬ (x.1 < 0 ∨ 100 ≤ x.1)) (h2 : x.1 ∉ seen) (h3 : x.2 ≠ []) :
    netsFrom n seen (x :: r) = if colErr n (-1) x.2 ≠ 0 then colErr n (-1) x.2 else netsFrom n (seen ++ [x.1]) r := by rw [netsFrom, if_neg h, if_neg h2, if_neg h3]

theorem col_bad {n last c : Int} {r : List Int} (h : c < 0 ∨ n ≤ c) : colErr n last (c :: r) = 10 := by rw [colErr, if_pos h]
theorem col_order {n last c : Int} {r : List Int} (h : ¬ (c < 0 ∨ n ≤ c)) (h2 : c ≤ last) : colErr n last (c :: r) = 11 := by rw [colErr, if_neg h, if_pos h2]
theorem col_ok {n last c : Int} {r : List Int} (h : ¬ (c < 0 ∨ n ≤ c)) (h2 : ¬ c ≤ last) : colErr n last (c :: r) = colErr n c r := by rw [colErr, if_neg h, if_neg h2]
/-- the last column so far -/
def lastOf (l : List Int) : Int := l.foldl (fun _ c => c) (-1)
theorem lastOf_snoc (l : List Int) (c : Int) : lastOf (l ++ [c]) = c := by simp [lastOf]

theorem orderFrom_mem (n : Int) : ∀ (order seen : List Int), orderFrom n seen order = 0 → ∀ c ∈ order, 0 ≤ c ∧ c < n ∧ c ∉ seen
  | [], _, _ => by intro c hc; cases hc
  | x :: r, seen, h => by
      unfold orderFrom at h
      split at h
      · cases h
      · split at h
        · cases h
        · intro c hc
          rcases List.mem_cons.1 hc with rfl | hc
          · exact ⟨by omega, by omega, by assumption⟩
          · obtain ⟨h1, h2, h3⟩ := orderFrom_mem n r _ h c hc
            exact ⟨h1, h2, fun hm => h3 (by simp [hm])⟩
theorem orderFrom_nodup (n : Int) : ∀ (order seen : List Int), orderFrom n seen order = 0 → order.Nodup
  | [], _, _ => List.nodup_nil
  | x :: r, seen, h => by
      unfold orderFrom at h
      split at h
      · cases h
      · split at h
        · cases h
        · exact List.nodup_cons.2 ⟨fun hm => (orderFrom_mem n r _ h x hm).2.2 (by simp), orderFrom_nodup n r _ h⟩
theorem colErr_mem (n : Int) : ∀ (l : List Int) (last : Int), colErr n last l = 0 → ∀ c ∈ l, 0 ≤ c ∧ c < n
  | [], _, _ => by intro c hc; cases hc
  | x :: r, last, h => by
      unfold colErr at h
      split at h
      · cases h
      · split at h
        · cases h
        · intro c hc
          rcases List.mem_cons.1 hc with rfl | hc
          · exact ⟨by omega, by omega⟩
          · exact colErr_mem n r x h c hc
theorem netsFrom_mem (n : Int) : ∀ (l : List Net) (seen : List Int), netsFrom n seen l = 0 → ∀ x ∈ l, x.2 ≠ [] ∧ ∀ c ∈ x.2, 0 ≤ c ∧ c < n
  | [], _, _ => by intro c hc; cases hc
  | x :: r, seen, h => by
      unfold netsFrom at h
      split at h
      · cases h
      · split at h
        · cases h
        · split at h
          · cases h
          · split at h
            · exact absurd h (by assumption)
            · intro y hy
              rcases List.mem_cons.1 hy with rfl | hy
              · exact ⟨by assumption, colErr_mem n _ _ (by rename_i h4; exact Classical.not_not.1 h4)⟩
              · exact netsFrom_mem n r _ h y hy

theorem posFrom_ge (c : Int) : ∀ (order : List Int) (k : Int), 0 ≤ k → c ∈ order → k ≤ posFrom k order c ∧ posFrom k order c < k + order.length
  | [], _, _, h => by cases h
  | x :: r, k, hk, h => by
      unfold posFrom
      split
      · simp; omega
      · have hm : c ∈ r := by
          rcases List.mem_cons.1 h with rfl | h
          · contradiction
          · exact h
        have := posFrom_ge c r (k + 1) (by omega) hm
        simp; omega
theorem pos_bd {order : List Int} {c : Int} (h : c ∈ order) : 0 ≤ pos order c ∧ pos order c < order.length := by
  have := posFrom_ge c order 0 (by omega) h
  unfold pos; omega

/-- the extent of a net, by the program and by the reference -/
def ext (at' : Int → Int) (cols : List Int) : Int × Int := (cols.foldl (fun l c => min l (at' c)) 97, cols.foldl (fun h c => max h (at' c)) (-1))
def refLow (p : Int → Int) : Int → List Int → Int
  | low, [] => low
  | low, c :: r => refLow p (if low < 0 ∨ p c < low then p c else low) r
theorem refLow_min (p : Int → Int) : ∀ (cols : List Int) (low : Int), 0 ≤ low → (∀ c ∈ cols, 0 ≤ p c) → refLow p low cols = cols.foldl (fun l c => min l (p c)) low
  | [], _, _, _ => rfl
  | c :: r, low, hl, h => by
      have hc := h c (by simp)
      unfold refLow
      rw [refLow_min p r _ (by split <;> omega) (fun d hd => h d (by simp [hd]))]
      simp only [List.foldl_cons]
      congr 1
      split <;> omega
theorem refLow_ext (p : Int → Int) (cols : List Int) (hne : cols ≠ []) (h : ∀ c ∈ cols, 0 ≤ p c ∧ p c < 97) : refLow p (-1) cols = (ext p cols).1 := by
  cases cols with
  | nil => exact absurd rfl hne
  | cons c r =>
    have hc := h c (by simp)
    unfold refLow ext
    rw [if_pos (by omega), refLow_min p r _ hc.1 (fun d hd => (h d (by simp [hd])).1)]
    simp only [List.foldl_cons]
    congr 1
    omega

/-- where each column stands, behind the first k rounds -/
def atUp (order : List Int) : Nat → Nat → Int
  | 0, _ => 0
  | k + 1, i => if (i : Int) = order.getD k (-1) then (k : Int) else atUp order k i
theorem atUp_step (order : List Int) (k X : Nat) (h : order[k]? = some (X : Int)) : atUp order (k + 1) = fun i => if i = X then (k : Int) else atUp order k i := by
  funext i
  simp only [atUp, List.getD_eq_getElem?_getD, h, Option.getD_some]
  by_cases hi : i = X
  · subst hi; simp
  · rw [if_neg hi, if_neg (by omega)]
theorem atUp_bd (order : List Int) : ∀ (k i : Nat), 0 ≤ atUp order k i ∧ atUp order k i ≤ k
  | 0, i => by simp [atUp]
  | k + 1, i => by
      have := atUp_bd order k i
      unfold atUp
      split <;> omega
/-- the extents, with positions by number -/
def exts (F : Nat → Int) (l : List Net) : List (Int × Int) := l.map fun x => ext (fun c => F c.toNat) x.2
theorem orderErr_zero {order : List Int} {n : Int} (h : orderErr order n = 0) : (order.length : Int) = n ∧ order.Nodup ∧ ∀ c ∈ order, 0 ≤ c ∧ c < n := by
  unfold orderErr at h
  split at h
  · cases h
  · rename_i hl
    exact ⟨Classical.not_not.1 hl, orderFrom_nodup n _ _ h, fun c hc => ⟨(orderFrom_mem n _ _ h c hc).1, (orderFrom_mem n _ _ h c hc).2.1⟩⟩
theorem netsErr_zero {l : List Net} {n : Int} (h : netsErr l n = 0) : 1 ≤ n ∧ n ≤ 97 ∧ l.length ≤ 64 ∧ ∀ x ∈ l, x.2 ≠ [] ∧ ∀ c ∈ x.2, 0 ≤ c ∧ c < n := by
  unfold netsErr at h
  split at h
  · cases h
  · split at h
    · cases h
    · exact ⟨by omega, by omega, by omega, netsFrom_mem n l _ h⟩
end Go.Proofs.YtkjjnnbbicoljaaGreatDoor.Bus
