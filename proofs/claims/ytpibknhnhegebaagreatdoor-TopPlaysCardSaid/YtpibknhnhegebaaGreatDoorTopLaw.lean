/- Plain facts for the statements about plays (no program). -/
import Derived.Test.YtpibknhnhegebaaGreatDoorPlayLaw
namespace Go.Proofs.YtpibknhnhegebaaGreatDoor.Play

/-- a position on the way -/
def mid (p x : Int) : Int := p + (x - p).tdiv 2
def slowFrom : Int → List Int → List Int
  | _, [] => []
  | p, x :: r => mid p x :: x :: slowFrom x r
def slow : List Int → List Int
  | [] => []
  | x :: r => x :: slowFrom x r
theorem mid_between (p x : Int) : p ≤ mid p x ∧ mid p x ≤ x ∨ x ≤ mid p x ∧ mid p x ≤ p := by
  unfold mid
  rcases Int.le_total 0 (x - p) with h | h
  · rw [Int.tdiv_eq_ediv_of_nonneg h]; omega
  · have : (x - p).tdiv 2 = -((p - x) / 2) := by
      rw [show x - p = -(p - x) by omega, Int.neg_tdiv, Int.tdiv_eq_ediv_of_nonneg (by omega)]
    rw [this]; omega
theorem slowFrom_snoc : ∀ (l : List Int) (p y x : Int), slowFrom p (l ++ [y, x]) = slowFrom p (l ++ [y]) ++ [mid y x, x]
  | [], _, _, _ => rfl
  | z :: l, p, y, x => by simp only [List.cons_append, slowFrom]; rw [slowFrom_snoc l z y x]
theorem slow_one (x : Int) : slow [x] = [x] := rfl
theorem slow_snoc (l : List Int) (y x : Int) : slow (l ++ [y, x]) = slow (l ++ [y]) ++ [mid y x, x] := by
  cases l with
  | nil => rfl
  | cons z r => simp only [List.cons_append, slow]; rw [slowFrom_snoc]
theorem slowFrom_len : ∀ (p : Int) (l : List Int), (slowFrom p l).length = 2 * l.length
  | _, [] => rfl
  | _, x :: r => by simp [slowFrom, slowFrom_len x r]; omega
theorem slow_len (l : List Int) : (slow l).length = 2 * l.length - 1 := by
  cases l with
  | nil => rfl
  | cons x r => simp [slow, slowFrom_len]; omega
theorem slowFrom_bd (B : Int) : ∀ (p : Int) (l : List Int), -B ≤ p ∧ p ≤ B → (∀ x ∈ l, -B ≤ x ∧ x ≤ B) → ∀ x ∈ slowFrom p l, -B ≤ x ∧ x ≤ B
  | _, [], _, _ => by simp [slowFrom]
  | p, y :: r, hp, h => by
      intro x hx
      have hy := h y (by simp)
      have hm := mid_between p y
      simp only [slowFrom, List.mem_cons] at hx
      rcases hx with rfl | rfl | hx
      · omega
      · exact hy
      · exact slowFrom_bd B y r hy (fun z hz => h z (by simp [hz])) x hx
theorem slow_bd (B : Int) (l : List Int) (h : ∀ x ∈ l, -B ≤ x ∧ x ≤ B) : ∀ x ∈ slow l, -B ≤ x ∧ x ≤ B := by
  cases l with
  | nil => simp [slow]
  | cons y r =>
    intro x hx
    simp only [slow, List.mem_cons] at hx
    rcases hx with rfl | hx
    · exact h x (by simp)
    · exact slowFrom_bd B y r (h y (by simp)) (fun z hz => h z (by simp [hz])) x hx
theorem plays_slowFrom (a : Int) (ha : 0 ≤ a) : ∀ (l : List Int) (p s : Int), s ≤ p → p - a ≤ s → ∀ i, i < l.length → (plays a s (slowFrom p l))[2 * i + 1]? = (plays a s l)[i]?
  | [], _, _, _, _, i, h => by simp at h
  | x :: r, p, s, h1, h2, i, h => by
      have hm := see_mid a s p x (mid p x) ha h1 h2 (mid_between p x)
      simp only [slowFrom, plays, hm]
      cases i with
      | zero => rfl
      | succ i =>
        have := plays_slowFrom a ha r x (see a s x) (see_le a s x) (see_ge a s x ha) i (by simpa using h)
        rw [show 2 * (i + 1) + 1 = (2 * i + 1) + 1 + 1 by omega]
        simpa using this
theorem plays_slow (a : Int) (ha : 0 ≤ a) (s : Int) (l : List Int) (i : Nat) (h : i < l.length) : (plays a s (slow l))[2 * i]? = (plays a s l)[i]? := by
  cases l with
  | nil => simp at h
  | cons x r =>
    simp only [slow, plays]
    cases i with
    | zero => rfl
    | succ i =>
      have := plays_slowFrom a ha r x (see a s x) (see_le a s x) (see_ge a s x ha) i (by simpa using h)
      rw [show 2 * (i + 1) = (2 * i + 1) + 1 by omega]
      simpa using this

/-- positions that are nowhere lower -/
def upFrom : Nat → List Int → List Int
  | _, [] => []
  | i, x :: r => (x + ((i % 3 : Nat) : Int)) :: upFrom (i + 1) r
theorem upFrom_snoc : ∀ (l : List Int) (i : Nat) (x : Int), upFrom i (l ++ [x]) = upFrom i l ++ [x + (((i + l.length) % 3 : Nat) : Int)]
  | [], i, x => by simp [upFrom]
  | y :: l, i, x => by simp only [List.cons_append, upFrom, upFrom_snoc l (i + 1) x, List.length_cons]; rw [show i + 1 + l.length = i + (l.length + 1) by omega]
theorem upFrom_len : ∀ (i : Nat) (l : List Int), (upFrom i l).length = l.length
  | _, [] => rfl
  | i, x :: r => by simp [upFrom, upFrom_len (i + 1) r]
theorem upFrom_bd (B : Int) : ∀ (i : Nat) (l : List Int), (∀ x ∈ l, -B ≤ x ∧ x ≤ B) → ∀ x ∈ upFrom i l, -B ≤ x ∧ x ≤ B + 2
  | _, [], _ => by simp [upFrom]
  | i, y :: r, h => by
      intro x hx
      have hy := h y (by simp)
      simp only [upFrom, List.mem_cons] at hx
      rcases hx with rfl | hx
      · omega
      · exact upFrom_bd B (i + 1) r (fun z hz => h z (by simp [hz])) x hx
theorem plays_up (a : Int) : ∀ (l : List Int) (i : Nat) (s t : Int), s ≤ t → ∀ (k : Nat) (x y : Int), (plays a s l)[k]? = some x → (plays a t (upFrom i l))[k]? = some y → x ≤ y
  | [], _, _, _, _, k, x, y, h, _ => by simp [plays] at h
  | z :: r, i, s, t, hst, k, x, y, h1, h2 => by
      have hm := see_mono a s t z (z + ((i % 3 : Nat) : Int)) hst (by omega)
      simp only [plays, upFrom] at h1 h2
      cases k with
      | zero => simp only [List.getElem?_cons_zero, Option.some.injEq] at h1 h2; rw [← h1, ← h2]; exact hm
      | succ k => exact plays_up a r (i + 1) _ _ hm k x y (by simpa using h1) (by simpa using h2)

/-- all that is seen to move -/
def mv (a : Int) : Int → List Int → Int
  | _, [] => 0
  | s, x :: r => max (see a s x - s) (s - see a s x) + mv a (see a s x) r
theorem mv_snoc (a : Int) : ∀ (l : List Int) (s x : Int), mv a s (l ++ [x]) = mv a s l + max (see a (lastSeen a s l) x - lastSeen a s l) (lastSeen a s l - see a (lastSeen a s l) x)
  | [], s, x => by simp [mv, lastSeen]
  | y :: l, s, x => by simp only [List.cons_append, mv, mv_snoc a l _ x, lastSeen]; omega
theorem mv_less (a b : Int) (ha : 0 ≤ a) (hab : a ≤ b) : ∀ (l : List Int) (s t : Int), t ≤ s → s - (b - a) ≤ t → mv b t l ≤ mv a s l
  | [], _, _, _, _ => Int.le_refl _
  | x :: r, s, t, h1, h2 => by
      obtain ⟨g1, g2, g3⟩ := step_less a b s t x ha hab h1 h2
      have := mv_less a b ha hab r _ _ g2 g3
      simp only [mv]; omega
theorem mv_bd (a M : Int) (ha : 0 ≤ a) (hM : a ≤ M) : ∀ (l : List Int) (s : Int), (∀ x ∈ l, -M ≤ x ∧ x ≤ M) → -2 * M ≤ s → s ≤ 2 * M → 0 ≤ mv a s l ∧ mv a s l ≤ l.length * (4 * M)
  | [], _, _, _, _ => by simp [mv]
  | x :: r, s, h, h1, h2 => by
      have hx := h x (by simp)
      have hs1 := see_le a s x
      have hs2 := see_ge a s x ha
      obtain ⟨g1, g2⟩ := mv_bd a M ha hM r (see a s x) (fun z hz => h z (by simp [hz])) (by omega) (by omega)
      simp only [mv, List.length_cons, Int.natCast_add, Int.add_mul]
      omega
theorem plays_el (a : Int) (_ : 0 ≤ a) (s : Int) (l : List Int) (k : Nat) (x : Int) (h : l[k]? = some x) : (plays a s l)[k]? = some (see a (lastSeen a s (l.take k)) x) := by
  have hk : k < l.length := (List.getElem?_eq_some_iff.1 h).1
  have h1 := plays_get a s l k hk
  have h2 : k < (plays a s l).length := by rw [plays_len]; exact hk
  rw [List.getElem?_eq_getElem h2]
  rw [List.getD_eq_getElem?_getD, List.getElem?_eq_getElem h2, List.getD_eq_getElem?_getD, h] at h1
  simpa using h1
end Go.Proofs.YtpibknhnhegebaaGreatDoor.Play
