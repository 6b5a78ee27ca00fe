namespace Go.Proofs.YtpibknhnhegebaaGreatDoor.Play
/-- what is seen of a shaft that moves to x. -/
def see (a s x : Int) : Int := min (max s (x - a)) x
def plays (a : Int) : Int → List Int → List Int
  | _, [] => []
  | s, x :: r => see a s x :: plays a (see a s x) r
/-- the last one seen -/
def lastSeen (a : Int) : Int → List Int → Int
  | s, [] => s
  | s, x :: r => lastSeen a (see a s x) r

theorem see_le (a s x : Int) : see a s x ≤ x := by unfold see; omega
theorem see_ge (a s x : Int) (ha : 0 ≤ a) : x - a ≤ see a s x := by unfold see; omega
theorem plays_len (a : Int) : ∀ (s : Int) (l : List Int), (plays a s l).length = l.length
  | _, [] => rfl
  | s, x :: r => by simp [plays, plays_len a _ r]
theorem plays_append (a : Int) : ∀ (s : Int) (l r : List Int), plays a s (l ++ r) = plays a s l ++ plays a (lastSeen a s l) r
  | _, [], _ => rfl
  | s, x :: l, r => by simp [plays, lastSeen, plays_append a _ l r]
theorem lastSeen_append (a : Int) : ∀ (s : Int) (l r : List Int), lastSeen a s (l ++ r) = lastSeen a (lastSeen a s l) r
  | _, [], _ => rfl
  | s, x :: l, r => by simp [lastSeen, lastSeen_append a _ l r]
theorem plays_snoc (a s : Int) (l : List Int) (x : Int) : plays a s (l ++ [x]) = plays a s l ++ [see a (lastSeen a s l) x] := by
  rw [plays_append]; rfl
theorem lastSeen_snoc (a s : Int) (l : List Int) (x : Int) : lastSeen a s (l ++ [x]) = see a (lastSeen a s l) x := by
  rw [lastSeen_append]; rfl
/-- the k-th element of what is seen -/
theorem plays_get (a : Int) : ∀ (s : Int) (l : List Int) (i : Nat), i < l.length → (plays a s l).getD i 0 = see a (lastSeen a s (l.take i)) (l.getD i 0)
  | s, x :: r, 0, _ => by simp [plays, lastSeen]
  | s, x :: r, i + 1, h => by
      have := plays_get a (see a s x) r i (by simpa using h)
      simpa [plays, lastSeen] using this
theorem lastSeen_take (a : Int) (s : Int) (l : List Int) (i : Nat) (h : i < l.length) : lastSeen a s (l.take (i + 1)) = (plays a s l).getD i 0 := by
  rw [plays_get a s l i h, List.take_succ_eq_append_getElem h, lastSeen_snoc]
  simp [List.getD_eq_getElem?_getD, h]
/-- bounds -/
theorem lastSeen_bd (a s B : Int) (ha : 0 ≤ a) : ∀ (l : List Int), (∀ x ∈ l, -B ≤ x ∧ x ≤ B) → -B - a ≤ s → s ≤ B → -B - a ≤ lastSeen a s l ∧ lastSeen a s l ≤ B
  | [], _, h1, h2 => ⟨h1, h2⟩
  | x :: r, h, h1, h2 => by
      have hx := h x (by simp)
      refine lastSeen_bd a (see a s x) B ha r (fun y hy => h y (by simp [hy])) ?_ ?_ <;> unfold see <;> omega

/-- one play behind another one -/
theorem see_see (a b s t x : Int) (ha : 0 ≤ a) (hb : 0 ≤ b) (h1 : t ≤ s) (h2 : s - b ≤ t) : see b t (see a s x) = see (a + b) t x := by
  unfold see; omega
theorem see_inv (a b s t x : Int) (ha : 0 ≤ a) (hb : 0 ≤ b) (h1 : t ≤ s) (h2 : s - b ≤ t) : see (a + b) t x ≤ see a s x ∧ see a s x - b ≤ see (a + b) t x := by
  unfold see; omega
theorem plays_plays (a b : Int) (ha : 0 ≤ a) (hb : 0 ≤ b) : ∀ (l : List Int) (s t : Int), t ≤ s → s - b ≤ t → plays b t (plays a s l) = plays (a + b) t l
  | [], _, _, _, _ => rfl
  | x :: r, s, t, h1, h2 => by
      have e := see_see a b s t x ha hb h1 h2
      have i := see_inv a b s t x ha hb h1 h2
      simp [plays, e, plays_plays a b ha hb r _ _ i.1 i.2]
/-- the movement that is seen -/
theorem step_less (a b s t x : Int) (ha : 0 ≤ a) (hab : a ≤ b) (h1 : t ≤ s) (h2 : s - (b - a) ≤ t) :
    max (see b t x - t) (t - see b t x) ≤ max (see a s x - s) (s - see a s x) ∧ see b t x ≤ see a s x ∧ see a s x - (b - a) ≤ see b t x := by
  unfold see; omega
/-- positions on the way -/
theorem see_mid (a s p x m : Int) (ha : 0 ≤ a) (h1 : s ≤ p) (h2 : p - a ≤ s) (hm : p ≤ m ∧ m ≤ x ∨ x ≤ m ∧ m ≤ p) : see a (see a s m) x = see a s x := by
  unfold see; omega
theorem see_mono (a s t x y : Int) (h1 : s ≤ t) (h2 : x ≤ y) : see a s x ≤ see a t y := by
  unfold see; omega
end Go.Proofs.YtpibknhnhegebaaGreatDoor.Play
