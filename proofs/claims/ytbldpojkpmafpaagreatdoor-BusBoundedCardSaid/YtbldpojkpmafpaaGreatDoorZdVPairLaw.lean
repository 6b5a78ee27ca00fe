/- All orders of the numbers below n, in plain Lean: by prefixes, by levels; what is the least of them. -/
import Derived.Test.YtbldpojkpmafpaaGreatDoorZdLayKit
import Derived.Test.YtbldpojkpmafpaaGreatDoorZdBusRefNets
import Derived.Test.YtbldpojkpmafpaaGreatDoorZdVCr
import Derived.Test.YtbldpojkpmafpaaGreatDoorZdOrdLaw
import Derived.Test.YtbldpojkpmafpaaGreatDoorZdBusTaps
import Derived.BigQuiet
import Derived.Lib.SlicesCompact
namespace Go.Proofs.YtbldpojkpmafpaaGreatDoor
def ext (m : Nat) : Nat → List Int → List (List Int)
  | 0, ch => [ch]
  | d + 1, ch => (List.range m).flatMap fun k : Nat => if (k : Int) ∈ ch then [] else ext m d (ch ++ [(k : Int)])
def extTo (m d : Nat) (ch : List Int) (k : Nat) : List (List Int) := (List.range k).flatMap fun k : Nat => if (k : Int) ∈ ch then [] else ext m d (ch ++ [(k : Int)])
theorem extTo_next (m d : Nat) (ch : List Int) (k : Nat) : extTo m d ch (k + 1) = extTo m d ch k ++ if (k : Int) ∈ ch then [] else ext m d (ch ++ [(k : Int)]) := by
  unfold extTo
  rw [List.range_succ, List.flatMap_append]
  simp
theorem extTo_all (m d : Nat) (ch : List Int) : extTo m d ch m = ext m (d + 1) ch := rfl
def moreTo (l : List Int) (k : Nat) : List (List Int) := (List.range k).flatMap fun k : Nat => if (k : Int) ∈ l then [] else [l ++ [(k : Int)]]
def nextTo (n : Nat) (ls : List (List Int)) (i : Nat) : List (List Int) := (ls.take i).flatMap fun l => moreTo l n
def level (n : Nat) : Nat → List (List Int)
  | 0 => [[]]
  | k + 1 => nextTo n (level n k) (level n k).length
structure IsOrd (m : Nat) (p : List Int) : Prop where
  len : p.length = m
  bd : ∀ x ∈ p, 0 ≤ x ∧ x < m
  nd : p.Nodup
theorem ext_mem (m : Nat) : ∀ (d : Nat) (ch p : List Int), p ∈ ext m d ch ↔ ∃ t, p = ch ++ t ∧ t.length = d ∧ (∀ x ∈ t, 0 ≤ x ∧ x < m ∧ x ∉ ch) ∧ t.Nodup
  | 0, ch, p => by
    show p ∈ [ch] ↔ _
    rw [List.mem_singleton]
    constructor
    · rintro rfl
      exact ⟨[], by simp, rfl, (fun x hx => by cases hx), List.nodup_nil⟩
    · rintro ⟨t, rfl, h, _⟩
      rw [List.eq_nil_of_length_eq_zero h, List.append_nil]
  | d + 1, ch, p => by
    show p ∈ (List.range m).flatMap _ ↔ _
    rw [List.mem_flatMap]
    constructor
    · rintro ⟨k, hk, hp⟩
      have hk := List.mem_range.1 hk
      by_cases hc : (k : Int) ∈ ch
      · rw [if_pos hc] at hp; cases hp
      · rw [if_neg hc, ext_mem m d] at hp
        obtain ⟨t, rfl, h1, h2, h3⟩ := hp
        refine ⟨(k : Int) :: t, by simp, by simp [h1], fun x hx => ?_, ?_⟩
        · rcases List.mem_cons.1 hx with rfl | hx
          · exact ⟨by omega, by omega, hc⟩
          · obtain ⟨a, b, c⟩ := h2 x hx
            exact ⟨a, b, fun h => c (List.mem_append_left _ h)⟩
        · refine List.nodup_cons.2 ⟨fun h => ?_, h3⟩
          exact (h2 _ h).2.2 (by simp)
    · rintro ⟨t, rfl, h1, h2, h3⟩
      cases t with
      | nil => cases h1
      | cons x t =>
        obtain ⟨a, b, c⟩ := h2 x List.mem_cons_self
        refine ⟨x.toNat, List.mem_range.2 (by omega), ?_⟩
        have e : ((x.toNat : Nat) : Int) = x := by omega
        rw [e, if_neg c, ext_mem m d]
        obtain ⟨n1, n2⟩ := List.nodup_cons.1 h3
        refine ⟨t, by simp, by simpa using h1, fun y hy => ?_, n2⟩
        obtain ⟨a', b', c'⟩ := h2 y (List.mem_cons_of_mem _ hy)
        refine ⟨a', b', fun h => ?_⟩
        rcases List.mem_append.1 h with h | h
        · exact c' h
        · rw [List.mem_singleton] at h
          subst h
          exact n1 hy
theorem ord_mem (m : Nat) (p : List Int) : p ∈ ext m m [] ↔ IsOrd m p := by
  rw [ext_mem]
  constructor
  · rintro ⟨t, rfl, h1, h2, h3⟩
    exact ⟨by simpa using h1, fun x hx => by have := h2 x (by simpa using hx); exact ⟨this.1, this.2.1⟩, by simpa using h3⟩
  · rintro ⟨h1, h2, h3⟩
    exact ⟨p, by simp, h1, fun x hx => ⟨(h2 x hx).1, (h2 x hx).2, by simp⟩, h3⟩

section
variable {α κ : Type} (key : α → κ) (lt : κ → κ → Bool)
def bestStep (st : Option α) (x : α) : Option α := match st with
  | none => some x
  | some b => if lt (key x) (key b) = true then some x else some b
def bestOf (l : List α) : Option α := l.foldl (bestStep key lt) none
theorem bestOf_snoc (l : List α) (x : α) : bestOf key lt (l ++ [x]) = bestStep key lt (bestOf key lt l) x := by
  unfold bestOf; rw [List.foldl_append]; rfl
theorem bestOf_mem : ∀ (l : List α), (l = [] ∧ bestOf key lt l = none) ∨ ∃ b, bestOf key lt l = some b ∧ b ∈ l := by
  intro l
  suffices h : ∀ (r : List α) (st : Option α), (r = [] ∧ r.foldl (bestStep key lt) st = st) ∨ ∃ b, r.foldl (bestStep key lt) st = some b ∧ (b ∈ r ∨ st = some b) by
    rcases h l none with h | ⟨b, h1, h2 | h2⟩
    · exact .inl h
    · exact .inr ⟨b, h1, h2⟩
    · cases h2
  intro r
  induction r with
  | nil => intro st; exact .inl ⟨rfl, rfl⟩
  | cons x r ih =>
    intro st
    right
    show ∃ b, r.foldl (bestStep key lt) (bestStep key lt st x) = some b ∧ _
    have hx : ∃ y, bestStep key lt st x = some y ∧ (y = x ∨ st = some y) := by
      cases st with
      | none => exact ⟨x, rfl, .inl rfl⟩
      | some b =>
        by_cases hl : lt (key x) (key b) = true
        · exact ⟨x, by simp [bestStep, hl], .inl rfl⟩
        · exact ⟨b, by simp [bestStep, hl], .inr rfl⟩
    obtain ⟨y, hy, hy2⟩ := hx
    rcases ih (bestStep key lt st x) with ⟨rfl, h⟩ | ⟨b, h1, h2⟩
    · rw [hy] at h ⊢
      refine ⟨y, rfl, ?_⟩
      rcases hy2 with rfl | h2
      · exact .inl List.mem_cons_self
      · exact .inr h2
    · refine ⟨b, h1, ?_⟩
      rcases h2 with h2 | h2
      · exact .inl (List.mem_cons_of_mem _ h2)
      · rw [hy] at h2
        cases h2
        rcases hy2 with rfl | h2
        · exact .inl List.mem_cons_self
        · exact .inr h2
structure KeyOrd : Prop where
  irr : ∀ a, lt a a = false
  tr : ∀ a b c, lt b a = false → lt c b = false → lt c a = false
  asymm : ∀ a b, lt a b = true → lt b a = false
theorem snoc_ind {β : Type} {motive : List β → Prop} (nil : motive []) (snoc : ∀ l x, motive l → motive (l ++ [x])) (l : List β) : motive l := by
  have h : ∀ r : List β, motive r.reverse := fun r => by
    induction r with
    | nil => exact nil
    | cons x r ih => rw [List.reverse_cons]; exact snoc _ _ ih
  have := h l.reverse
  rwa [List.reverse_reverse] at this
theorem bestOf_least (ho : KeyOrd lt) : ∀ (l : List α) (b : α), bestOf key lt l = some b → ∀ x ∈ l, lt (key x) (key b) = false := by
  intro l
  refine snoc_ind (motive := fun l => ∀ b, bestOf key lt l = some b → ∀ x ∈ l, lt (key x) (key b) = false) (fun b _ x hx => (by cases hx)) (fun l y ih => ?_) l
  · intro b hb x hx
    rw [bestOf_snoc] at hb
    cases hl : bestOf key lt l with
    | none =>
      rcases bestOf_mem key lt l with ⟨rfl, _⟩ | ⟨b', h, _⟩
      · rw [hl] at hb
        cases hb
        rcases List.mem_append.1 hx with hx | hx
        · cases hx
        · rw [List.mem_singleton] at hx; subst hx; exact ho.irr _
      · rw [hl] at h; cases h
    | some b0 =>
      rw [hl] at hb
      have h0 := ih b0 hl
      by_cases hlt : lt (key y) (key b0) = true
      · simp only [bestStep, hlt, if_true] at hb
        cases hb
        rcases List.mem_append.1 hx with hx | hx
        · exact ho.tr _ _ _ (ho.asymm _ _ hlt) (h0 x hx)
        · rw [List.mem_singleton] at hx; subst hx; exact ho.irr _
      · simp only [bestStep, hlt, Bool.false_eq_true, if_false] at hb
        cases hb
        rcases List.mem_append.1 hx with hx | hx
        · exact h0 x hx
        · rw [List.mem_singleton] at hx; subst hx; simpa using hlt
end
def lexB : List Int → List Int → Bool
  | a :: l, b :: m => if a = b then lexB l m else decide (a < b)
  | [], _ :: _ => true
  | _, [] => false
theorem lexB_ord : KeyOrd lexB := by
  refine ⟨fun a => ?_, fun a b c => ?_, fun a b => ?_⟩
  · induction a with
    | nil => rfl
    | cons x l ih => simp [lexB, ih]
  · induction a generalizing b c with
    | nil => intro _ _; cases c <;> rfl
    | cons x a ih =>
      intro h1 h2
      cases b with
      | nil => simp [lexB] at h1
      | cons y b =>
        cases c with
        | nil => simp [lexB] at h2
        | cons z c =>
          simp only [lexB] at h1 h2 ⊢
          by_cases e1 : y = x
          · subst e1
            rw [if_pos rfl] at h1
            by_cases e2 : z = y
            · subst e2
              rw [if_pos rfl] at h2 ⊢
              exact ih b c h1 h2
            · rw [if_neg e2] at h2 ⊢; exact h2
          · rw [if_neg e1] at h1
            have h1 := of_decide_eq_false h1
            by_cases e2 : z = y
            · subst e2
              rw [if_neg e1]; exact decide_eq_false h1
            · rw [if_neg e2] at h2
              have h2 := of_decide_eq_false h2
              rw [if_neg (by omega)]
              exact decide_eq_false (by omega)
  · induction a generalizing b with
    | nil => intro h; cases b with
      | nil => rfl
      | cons y b => rfl
    | cons x a ih =>
      intro h
      cases b with
      | nil => simp [lexB] at h
      | cons y b =>
        simp only [lexB] at h ⊢
        by_cases e : x = y
        · subst e
          rw [if_pos rfl] at h ⊢
          exact ih b h
        · rw [if_neg e] at h
          have h := of_decide_eq_true h
          rw [if_neg (fun e' => e e'.symm)]
          exact decide_eq_false (by omega)
theorem lexB_eq : ∀ {a b : List Int}, a.length = b.length → lexB a b = false → lexB b a = false → a = b
  | [], [], _, _, _ => rfl
  | [], _ :: _, h, _, _ => by simp at h
  | _ :: _, [], h, _, _ => by simp at h
  | x :: a, y :: b, h, h1, h2 => by
    simp only [lexB] at h1 h2
    by_cases e : x = y
    · subst e
      rw [if_pos rfl] at h1 h2
      rw [lexB_eq (by simpa using h) h1 h2]
    · rw [if_neg e] at h1
      rw [if_neg (fun e' => e e'.symm)] at h2
      have h1 := of_decide_eq_false h1
      have h2 := of_decide_eq_false h2
      omega
end Go.Proofs.YtbldpojkpmafpaaGreatDoor

/- Lists of integers compared, by the library and by the reference. -/
namespace Go.Proofs.YtbldpojkpmafpaaGreatDoor
open Go.RowKit Sv
set_option maxRecDepth 100000
set_option linter.unusedVariables false
noncomputable section
def cmpI (a b : List Int) : Int := if lexB a b = true then -1 else if lexB b a = true then 1 else 0
def BCmp : Code := (Tryz.f46.body).getD .skip
def SCmp (a b : List Int) (i : Nat) : St := { n := 36, sl := [(0, lv a), (1, lv b), (9, lv a), (10, iv a.length), (11, iv i)], en := [], next := 64 }
theorem cmp_start (a b : List Int)  :
    Tst.path (vrun0 Tryz.prog (ctrs []) (fl BCmp []) 2 36 [lv a, lv b]) [] (toSt Tryz.prog 36 .normal [] (SCmp a b 0)) := by
  have eTst : (Tst.path (vrun0 Tryz.prog (ctrs []) (fl BCmp []) 2 36 [lv a, lv b]) [] (toSt Tryz.prog 36 .normal [] (SCmp a b 0))) = (((a) = (a)) ∧ ((b) = (b)) ∧ ((a) = (a)) ∧ (((↑(List.length a) : Int)) = ((↑(List.length a) : Int))) ∧ (((0 : Int)) = ((↑(0 : Nat) : Int))) ∧ True) := by kernel_rfl
  exact eTst.mpr ⟨rfl, ⟨rfl, ⟨rfl, ⟨rfl, ⟨rfl, trivial⟩⟩⟩⟩⟩
theorem cmp_far (a b : List Int) (i : Nat) (h1 : (↑i : Int) < (↑(List.length a) : Int)) (h2 : i < List.length a) (h3 : (↑i : Int) ≥ (↑(List.length b) : Int)) :
    Tst.path (vall Tryz.prog (ctrs []) (fl BCmp [1,0,1,0,0]) (SCmp a b i)) [true, true] (toRet Tryz.prog Tryz.f46 true (iv 1)) := by
  have eTst : (Tst.path (vall Tryz.prog (ctrs []) (fl BCmp [1,0,1,0,0]) (SCmp a b i)) [true, true] (toRet Tryz.prog Tryz.f46 true (iv 1))) = (((decide ((↑i : Int) < (↑(List.length a) : Int))) = true) ∧ ((decide ((0 : Int) ≤ (↑i : Int))) = true) ∧ ((decide (i < List.length a)) = true) ∧ ((decide ((↑i : Int) ≥ (↑(List.length b) : Int))) = true) ∧ ((1 : Int)) = ((1 : Int))) := by kernel_rfl
  exact eTst.mpr ⟨decide_eq_true h1, ⟨decide_eq_true (by omega), ⟨decide_eq_true h2, ⟨decide_eq_true h3, rfl⟩⟩⟩⟩
theorem cmp_lt (a b : List Int) (i : Nat) (h1 : (↑i : Int) < (↑(List.length a) : Int)) (h2 : i < List.length a) (h3 : ¬(↑i : Int) ≥ (↑(List.length b) : Int)) (h4 : i < List.length b) (h5 : List.getD a i (0 : Int) = List.getD a i (0 : Int)) (h6 : List.getD b i (0 : Int) = List.getD b i (0 : Int)) (h7 : List.getD a i (0 : Int) < List.getD b i (0 : Int)) :
    Tst.path (vall Tryz.prog (ctrs []) (fl BCmp [1,0,1,0,0]) (SCmp a b i)) [true, false, false, false, true, true] (toRet Tryz.prog Tryz.f46 true (iv (-1))) := by
  have eTst : (Tst.path (vall Tryz.prog (ctrs []) (fl BCmp [1,0,1,0,0]) (SCmp a b i)) [true, false, false, false, true, true] (toRet Tryz.prog Tryz.f46 true (iv (-1)))) = (((decide ((↑i : Int) < (↑(List.length a) : Int))) = true) ∧ ((decide ((0 : Int) ≤ (↑i : Int))) = true) ∧ ((decide (i < List.length a)) = true) ∧ ((decide ((↑i : Int) ≥ (↑(List.length b) : Int))) = false) ∧ ((decide ((0 : Int) ≤ (↑i : Int))) = true) ∧ ((decide (i < List.length b)) = true) ∧ ((List.getD a i (0 : Int) != List.getD a i (0 : Int)) = false) ∧ ((List.getD b i (0 : Int) != List.getD b i (0 : Int)) = false) ∧ ((decide (List.getD a i (0 : Int) < List.getD b i (0 : Int))) = true) ∧ (((-1 : Int) != (0 : Int)) = true) ∧ ((-1 : Int)) = ((-1 : Int))) := by kernel_rfl
  exact eTst.mpr ⟨decide_eq_true h1, ⟨decide_eq_true (by omega), ⟨decide_eq_true h2, ⟨decide_eq_false h3, ⟨decide_eq_true (by omega), ⟨decide_eq_true h4, ⟨bne_eq_false_iff_eq.mpr h5, ⟨bne_eq_false_iff_eq.mpr h6, ⟨decide_eq_true h7, ⟨rfl, rfl⟩⟩⟩⟩⟩⟩⟩⟩⟩⟩
theorem cmp_gt (a b : List Int) (i : Nat) (h1 : (↑i : Int) < (↑(List.length a) : Int)) (h2 : i < List.length a) (h3 : ¬(↑i : Int) ≥ (↑(List.length b) : Int)) (h4 : i < List.length b) (h5 : List.getD a i (0 : Int) = List.getD a i (0 : Int)) (h6 : List.getD b i (0 : Int) = List.getD b i (0 : Int)) (h7 : ¬List.getD a i (0 : Int) < List.getD b i (0 : Int)) (h8 : List.getD a i (0 : Int) > List.getD b i (0 : Int)) :
    Tst.path (vall Tryz.prog (ctrs []) (fl BCmp [1,0,1,0,0]) (SCmp a b i)) [true, false, false, false, false, true, true] (toRet Tryz.prog Tryz.f46 true (iv 1)) := by
  have eTst : (Tst.path (vall Tryz.prog (ctrs []) (fl BCmp [1,0,1,0,0]) (SCmp a b i)) [true, false, false, false, false, true, true] (toRet Tryz.prog Tryz.f46 true (iv 1))) = (((decide ((↑i : Int) < (↑(List.length a) : Int))) = true) ∧ ((decide ((0 : Int) ≤ (↑i : Int))) = true) ∧ ((decide (i < List.length a)) = true) ∧ ((decide ((↑i : Int) ≥ (↑(List.length b) : Int))) = false) ∧ ((decide ((0 : Int) ≤ (↑i : Int))) = true) ∧ ((decide (i < List.length b)) = true) ∧ ((List.getD a i (0 : Int) != List.getD a i (0 : Int)) = false) ∧ ((List.getD b i (0 : Int) != List.getD b i (0 : Int)) = false) ∧ ((decide (List.getD a i (0 : Int) < List.getD b i (0 : Int))) = false) ∧ ((decide (List.getD a i (0 : Int) > List.getD b i (0 : Int))) = true) ∧ (((1 : Int) != (0 : Int)) = true) ∧ ((1 : Int)) = ((1 : Int))) := by kernel_rfl
  exact eTst.mpr ⟨decide_eq_true h1, ⟨decide_eq_true (by omega), ⟨decide_eq_true h2, ⟨decide_eq_false h3, ⟨decide_eq_true (by omega), ⟨decide_eq_true h4, ⟨bne_eq_false_iff_eq.mpr h5, ⟨bne_eq_false_iff_eq.mpr h6, ⟨decide_eq_false h7, ⟨decide_eq_true h8, ⟨rfl, rfl⟩⟩⟩⟩⟩⟩⟩⟩⟩⟩⟩
theorem cmp_go (a b : List Int) (i : Nat) (h1 : (↑i : Int) < (↑(List.length a) : Int)) (h2 : i < List.length a) (h3 : ¬(↑i : Int) ≥ (↑(List.length b) : Int)) (h4 : i < List.length b) (h5 : List.getD a i (0 : Int) = List.getD a i (0 : Int)) (h6 : List.getD b i (0 : Int) = List.getD b i (0 : Int)) (h7 : ¬List.getD a i (0 : Int) < List.getD b i (0 : Int)) (h8 : ¬List.getD a i (0 : Int) > List.getD b i (0 : Int)) (h9 : -9223372036854775808 ≤ (↑i : Int) + (1 : Int) ∧ (↑i : Int) + (1 : Int) ≤ 9223372036854775807) :
    Tst.path (vall Tryz.prog (ctrs []) (fl BCmp [1,0,1,0,0]) (SCmp a b i)) [true, false, false, false, false, false, false] (toSt Tryz.prog 36 .normal [] (SCmp a b (i + 1))) := by
  have eTst : (Tst.path (vall Tryz.prog (ctrs []) (fl BCmp [1,0,1,0,0]) (SCmp a b i)) [true, false, false, false, false, false, false] (toSt Tryz.prog 36 .normal [] (SCmp a b (i + 1)))) = (((decide ((↑i : Int) < (↑(List.length a) : Int))) = true) ∧ ((decide ((0 : Int) ≤ (↑i : Int))) = true) ∧ ((decide (i < List.length a)) = true) ∧ ((decide ((↑i : Int) ≥ (↑(List.length b) : Int))) = false) ∧ ((decide ((0 : Int) ≤ (↑i : Int))) = true) ∧ ((decide (i < List.length b)) = true) ∧ ((List.getD a i (0 : Int) != List.getD a i (0 : Int)) = false) ∧ ((List.getD b i (0 : Int) != List.getD b i (0 : Int)) = false) ∧ ((decide (List.getD a i (0 : Int) < List.getD b i (0 : Int))) = false) ∧ ((decide (List.getD a i (0 : Int) > List.getD b i (0 : Int))) = false) ∧ (((0 : Int) != (0 : Int)) = false) ∧ ((fits IntKind.i64 ((↑i : Int) + (1 : Int))) = true) ∧ ((a) = (a)) ∧ ((b) = (b)) ∧ ((a) = (a)) ∧ (((↑(List.length a) : Int)) = ((↑(List.length a) : Int))) ∧ (((↑i : Int) + (1 : Int)) = ((↑(i + (1 : Nat)) : Int))) ∧ True) := by kernel_rfl
  exact eTst.mpr ⟨decide_eq_true h1, ⟨decide_eq_true (by omega), ⟨decide_eq_true h2, ⟨decide_eq_false h3, ⟨decide_eq_true (by omega), ⟨decide_eq_true h4, ⟨bne_eq_false_iff_eq.mpr h5, ⟨bne_eq_false_iff_eq.mpr h6, ⟨decide_eq_false h7, ⟨decide_eq_false h8, ⟨rfl, ⟨fits_i64 h9, ⟨rfl, ⟨rfl, ⟨rfl, ⟨rfl, ⟨(by omega), trivial⟩⟩⟩⟩⟩⟩⟩⟩⟩⟩⟩⟩⟩⟩⟩⟩⟩
theorem cmp_end (a b : List Int) (i : Nat) (h1 : ¬(↑i : Int) < (↑(List.length a) : Int)) :
    Tst.path (vall Tryz.prog (ctrs []) (fl BCmp [1,0,1,0,0]) (SCmp a b i)) [false] (toSt Tryz.prog 36 (.exit 0) [] (SCmp a b i)) := by
  have eTst : (Tst.path (vall Tryz.prog (ctrs []) (fl BCmp [1,0,1,0,0]) (SCmp a b i)) [false] (toSt Tryz.prog 36 (.exit 0) [] (SCmp a b i))) = (((decide ((↑i : Int) < (↑(List.length a) : Int))) = false) ∧ ((a) = (a)) ∧ ((b) = (b)) ∧ ((a) = (a)) ∧ (((↑(List.length a) : Int)) = ((↑(List.length a) : Int))) ∧ (((↑i : Int)) = ((↑i : Int))) ∧ True) := by kernel_rfl
  exact eTst.mpr ⟨decide_eq_false h1, ⟨rfl, ⟨rfl, ⟨rfl, ⟨rfl, ⟨rfl, trivial⟩⟩⟩⟩⟩⟩
theorem cmp_short (a b : List Int) (i : Nat) (h1 : (↑(List.length a) : Int) < (↑(List.length b) : Int)) :
    Tst.path (vall Tryz.prog (ctrs []) (List.drop 3 (fl BCmp [])) (SCmp a b i)) [true] (toRet Tryz.prog Tryz.f46 true (iv (-1))) := by
  have eTst : (Tst.path (vall Tryz.prog (ctrs []) (List.drop 3 (fl BCmp [])) (SCmp a b i)) [true] (toRet Tryz.prog Tryz.f46 true (iv (-1)))) = (((decide ((↑(List.length a) : Int) < (↑(List.length b) : Int))) = true) ∧ ((-1 : Int)) = ((-1 : Int))) := by kernel_rfl
  exact eTst.mpr ⟨decide_eq_true h1, rfl⟩
theorem cmp_same (a b : List Int) (i : Nat) (h1 : ¬(↑(List.length a) : Int) < (↑(List.length b) : Int)) :
    Tst.path (vall Tryz.prog (ctrs []) (List.drop 3 (fl BCmp [])) (SCmp a b i)) [false] (toRet Tryz.prog Tryz.f46 true (iv 0)) := by
  have eTst : (Tst.path (vall Tryz.prog (ctrs []) (List.drop 3 (fl BCmp [])) (SCmp a b i)) [false] (toRet Tryz.prog Tryz.f46 true (iv 0))) = (((decide ((↑(List.length a) : Int) < (↑(List.length b) : Int))) = false) ∧ ((0 : Int)) = ((0 : Int))) := by kernel_rfl
  exact eTst.mpr ⟨decide_eq_false h1, rfl⟩
noncomputable def cCmp : Ctr := { f := 46, ps := [.list false (.int .i64), .list false (.int .i64)], rs := [.int .i64], fresh := true, pre := fun d => decide (List.length (α := Int) d.1 ≤ 1000000), fn := fun d => (cmpI d.1 d.2.1, ()) }
theorem drop_at {l : List Int} {i : Nat} (h : i < l.length) : l.drop i = l.getD i 0 :: l.drop (i + 1) := by
  rw [getD_lt h]; exact List.drop_eq_getElem_cons h
theorem lexB_pre : ∀ (i : Nat) (a b : List Int), a.take i = b.take i → i ≤ a.length → i ≤ b.length → lexB a b = lexB (a.drop i) (b.drop i)
  | 0, _, _, _, _, _ => rfl
  | i + 1, [], _, _, h, _ => by simp at h
  | i + 1, _ :: _, [], _, _, h => by simp at h
  | i + 1, x :: a, y :: b, e, h1, h2 => by
    rw [List.take_succ_cons, List.take_succ_cons] at e
    have e1 := (List.cons.inj e).1
    have e2 := (List.cons.inj e).2
    subst e1
    show (if x = x then lexB a b else _) = _
    rw [if_pos rfl]
    exact lexB_pre i a b e2 (by simpa using h1) (by simpa using h2)
theorem lexB_lt {x y : Int} {l m : List Int} (h : x < y) : lexB (x :: l) (y :: m) = true := by
  show (if x = y then lexB l m else decide (x < y)) = true
  rw [if_neg (by omega)]; exact decide_eq_true h
theorem lexB_gt {x y : Int} {l m : List Int} (h : y < x) : lexB (x :: l) (y :: m) = false := by
  show (if x = y then lexB l m else decide (x < y)) = false
  rw [if_neg (by omega)]; exact decide_eq_false (by omega)
theorem cmp_holds (a b : List Int) (hl : a.length ≤ 1000000) : Holds Tryz.prog true 46 [lv a, lv b] (iv (cmpI a b)) := by
  have hS := none_ok
  refine holds_fl (c := BCmp) Tryz.func46 rfl rfl fun w F => ?_
  refine GoalL.to known mixed hS 2 _ (cmp_start a b) (by kernel_rfl) ?_
  refine GoalL.loop (ι := { i : Nat // i ≤ a.length ∧ i ≤ b.length ∧ a.take i = b.take i }) (id := 0) (b := cat BCmp [1,0,1,0,0]) (rest := List.drop 3 (fl BCmp [])) (by kernel_rfl) (fun i => SCmp a b i.1) (fun i => a.length - i.1) ⟨0, Nat.zero_le _, Nat.zero_le _, rfl⟩ (fun _ => rfl) ?_
  rintro ⟨i, h1, h2, h3⟩
  have hp := lexB_pre i a b h3 h1 h2
  have hq := lexB_pre i b a h3.symm h2 h1
  by_cases hlt : i < a.length
  · by_cases hb : i < b.length
    · rw [drop_at hlt, drop_at hb] at hp hq
      rcases Int.lt_trichotomy (a.getD i 0) (b.getD i 0) with h | h | h
      · refine GoalL.allRet (s := SCmp a b i) known mixed hS _ (cmp_lt a b i (by omega) hlt (by omega) hb rfl rfl h) fun T H g => ?_
        rw [show cmpI a b = -1 by unfold cmpI; rw [hp, lexB_lt h, if_pos rfl]]
        exact g
      · refine GoalL.all (s := SCmp a b i) known mixed hS _ (cmp_go a b i (by omega) hlt (by omega) hb rfl rfl (by omega) (by omega) (by omega)) (by kernel_rfl) ?_
        exact ⟨⟨i + 1, by omega, by omega, by rw [take_next hlt, take_next hb, h3, h]⟩, by simp; omega, rfl, rfl⟩
      · refine GoalL.allRet (s := SCmp a b i) known mixed hS _ (cmp_gt a b i (by omega) hlt (by omega) hb rfl rfl (by omega) (by omega)) fun T H g => ?_
        rw [show cmpI a b = 1 by unfold cmpI; rw [hp, hq, lexB_gt h, lexB_lt h, if_neg (by decide), if_pos rfl]]
        exact g
    · refine GoalL.allRet (s := SCmp a b i) known mixed hS _ (cmp_far a b i (by omega) hlt (by omega)) fun T H g => ?_
      rw [drop_at hlt, List.drop_of_length_le (show b.length ≤ i by omega)] at hp hq
      rw [show cmpI a b = 1 by unfold cmpI; rw [hp, hq]; rfl]
      exact g
  · refine GoalL.all (s := SCmp a b i) known mixed hS _ (cmp_end a b i (by omega)) (by kernel_rfl) ?_
    refine onN_exit (inB_exit ?_)
    obtain rfl : i = a.length := by omega
    rw [List.drop_of_length_le (Nat.le_refl _)] at hp hq
    by_cases hb : a.length < b.length
    · refine GoalL.allRet (s := SCmp a b a.length) known mixed hS _ (cmp_short a b _ (by omega)) fun T H g => ?_
      rw [drop_at hb] at hp
      rw [show cmpI a b = -1 by unfold cmpI; rw [hp]; rfl]
      exact g
    · refine GoalL.allRet (s := SCmp a b a.length) known mixed hS _ (cmp_same a b _ (by omega)) fun T H g => ?_
      rw [List.drop_of_length_le (show b.length ≤ a.length by omega)] at hp hq
      rw [show cmpI a b = 0 by unfold cmpI; rw [hp, hq]; rfl]
      exact g
theorem cCmp_ok : cCmp.Ok Tryz.prog := fun ⟨a, b, _⟩ h => cmp_holds a b (of_decide_eq_true h)
end
end Go.Proofs.YtbldpojkpmafpaaGreatDoor

/- Package bus and its reference: small functions as contracts: CheckNets, Length, the place of a number in a list, lists compared. -/
namespace Go.Proofs.YtbldpojkpmafpaaGreatDoor
open Go.RowKit Sv
set_option maxRecDepth 100000
set_option linter.unusedVariables false
noncomputable section
noncomputable def cIdx : Ctr := { f := 61, ps := [.list false (.int .i64), .int .i64], rs := [.int .i64], fresh := true, pre := fun d => decide (List.length (α := Int) d.1 ≤ 1000000), fn := fun d => (Lib.idxOf d.1 d.2.1, ()) }
theorem cIdx_ok : cIdx.Ok Tryz.prog := fun ⟨l, x, _⟩ h => holds_raw fun w F xs hF hd => by
  have hl := of_decide_eq_true h
  cases hd with
  | cons d1 d2 =>
    cases d2 with
    | cons d2 d3 =>
      cases d3
      obtain ⟨A, c, rfl, hc, hR⟩ := den_ints hF d1
      rw [d2.raw_eq]
      exact (index_any A c w.heap.size l x w hR hl).mono fun e w' ⟨h1, h2⟩ => ⟨h1, by subst h2; exact Below.refl _ _⟩
end
end Go.Proofs.YtbldpojkpmafpaaGreatDoor

/- Package bus: the number of a net's track among the tracks that are used. -/
namespace Go.Proofs.YtbldpojkpmafpaaGreatDoor
open Go.RowKit

set_option maxRecDepth 100000 in
set_option maxHeartbeats 2000000 in
theorem number_any (ub lb B B2 : Nat) (U A3 : Option Addr) (cu c3 : Nat) (o : Value) (us ts : List Int) (w : World) (d6 : Blk w ub 24 #[.slice U us.length cu]) (d3 : Blk w lb 29 #[o, .slice A3 ts.length c3])
    (hU : Row w B U (ic us)) (ht : Row w B2 A3 (ic ts)) (net : Nat) (hn : net < ts.length) (hul : us.length ≤ 1000000) :
    Calls Tryz.prog 98 #[.int .i64 (net : Int), .pointer (some ⟨ub, 0, none⟩), .pointer (some ⟨lb, 0, none⟩)] w fun e w' => e = .returned (.int .i64 (Lib.idxOf us (ts.getD net 0))) ∧ ∃ m, w' = w.drewN m := by
  obtain ⟨b, off, x, rfl, hbB, hx, hc⟩ := ht.int net hn
  have e : ts.getD net 0 = x := by rw [List.getD_eq_getElem?_getD, hx]; rfl
  rw [e]
  have HI := Lib.hid (fun k => index_any U cu B us x (w.drewN k) (hU.drewN k) hul)
  have x6 := d6.cell 0
  have x3 := d3.cell 1
  have hnn : (net : Int) < (ts.length : Int) := by omega
  clear hU ht hx e d6 d3
  go_enter Tryz.func98, Tryz.ntmps98
  go_wp2_with fail
  go_quiet ((go_at_call 61; exact (HI.out _).mono fun e w' ⟨h1, h2⟩ => ⟨h1, _, h2⟩))
  go_wp2_with fail
  go_ret
  exact ⟨rfl, _, rfl⟩
end Go.Proofs.YtbldpojkpmafpaaGreatDoor

/- Package bus, plain: columns under other numbers leave the extents and the crossings as they were. -/
namespace Go.Proofs.YtbldpojkpmafpaaGreatDoor
open Go.RowKit Sv
set_option linter.unusedVariables false
def isum : List Int → Int
  | [] => 0
  | x :: r => x + isum r
theorem isum_app : ∀ (a b : List Int), isum (a ++ b) = isum a + isum b
  | [], b => by simp [isum]
  | x :: r, b => by
    show x + isum (r ++ b) = x + isum r + isum b
    rw [isum_app r b]; omega
theorem isum_perm {a b : List Int} (h : a.Perm b) : isum a = isum b := by
  induction h with
  | nil => rfl
  | cons x _ ih => show x + _ = x + _; rw [ih]
  | swap x y l => show y + (x + isum l) = x + (y + isum l); omega
  | trans _ _ h1 h2 => exact h1.trans h2

def nameOf (names : List Int) (x : Int) : Int := names.getD x.toNat 0
section
variable {nets : List (Int × List Int)} {n : Int} {order names : List Int}
theorem name_in (hN : Bus.orderErr names n = 0) {x : Int} (hx : 0 ≤ x ∧ x < n) : 0 ≤ nameOf names x ∧ nameOf names x < n := by
  obtain ⟨h1, h2, h3⟩ := Bus.orderErr_zero hN
  unfold nameOf
  rw [getD_lt (by omega)]
  exact h3 _ (List.getElem_mem _)
theorem name_inj (hN : Bus.orderErr names n = 0) {x y : Int} (hx : 0 ≤ x ∧ x < n) (hy : 0 ≤ y ∧ y < n) (h : nameOf names x = nameOf names y) : x = y := by
  obtain ⟨h1, h2, h3⟩ := Bus.orderErr_zero hN
  unfold nameOf at h
  rw [getD_lt (by omega), getD_lt (by omega)] at h
  have := (List.getElem_inj h2).1 h
  omega
def renOrd (names order : List Int) : List Int := order.map (nameOf names)
theorem ren_at (hO : Bus.orderErr order n = 0) (hN : Bus.orderErr names n = 0) {c : Int} (hc : 0 ≤ c ∧ c < n) : ∀ k, k ≤ order.length → Bus.atUp (renOrd names order) k (nameOf names c).toNat = Bus.atUp order k c.toNat
  | 0, _ => rfl
  | k + 1, hk => by
    obtain ⟨o1, o2, o3⟩ := Bus.orderErr_zero hO
    have ih := ren_at hO hN hc k (by omega)
    have hk' : k < order.length := by omega
    have hm := o3 _ (List.getElem_mem hk')
    have hn := name_in hN hc
    have e1 : (renOrd names order).getD k (-1) = nameOf names order[k] := by
      unfold renOrd
      simp [List.getD_eq_getElem?_getD, hk']
    have e2 : order.getD k (-1) = order[k] := by simp [List.getD_eq_getElem?_getD, hk']
    unfold Bus.atUp
    rw [ih, e1, e2]
    by_cases h : c = order[k]
    · rw [if_pos (by rw [← h]; omega), if_pos (by omega)]
    · rw [if_neg (fun e => h (name_inj hN hc hm (by omega))), if_neg (by omega)]
theorem run_free (f : Nat → Int) (most : Int) (L : Nat) (hf : ∀ x, 0 ≤ f x ∧ f x ≤ L) : ∀ (pre : List Nat) (s0 : Int), 0 ≤ s0 → s0 + (pre.length * L : Nat) ≤ most → crossRun f most s0 pre = (s0 + isum (pre.map f), false)
  | [], s0, _, _ => by simp [crossRun, isum]
  | x :: r, s0, h0, h => by
    have h1 := hf x
    have e : ((x :: r).length * L : Nat) = r.length * L + L := by rw [List.length_cons, Nat.add_mul, Nat.one_mul]
    rw [e] at h
    unfold crossRun
    rw [if_neg (by omega), run_free f most L hf r (s0 + f x) (by omega) (by omega)]
    show (s0 + f x + isum (r.map f), false) = (s0 + (f x + isum (r.map f)), false)
    rw [Int.add_assoc]
theorem range_getD (taps : List (Nat × Int)) (h : Nat × Int → Int) : (List.range taps.length).map (fun x => h (taps.getD x (0, 0))) = taps.map h := by
  apply List.ext_getElem
  · simp
  · intro i h1 h2
    have hi : i < taps.length := by simpa using h1
    simp [List.getD_eq_getElem?_getD, hi]
def crossSum (xs : List (Int × Int)) (ts : List Int) (taps : List (Nat × Int)) : Int := isum (taps.map fun t => crossUp xs ts t.1 t.2 xs.length)
theorem cross_sum (hE : Bus.bothErr nets n order = 0) (ts : List Int) : crossOf nets order ts 1099511627776 = crossSum (extsOf nets order) ts (tapFrom (Bus.atUp order order.length) 0 (nets.map Prod.snd)) := by
  obtain ⟨e1, e2⟩ := both_iff.1 hE
  obtain ⟨n1, n97, l64, _⟩ := Bus.netsErr_zero e1
  have hT := taps_few (l := mkNets nets) (n := n) (by rw [mkNets_net]; exact e1) (Bus.atUp order order.length)
  have e : (mkNets nets).map NetAt.cols = nets.map Prod.snd := by
    have : (mkNets nets).map NetAt.cols = ((mkNets nets).map NetAt.net).map Prod.snd := by rw [List.map_map]; rfl
    rw [this, mkNets_net]
  rw [e] at hT
  have hxl := extsOf_len nets order
  unfold crossOf
  have hf : ∀ x, 0 ≤ tapF (extsOf nets order) ts (tapFrom (Bus.atUp order order.length) 0 (nets.map Prod.snd)) x ∧ tapF (extsOf nets order) ts (tapFrom (Bus.atUp order order.length) 0 (nets.map Prod.snd)) x ≤ (64 : Nat) := fun x => by
    unfold tapF
    have := crossUp_lo (extsOf nets order) ts ((tapFrom (Bus.atUp order order.length) 0 (nets.map Prod.snd)).getD x (0, 0)).1 ((tapFrom (Bus.atUp order order.length) 0 (nets.map Prod.snd)).getD x (0, 0)).2 (extsOf nets order).length
    omega
  have hb : (List.range (tapFrom (Bus.atUp order order.length) 0 (nets.map Prod.snd)).length).length * 64 ≤ 6208 * 64 := Nat.mul_le_mul_right _ (by rw [List.length_range]; exact hT)
  have hr := run_free _ 1099511627776 64 hf (List.range (tapFrom (Bus.atUp order order.length) 0 (nets.map Prod.snd)).length) 0 (Int.le_refl _) (by omega)
  have hr2 := congrArg Prod.fst hr
  refine hr2.trans ?_
  show 0 + isum _ = crossSum _ _ _
  rw [Int.zero_add]
  unfold crossSum
  rw [← range_getD]
  rfl
end
end Go.Proofs.YtbldpojkpmafpaaGreatDoor

/- Package bus and its reference, plain: the crossings, the table of the tracks, the bound. -/
namespace Go.Proofs.YtbldpojkpmafpaaGreatDoor
open Go.RowKit Sv
set_option linter.unusedVariables false
def sm (f : Nat → Int) : Nat → Int
  | 0 => 0
  | k + 1 => sm f k + f k
theorem sm_congr {f g : Nat → Int} : ∀ {n : Nat}, (∀ k, k < n → f k = g k) → sm f n = sm g n
  | 0, _ => rfl
  | n + 1, h => by rw [sm, sm, sm_congr fun k hk => h k (by omega), h n (by omega)]
theorem sm_add (f g : Nat → Int) : ∀ n, sm (fun k => f k + g k) n = sm f n + sm g n
  | 0 => rfl
  | n + 1 => by rw [sm, sm, sm, sm_add f g n]; omega
theorem sm_zero : ∀ n, sm (fun _ => 0) n = 0
  | 0 => rfl
  | n + 1 => by rw [sm, sm_zero n]; rfl
theorem sm_swap (f : Nat → Nat → Int) (m : Nat) : ∀ n, sm (fun i => sm (f i) m) n = sm (fun j => sm (fun i => f i j) n) m
  | 0 => by
    show (0 : Int) = sm (fun _ => 0) m
    rw [sm_zero]
  | n + 1 => by
    rw [sm, sm_swap f m n, ← sm_add]; rfl
theorem sm_cons (f : Nat → Int) : ∀ n, sm f (n + 1) = f 0 + sm (fun k => f (k + 1)) n
  | 0 => by simp [sm]
  | n + 1 => by rw [sm, sm_cons f n, sm]; omega
theorem sm_ite (p : Prop) [Decidable p] (f : Nat → Int) (n : Nat) : sm (fun k => if p then f k else 0) n = if p then sm f n else 0 := by
  by_cases h : p
  · simp only [if_pos h]
  · simp only [if_neg h, sm_zero]
theorem sm_bd {f : Nat → Int} {L : Int} : ∀ {n : Nat}, (∀ k, k < n → 0 ≤ f k ∧ f k ≤ L) → 0 ≤ sm f n ∧ sm f n ≤ n * L
  | 0, _ => by simp [sm]
  | n + 1, h => by
    obtain ⟨h1, h2⟩ := sm_bd (n := n) fun k hk => h k (by omega)
    obtain ⟨h3, h4⟩ := h n (by omega)
    have e : ((n + 1 : Nat) : Int) * L = n * L + L := by rw [Int.natCast_add, Int.add_mul]; simp
    rw [sm, e]; omega
theorem isum_sm (g : Int → Int) : ∀ l : List Int, isum (l.map g) = sm (fun k => g (l.getD k 0)) l.length
  | [] => rfl
  | x :: r => by
    show g x + isum (r.map g) = _
    rw [List.length_cons, sm_cons, isum_sm g r]; simp
theorem tap_sm (h : Nat × Int → Int) (F : Nat → Int) : ∀ (ls : List (List Int)) (i : Nat), isum ((tapFrom F i ls).map h) = sm (fun j => sm (fun c => h (i + j, F ((ls.getD j []).getD c 0).toNat)) (ls.getD j []).length) ls.length
  | [], i => rfl
  | c :: r, i => by
    show isum ((c.map (fun x => (i, F x.toNat)) ++ tapFrom F (i + 1) r).map h) = _
    rw [List.map_append, isum_app, List.map_map, tap_sm h F r (i + 1), List.length_cons, sm_cons]
    have e := isum_sm (h ∘ fun x => (i, F x.toNat)) c
    rw [e]
    congr 1
    refine sm_congr fun j _ => ?_
    have : i + 1 + j = i + (j + 1) := by omega
    rw [this]; simp
theorem taps_sm (h : Nat × Int → Int) (taps : List (Nat × Int)) : sm (fun x => h (taps.getD x (0, 0))) taps.length = isum (taps.map h) := by
  induction taps with
  | nil => rfl
  | cons t r ih =>
    rw [List.length_cons, sm_cons]
    show h t + _ = h t + isum (r.map h)
    rw [← ih]; simp
theorem pick_isum (f : Int → Int) (t : Int) : ∀ u : List Int, u.Nodup → isum (u.map fun x => if t = x then f x else 0) = if t ∈ u then f t else 0
  | [], _ => by simp [isum]
  | x :: r, h => by
    obtain ⟨h1, h2⟩ := List.nodup_cons.1 h
    have ih := pick_isum f t r h2
    show (if t = x then f x else 0) + isum (r.map _) = _
    rw [ih]
    by_cases e : t = x
    · subst e
      rw [if_pos rfl, if_neg h1, if_pos List.mem_cons_self]; omega
    · rw [if_neg e]
      by_cases hm : t ∈ r
      · rw [if_pos hm, if_pos (List.mem_cons_of_mem _ hm)]; omega
      · rw [if_neg hm, if_neg (by intro hh; rcases List.mem_cons.1 hh with hh | hh; exact e hh; exact hm hh)]; rfl
theorem pick_sm (f : Int → Int) (t : Int) (u : List Int) (hu : u.Nodup) (ht : t ∈ u) : sm (fun i => if t = u.getD i 0 then f (u.getD i 0) else 0) u.length = f t := by
  have := pick_isum f t u hu
  rw [if_pos ht, isum_sm] at this
  exact this

abbrev mn (x y : Int) : Int := if y < x then y else x
def ovR (nets : List (Int × List Int)) (order ts : List Int) (tr p : Int) (i : Nat) : Int := sm (fun k => if ts.getD k 0 = tr ∧ covR (refExt order (nets.getD k (0, [])).2) p = true then 1 else 0) i
def tapR (nets : List (Int × List Int)) (order ts : List Int) (below : Int) (j c : Nat) : Int := sm (fun c => ovR nets order ts below (Bus.pos order ((nets.getD j (0, [])).2.getD c 0)) nets.length) c
def undR (nets : List (Int × List Int)) (order ts : List Int) (below above : Int) (i : Nat) : Int := sm (fun j => if ts.getD j 0 = above then tapR nets order ts below j (nets.getD j (0, [])).2.length else 0) i
def crsRow (nets : List (Int × List Int)) (order ts u : List Int) (i k : Nat) : Int := sm (fun k => undR nets order ts (u.getD k 0) (u.getD i 0) nets.length) k
def crsR (nets : List (Int × List Int)) (order ts u : List Int) (i : Nat) : Int := sm (fun i => crsRow nets order ts u i i) i
def bndRow (nets : List (Int × List Int)) (order ts u : List Int) (i k : Nat) : Int := sm (fun k => mn (undR nets order ts (u.getD k 0) (u.getD i 0) nets.length) (undR nets order ts (u.getD i 0) (u.getD k 0) nets.length)) k
def bndR (nets : List (Int × List Int)) (order ts u : List Int) (i : Nat) : Int := sm (fun i => bndRow nets order ts u i i) i
theorem asc_nodup {u : List Int} (h : u.Pairwise (· < ·)) : u.Nodup := by
  unfold List.Nodup
  exact h.imp fun h e => by omega
theorem asc_lt {u : List Int} (h : u.Pairwise (· < ·)) {i k : Nat} (hi : i < u.length) (hk : k < u.length) : u.getD k 0 < u.getD i 0 ↔ k < i := by
  have key : ∀ {a b : Nat}, a < u.length → b < u.length → a < b → u.getD a 0 < u.getD b 0 := fun {a b} ha hb hab => by
    have := List.pairwise_iff_getElem.1 h a b ha hb hab
    simpa [List.getD_eq_getElem?_getD, ha, hb] using this
  constructor
  · intro hlt
    by_cases e : k < i
    · exact e
    · rcases Nat.lt_or_ge i k with g | g
      · have := key hi hk g; omega
      · obtain rfl : k = i := by omega
        omega
  · exact key hk hi
theorem sm_below (f : Nat → Int) (i : Nat) : ∀ m, i ≤ m → sm (fun k => if k < i then f k else 0) m = sm f i
  | 0, h => by obtain rfl : i = 0 := by omega
               rfl
  | m + 1, h => by
    rw [sm]
    by_cases e : i = m + 1
    · subst e
      rw [if_pos (by omega), sm]
      congr 1
      exact sm_congr fun k hk => by rw [if_pos (by omega)]
    · rw [sm_below f i m (by omega), if_neg (by omega)]; omega
theorem pairs_sm {u : List Int} (h : u.Pairwise (· < ·)) (g : Int → Int → Int) : sm (fun i => sm (fun k => g (u.getD k 0) (u.getD i 0)) i) u.length = sm (fun i => sm (fun k => if u.getD k 0 < u.getD i 0 then g (u.getD k 0) (u.getD i 0) else 0) u.length) u.length :=
  sm_congr fun i hi => by
    rw [← sm_below (fun k => g (u.getD k 0) (u.getD i 0)) i u.length (by omega)]
    refine sm_congr fun k hk => ?_
    have := asc_lt h hi hk
    by_cases e : k < i
    · rw [if_pos e, if_pos (this.2 e)]
    · rw [if_neg e, if_neg fun hh => e (this.1 hh)]
theorem pick_cond (a b : Prop) [Decidable a] [Decidable b] (x : Int) : (if a then (if b then x else 0) else 0) = if b then (if a then x else 0) else 0 := by
  by_cases ha : a <;> by_cases hb : b <;> simp [ha, hb]
theorem ite_swap3 (a b c : Prop) [Decidable a] [Decidable b] [Decidable c] : (if a then (if b ∧ c then (1 : Int) else 0) else 0) = if b then (if a ∧ c then 1 else 0) else 0 := by
  by_cases ha : a <;> by_cases hb : b <;> simp [ha, hb]
theorem hit_ite {x y a b : Int} {c : Prop} [Decidable c] (hab : a ≠ b) : (if x = a ∧ y = b ∧ x ≠ y ∧ c then (1 : Int) else 0) = if y = b then (if x = a ∧ c then 1 else 0) else 0 := by
  by_cases h1 : y = b
  · subst h1
    by_cases h2 : x = a
    · subst h2; simp [hab]
    · simp [h2]
  · simp [h1]
theorem below_pick {u ts : List Int} (hu : u.Nodup) {n : Nat} (hm : ∀ k, k < n → ts.getD k 0 ∈ u) (t : Int) (q : Nat → Bool) :
    sm (fun k => if u.getD k 0 < t then sm (fun j => if ts.getD j 0 = u.getD k 0 ∧ q j = true then 1 else 0) n else 0) u.length = sm (fun j => if ts.getD j 0 < t ∧ q j = true then 1 else 0) n := by
  have e1 : sm (fun k => if u.getD k 0 < t then sm (fun j => if ts.getD j 0 = u.getD k 0 ∧ q j = true then 1 else 0) n else 0) u.length = sm (fun k => sm (fun j => if ts.getD j 0 = u.getD k 0 then (if u.getD k 0 < t ∧ q j = true then 1 else 0) else 0) n) u.length :=
    sm_congr fun k _ => by
      rw [← sm_ite]
      refine sm_congr fun j _ => ?_
      exact ite_swap3 _ _ _
  rw [e1, sm_swap]
  refine sm_congr fun j hj => ?_
  exact pick_sm (fun x => if x < t ∧ q j = true then 1 else 0) (ts.getD j 0) u hu (hm j hj)
theorem crs_eq (nets : List (Int × List Int)) (order ts u : List Int) (hu : u.Pairwise (· < ·)) (hm : ∀ k, k < nets.length → ts.getD k 0 ∈ u) :
    crsR nets order ts u u.length = sm (fun j => sm (fun c => sm (fun k => if ts.getD k 0 < ts.getD j 0 ∧ covR (refExt order (nets.getD k (0, [])).2) (Bus.pos order ((nets.getD j (0, [])).2.getD c 0)) = true then 1 else 0) nets.length) (nets.getD j (0, [])).2.length) nets.length := by
  have h1 : crsR nets order ts u u.length = sm (fun i => sm (fun k => if u.getD k 0 < u.getD i 0 then undR nets order ts (u.getD k 0) (u.getD i 0) nets.length else 0) u.length) u.length := pairs_sm hu fun b a => undR nets order ts b a nets.length
  have h2 : ∀ i, sm (fun k => if u.getD k 0 < u.getD i 0 then undR nets order ts (u.getD k 0) (u.getD i 0) nets.length else 0) u.length =
      sm (fun j => if ts.getD j 0 = u.getD i 0 then sm (fun k => if u.getD k 0 < u.getD i 0 then tapR nets order ts (u.getD k 0) j (nets.getD j (0, [])).2.length else 0) u.length else 0) nets.length := fun i => by
    have e : ∀ k, (if u.getD k 0 < u.getD i 0 then undR nets order ts (u.getD k 0) (u.getD i 0) nets.length else 0) = sm (fun j => if ts.getD j 0 = u.getD i 0 then (if u.getD k 0 < u.getD i 0 then tapR nets order ts (u.getD k 0) j (nets.getD j (0, [])).2.length else 0) else 0) nets.length := fun k => by
      unfold undR
      rw [← sm_ite]
      exact sm_congr fun j _ => pick_cond _ _ _
    rw [sm_congr fun k _ => e k, sm_swap]
    exact sm_congr fun j _ => sm_ite _ _ _
  rw [h1, sm_congr fun i _ => h2 i, sm_swap]
  refine sm_congr fun j hj => ?_
  rw [pick_sm (fun t => sm (fun k => if u.getD k 0 < t then tapR nets order ts (u.getD k 0) j (nets.getD j (0, [])).2.length else 0) u.length) (ts.getD j 0) u (asc_nodup hu) (hm j hj)]
  have h3 : ∀ k, (if u.getD k 0 < ts.getD j 0 then tapR nets order ts (u.getD k 0) j (nets.getD j (0, [])).2.length else 0) = sm (fun c => if u.getD k 0 < ts.getD j 0 then ovR nets order ts (u.getD k 0) (Bus.pos order ((nets.getD j (0, [])).2.getD c 0)) nets.length else 0) (nets.getD j (0, [])).2.length := fun k => by
    unfold tapR
    rw [sm_ite]
  rw [sm_congr fun k _ => h3 k, sm_swap]
  exact sm_congr fun c _ => below_pick (asc_nodup hu) hm (ts.getD j 0) fun k => covR (refExt order (nets.getD k (0, [])).2) (Bus.pos order ((nets.getD j (0, [])).2.getD c 0))

def hitI (xs : List (Int × Int)) (ts : List Int) (t : Nat × Int) (a b : Int) (k : Nat) : Int := if ts.getD k 0 = a ∧ ts.getD t.1 0 = b ∧ ts.getD k 0 ≠ ts.getD t.1 0 ∧ covB xs k t.2 = true then 1 else 0
def tapI (xs : List (Int × Int)) (ts : List Int) (t : Nat × Int) (a b : Int) (k : Nat) : Int := sm (hitI xs ts t a b) k
def tabI (xs : List (Int × Int)) (ts : List Int) (taps : List (Nat × Int)) (a b : Int) : Int := isum (taps.map fun t => tapI xs ts t a b xs.length)
theorem tap_bd (xs : List (Int × Int)) (ts : List Int) (t : Nat × Int) (a b : Int) (k : Nat) : 0 ≤ tapI xs ts t a b k ∧ tapI xs ts t a b k ≤ k := by
  have := sm_bd (f := hitI xs ts t a b) (L := 1) (n := k) fun j _ => by unfold hitI; split <;> omega
  unfold tapI; omega
theorem isum_bd {α : Type} (f : α → Int) (L : Nat) (h : ∀ x, 0 ≤ f x ∧ f x ≤ L) : ∀ l : List α, 0 ≤ isum (l.map f) ∧ isum (l.map f) ≤ (l.length * L : Nat)
  | [] => by simp [isum]
  | x :: r => by
    have h1 := isum_bd f L h r
    have h2 := h x
    have e : ((x :: r).length * L : Nat) = r.length * L + L := by rw [List.length_cons, Nat.add_mul, Nat.one_mul]
    rw [e]
    show 0 ≤ f x + isum (r.map f) ∧ f x + isum (r.map f) ≤ _
    omega
theorem cross_up_sm (xs : List (Int × Int)) (ts : List Int) (i : Nat) (p : Int) : ∀ k, crossUp xs ts i p k = sm (fun k => if ts.getD k 0 < ts.getD i 0 ∧ covB xs k p = true then 1 else 0) k
  | 0 => rfl
  | k + 1 => by
    rw [crossUp, cross_up_sm xs ts i p k, sm]
    congr 1
    by_cases b : covB xs k p = true
    · rw [b, Bool.and_true]; simp
    · have b : covB xs k p = false := by simpa using b
      rw [b, Bool.and_false]; simp
theorem cols_at (nets : List (Int × List Int)) (j : Nat) : (nets.map Prod.snd).getD j [] = (nets.getD j (0, [])).2 := by
  simp only [List.getD_eq_getElem?_getD, List.getElem?_map]
  cases nets[j]? <;> rfl
theorem cov_at {nets : List (Int × List Int)} {n : Int} {order : List Int} (hE : Bus.bothErr nets n order = 0) {k : Nat} (hk : k < nets.length) (p : Int) : covB (extsOf nets order) k p = covR (refExt order (nets.getD k (0, [])).2) p := by
  unfold covB covR
  rw [(ext_at hE k hk).1]
theorem pos_at {nets : List (Int × List Int)} {n : Int} {order : List Int} (hE : Bus.bothErr nets n order = 0) {j c : Nat} (hj : j < nets.length) (hc : c < (nets.getD j (0, [])).2.length) :
    Bus.atUp order order.length ((nets.getD j (0, [])).2.getD c 0).toNat = Bus.pos order ((nets.getD j (0, [])).2.getD c 0) := by
  obtain ⟨e1, e2⟩ := both_iff.1 hE
  obtain ⟨n1, n97, l64, hcols⟩ := Bus.netsErr_zero e1
  obtain ⟨on, ond, oin⟩ := Bus.orderErr_zero e2
  have hm : (nets.getD j (0, [])).2.getD c 0 ∈ (nets.getD j (0, [])).2 := by
    rw [getD_lt hc]; exact List.getElem_mem _
  have h0 := (hcols _ (getN_mem hj)).2 _ hm
  generalize (nets.getD j (0, [])).2.getD c 0 = x at *
  obtain ⟨X, rfl⟩ : ∃ X : Nat, x = (X : Int) := ⟨x.toNat, by omega⟩
  rw [Int.toNat_natCast]
  exact atUp_pos order ond X (has_all order.length order ond rfl (fun d hd => by have := oin d hd; omega) _ h0.1 (by omega))
theorem crs_same {nets : List (Int × List Int)} {n : Int} {order ts u : List Int} (hE : Bus.bothErr nets n order = 0) (hu : u.Pairwise (· < ·)) (hm : ∀ k, k < nets.length → ts.getD k 0 ∈ u) :
    crossOf nets order ts 1099511627776 = crsR nets order ts u u.length := by
  rw [cross_sum hE, crs_eq nets order ts u hu hm]
  unfold crossSum
  rw [tap_sm, List.length_map]
  refine sm_congr fun j hj => ?_
  rw [cols_at]
  refine sm_congr fun c hc => ?_
  rw [cross_up_sm, extsOf_len, Nat.zero_add]
  refine sm_congr fun k hk => ?_
  simp only [cov_at hE hk, pos_at hE hj hc]
theorem tab_und {nets : List (Int × List Int)} {n : Int} {order : List Int} (hE : Bus.bothErr nets n order = 0) (ts : List Int) {a b : Int} (hab : a ≠ b) :
    tabI (extsOf nets order) ts (tapFrom (Bus.atUp order order.length) 0 (nets.map Prod.snd)) a b = undR nets order ts a b nets.length := by
  unfold tabI
  rw [tap_sm, List.length_map]
  unfold undR
  refine sm_congr fun j hj => ?_
  rw [cols_at]
  unfold tapR
  rw [← sm_ite]
  refine sm_congr fun c hc => ?_
  unfold tapI ovR
  rw [extsOf_len, Nat.zero_add, ← sm_ite]
  refine sm_congr fun k hk => ?_
  unfold hitI
  simp only [cov_at hE hk, pos_at hE hj hc]
  exact hit_ite hab
theorem compact_asc {d : Array Int} (hd : ∀ i j, i ≤ j → j < d.size → d[i]! ≤ d[j]!) : ∀ m, m ≤ d.size → (Lib.compactUpTo d m).Pairwise (· < ·) ∧ ∀ x, x ∈ Lib.compactUpTo d m ↔ ∃ j, j < m ∧ d[j]! = x
  | 0, _ => by
    refine ⟨by simp [Lib.compactUpTo], fun x => ?_⟩
    simp [Lib.compactUpTo]
  | m + 1, hm => by
    obtain ⟨h1, h2⟩ := compact_asc hd m (by omega)
    rw [Lib.compactUpTo_succ]
    by_cases hk : Lib.keeps d m = true
    · rw [if_pos hk]
      have hk' : m = 0 ∨ d[m]! ≠ d[m - 1]! := by unfold Lib.keeps at hk; exact of_decide_eq_true hk
      refine ⟨?_, fun x => ?_⟩
      · rw [List.pairwise_append]
        refine ⟨h1, List.pairwise_singleton _ _, fun x hx y hy => ?_⟩
        rw [List.mem_singleton] at hy; subst hy
        obtain ⟨j, hj, rfl⟩ := (h2 x).1 hx
        have e1 := hd j (m - 1) (by omega) (by omega)
        have e2 := hd (m - 1) m (by omega) (by omega)
        have := hk'.resolve_left (by omega)
        omega
      · rw [List.mem_append, h2, List.mem_singleton]
        constructor
        · rintro (⟨j, hj, e⟩ | e)
          · exact ⟨j, by omega, e⟩
          · exact ⟨m, by omega, e.symm⟩
        · rintro ⟨j, hj, e⟩
          by_cases hjm : j = m
          · subst hjm; exact .inr e.symm
          · exact .inl ⟨j, by omega, e⟩
    · rw [if_neg hk, List.append_nil]
      have hk' : ¬ (m = 0 ∨ d[m]! ≠ d[m - 1]!) := by unfold Lib.keeps at hk; simpa using hk
      refine ⟨h1, fun x => ?_⟩
      rw [h2]
      constructor
      · rintro ⟨j, hj, e⟩; exact ⟨j, by omega, e⟩
      · rintro ⟨j, hj, e⟩
        by_cases hjm : j = m
        · subst hjm
          refine ⟨j - 1, by omega, ?_⟩
          have : ¬ d[j]! ≠ d[j - 1]! := fun h => hk' (.inr h)
          rw [← Classical.not_not.1 this]; exact e
        · exact ⟨j, by omega, e⟩
abbrev trkU (ts : List Int) : List Int := Lib.compact (ts.mergeSort fun x y => decide (x ≤ y))
theorem trkU_ok (ts : List Int) : (trkU ts).Pairwise (· < ·) ∧ ∀ x, x ∈ trkU ts ↔ x ∈ ts := by
  have hs : (ts.mergeSort fun x y => decide (x ≤ y)).Pairwise (fun x y => decide (x ≤ y) = true) := List.pairwise_mergeSort (fun a b c h1 h2 => by rw [decide_eq_true_eq] at *; omega) (fun a b => by rw [Bool.or_eq_true, decide_eq_true_eq, decide_eq_true_eq]; omega) ts
  obtain ⟨l, hl⟩ : ∃ l, (ts.mergeSort fun x y => decide (x ≤ y)) = l := ⟨_, rfl⟩
  have hmem : ∀ x, x ∈ l ↔ x ∈ ts := fun x => by rw [← hl]; exact List.mem_mergeSort
  show (Lib.compact (ts.mergeSort fun x y => decide (x ≤ y))).Pairwise (· < ·) ∧ ∀ x, x ∈ Lib.compact (ts.mergeSort fun x y => decide (x ≤ y)) ↔ x ∈ ts
  rw [hl] at hs ⊢
  have hd : ∀ i j, i ≤ j → j < l.toArray.size → l.toArray[i]! ≤ l.toArray[j]! := fun i j hij hj => by
    have hj : j < l.length := by simpa using hj
    have hi : i < l.length := by omega
    simp only [List.getElem!_toArray, getElem!_pos, hi, hj]
    by_cases e : i = j
    · subst e; exact Int.le_refl _
    · have := List.pairwise_iff_getElem.1 hs i j hi hj (by omega)
      simpa using this
  obtain ⟨h1, h2⟩ := compact_asc hd l.length (by simp)
  refine ⟨h1, fun x => ?_⟩
  show x ∈ Lib.compactUpTo l.toArray l.length ↔ _
  rw [h2, ← hmem, List.mem_iff_getElem]
  constructor
  · rintro ⟨j, hj, e⟩
    exact ⟨j, hj, by simpa [hj] using e⟩
  · rintro ⟨j, hj, e⟩
    exact ⟨j, hj, by simpa [hj] using e⟩
end Go.Proofs.YtbldpojkpmafpaaGreatDoor
