/- The runner: a row of the run's own that is never written again is taken as plain data. -/
import Derived.Test.YtkjjnnbbicoljaaGreatDoorSvUse
namespace Go.Proofs.YtkjjnnbbicoljaaGreatDoor
open Go.RowKit Sv
section
variable {P : Program} {w0 : World} {F : Env} {n : Nat} {T : Tr AV} {H : AHeap} {a : Act} {w : World} {B : Nat} {ρ ρ' : Env}
theorem dens_set {cs : List AV} {ys : List Value} {m : Nat} {v v' : AV} (hl : Le ρ ρ') (h : Dens ρ cs ys) (hm : cs[m]? = some v) (hv : ∀ y, Den ρ v y → Den ρ' v' y) : Dens ρ' (cs.set m v') ys := by
  refine Dens.of_get (by rw [List.length_set]; exact h.length) fun i u y hi hy => ?_
  by_cases him : m = i
  · subst him
    have hlt : m < cs.length := (List.getElem?_eq_some_iff.1 hm).1
    rw [List.getElem?_set_self hlt] at hi
    cases hi
    obtain ⟨y', h1, h2⟩ := h.get hm
    rw [hy] at h1
    cases h1
    exact hv y h2
  · rw [List.getElem?_set_ne him] at hi
    obtain ⟨y', h1, h2⟩ := h.get hi
    rw [hy] at h1
    cases h1
    exact h2.mono hl
theorem get_swap (H : AHeap) (i j k : Nat) (b : ABlk) : ((H.drop i).set j b).get k = if j = k then some b else if i = k then none else H.get k := by
  rw [AHeap.get_set, AHeap.get_drop]
theorem hden_swap {i j m : Nat} {e : TypeId} {cs : List AV} {x f r : Bool} {v v' : AV} (hH : HDen P B ρ H w) (hl : Le ρ ρ') (ha : ∀ i, ρ' i = ρ i) (hj : H.get j = some (.cells e cs x f r)) (hij : i ≠ j) (hm : cs[m]? = some v) (hv : ∀ y, Den ρ v y → Den ρ' v' y)
    (hfz : ∀ b A, ρ'.fz b = some A → (∃ e fr, w.heap[b]? = some (.cells A e fr)) ∧ ∀ k kk c, k ≠ i → H.get k = some kk → ρ k = some (b, c) → kk.isRo = true) :
    HDen P B ρ' ((H.drop i).set j (.cells e (cs.set m v') x f r)) w := by
  have key : ∀ k kk, ((H.drop i).set j (.cells e (cs.set m v') x f r)).get k = some kk → k ≠ i ∧ ∃ k0, H.get k = some k0 ∧ k0.isRo = kk.isRo ∧ ∀ o, BDen P ρ k k0 o → BDen P ρ' k kk o := fun k kk h => by
    rw [get_swap] at h
    split at h
    · rename_i hjk
      subst hjk
      cases h
      refine ⟨fun h => hij h.symm, _, hj, rfl, fun o ho => ?_⟩
      obtain ⟨zs, fz, h1, h2, h3, h4, h5⟩ := ho
      refine ⟨zs, fz, h1, h2, ?_, by rw [List.length_set]; exact h4, fun hx => ?_⟩
      · rw [List.length_set]
        exact dens_set hl h3 hm hv
      · obtain ⟨b, c, g1, g2⟩ := h5 hx
        exact ⟨b, c, by rw [ha]; exact g1, g2⟩
    · split at h
      · cases h
      · rename_i h1 h2
        exact ⟨fun h => h2 h.symm, _, h, rfl, fun o ho => ho.mono hl⟩
  refine ⟨fun k kk h => ?_, fun i1 i2 k1 k2 b c1 c2 g1 g2 g3 g4 => ?_, fun k kk h => ?_, hH.base, fun b A h => ⟨(hfz b A h).1, fun k kk c g1 g2 => ?_⟩⟩
  · obtain ⟨_, k0, h1, h2, h3⟩ := key k kk h
    obtain ⟨b, c, o, e1, e2, e3, e4⟩ := hH.blk k k0 h1
    exact ⟨b, c, o, by rw [ha]; exact e1, e2, h3 o e3, fun hr => e4 (by rw [h2]; exact hr)⟩
  · obtain ⟨_, q1, h1, _⟩ := key _ _ g1
    obtain ⟨_, q2, h2, _⟩ := key _ _ g2
    rw [ha] at g3 g4
    exact hH.inj _ _ _ _ _ _ _ h1 h2 g3 g4
  · obtain ⟨_, k0, h1, _⟩ := key k kk h
    exact hH.lt k k0 h1
  · obtain ⟨hne, k0, h1, h2, _⟩ := key k kk g1
    rw [ha] at g2
    rw [← h2]
    exact (hfz b A h).2 k k0 c hne h1 g2
theorem Sat.freeze {i j m : Nat} {e e2 : TypeId} {cs : List AV} {x f r : Bool} {t : Ty} {xs : List t.den} {cap : Cap} (hj : H.get j = some (.cells e cs x f r)) (hm : cs[m]? = some (.osl e2 t i 0 xs.length cap)) (hi : H.get i = optOwn e2 t xs) (hij : i ≠ j)
    (hs : Sat P w0 F n T H a w) : Sat P w0 F n T ((H.drop i).set j (.cells e (cs.set m (.lst false t xs)) x f r)) a w := by
  obtain ⟨⟨ρ, hAR, hnone, hfz⟩, hb, hd⟩ := hs
  by_cases hx : xs = []
  · subst hx
    have hi : H.get i = none := hi
    refine ⟨⟨ρ, ⟨hAR.T, hden_swap hAR.H (Le.refl _) (fun _ => rfl) hj hij hm (fun y hy => ?_) (fun b A h => ⟨(hAR.H.fz b A h).1, fun k kk c _ g1 g2 => (hAR.H.fz b A h).2 k kk c g1 g2⟩), hAR.G⟩, hnone, hfz⟩, hb, hd⟩
    rcases hy.osl_inv with ⟨_, a, rfl⟩ | ⟨b, c, kc, _, _, _, rfl⟩
    · exact .lstNil fun e => by cases e
    · exact .lstNil fun e => by cases e
  · obtain ⟨x0, l0, rfl⟩ := List.exists_cons_of_ne_nil hx
    have hi : H.get i = some (.own e2 t (x0 :: l0)) := hi
    generalize hxs : x0 :: l0 = xs at *
    obtain ⟨b, c, o, hib, _, _, hB⟩ := hAR.H.blk i _ hi
    obtain ⟨zs, z1, z2, z3, z4, z5, z6⟩ := own_at hAR.H hi hib
    have hnf : ρ.fz b = none := by
      cases hz : ρ.fz b with
      | none => rfl
      | some A =>
        have := (hAR.H.fz b A hz).2 i _ c hi hib
        cases this
    have hle : Le ρ ⟨ρ.at', fun q => if q = b then some zs else ρ.fz q⟩ := ⟨fun _ _ h => h, fun q A h => by
      show (if q = b then some zs else ρ.fz q) = some A
      by_cases hq : q = b
      · subst hq; rw [hnf] at h; cases h
      · rw [if_neg hq]; exact h⟩
    refine ⟨⟨⟨ρ.at', fun q => if q = b then some zs else ρ.fz q⟩, ⟨hAR.T.mono hle, hden_swap hAR.H hle (fun _ => rfl) hj hij hm (fun y hy => ?_) (fun q A h => ?_), hAR.G.mono hle⟩, hnone, fun q A h => ?_⟩, hb, hd⟩
    · rcases hy.osl_inv with ⟨h0, _⟩ | ⟨b', c', kc, g1, _, g3, rfl⟩
      · exact absurd (List.length_eq_zero_iff.1 h0) hx
      · rw [hib] at g1
        cases g1
        refine .lst (A := zs) (b := b) (off := 0 * t.size) (by show (if b = b then some zs else _) = _; rw [if_pos rfl]) (by rw [Nat.zero_mul, Nat.zero_add]; exact z4) rfl ?_ g3 (fun e => by cases e)
        rw [Nat.zero_mul, List.drop_zero]
        exact z2.mono hle
    · have h : (if q = b then some zs else ρ.fz q) = some A := h
      by_cases hq : q = b
      · subst hq
        rw [if_pos rfl] at h
        cases h
        exact ⟨⟨_, _, z1⟩, fun k kk c' hne g1 g2 => absurd (hAR.H.inj k i kk _ q c' c g1 hi g2 hib) hne⟩
      · rw [if_neg hq] at h
        exact ⟨(hAR.H.fz q A h).1, fun k kk c _ g1 g2 => (hAR.H.fz q A h).2 k kk c g1 g2⟩
    · have h : (if q = b then some zs else ρ.fz q) = some A := h
      by_cases hq : q = b
      · subst hq; exact .inr (hB rfl)
      · rw [if_neg hq] at h; exact hfz q A h
/-- the same of a slot -/
theorem Sat.freezeSlot {i s : Nat} {e2 : TypeId} {t : Ty} {xs : List t.den} {cap : Cap} (hs' : T.get s = some (.osl e2 t i 0 xs.length cap)) (hi : H.get i = optOwn e2 t xs) (hs : Sat P w0 F n T H a w) : Sat P w0 F n (T.set s (some (.lst false t xs))) (H.drop i) a w := by
  obtain ⟨⟨ρ, hAR, hnone, hfz⟩, hb, hd⟩ := hs
  have hdrop : ∀ {ρ' : Env}, Le ρ ρ' → (∀ i, ρ' i = ρ i) → (∀ b A, ρ'.fz b = some A → (∃ e fr, w.heap[b]? = some (.cells A e fr)) ∧ ∀ k kk c, k ≠ i → H.get k = some kk → ρ k = some (b, c) → kk.isRo = true) → HDen P w0.heap.size ρ' (H.drop i) w := fun {ρ'} hl ha hf => by
    have key : ∀ k kk, (H.drop i).get k = some kk → k ≠ i ∧ H.get k = some kk := fun k kk h => by
      rw [AHeap.get_drop] at h
      split at h
      · cases h
      · rename_i h2; exact ⟨fun h => h2 h.symm, h⟩
    refine ⟨fun k kk h => ?_, fun i1 i2 k1 k2 b c1 c2 g1 g2 g3 g4 => ?_, fun k kk h => hAR.H.lt k kk (key k kk h).2, hAR.H.base, fun b A h => ⟨(hf b A h).1, fun k kk c g1 g2 => ?_⟩⟩
    · obtain ⟨b, c, o, e1, e2, e3, e4⟩ := hAR.H.blk k kk (key k kk h).2
      exact ⟨b, c, o, by rw [ha]; exact e1, e2, e3.mono hl, e4⟩
    · rw [ha] at g3 g4
      exact hAR.H.inj _ _ _ _ _ _ _ (key _ _ g1).2 (key _ _ g2).2 g3 g4
    · rw [ha] at g2
      exact (hf b A h).2 k kk c (key k kk g1).1 (key k kk g1).2 g2
  have hset : ∀ {ρ' : Env}, Le ρ ρ' → (∀ y, Den ρ (.osl e2 t i 0 xs.length cap) y → Den ρ' (.lst false t xs) y) → TDen ρ' (T.set s (some (.lst false t xs))) n a.tmps := fun {ρ'} hl hv => ⟨hAR.T.size, fun k => by
    rw [Tr.get_set]
    have hk := hAR.T.get k
    by_cases hks : s = k
    · subst hks
      rw [if_pos rfl]
      rw [hs'] at hk
      exact hv _ hk
    · rw [if_neg hks]; exact hk.mono hl⟩
  by_cases hx : xs = []
  · subst hx
    refine ⟨⟨ρ, ⟨hset (Le.refl _) fun y hy => ?_, hdrop (Le.refl _) (fun _ => rfl) (fun b A h => ⟨(hAR.H.fz b A h).1, fun k kk c _ g1 g2 => (hAR.H.fz b A h).2 k kk c g1 g2⟩), hAR.G⟩, hnone, hfz⟩, hb, hd⟩
    rcases hy.osl_inv with ⟨_, a, rfl⟩ | ⟨b, c, kc, _, _, _, rfl⟩
    · exact .lstNil fun e => by cases e
    · exact .lstNil fun e => by cases e
  · obtain ⟨x0, l0, rfl⟩ := List.exists_cons_of_ne_nil hx
    have hi : H.get i = some (.own e2 t (x0 :: l0)) := hi
    generalize hxs : x0 :: l0 = xs at *
    obtain ⟨b, c, o, hib, _, _, hB⟩ := hAR.H.blk i _ hi
    obtain ⟨zs, z1, z2, z3, z4, z5, z6⟩ := own_at hAR.H hi hib
    have hnf : ρ.fz b = none := by
      cases hz : ρ.fz b with
      | none => rfl
      | some A =>
        have := (hAR.H.fz b A hz).2 i _ c hi hib
        cases this
    have hle : Le ρ ⟨ρ.at', fun q => if q = b then some zs else ρ.fz q⟩ := ⟨fun _ _ h => h, fun q A h => by
      show (if q = b then some zs else ρ.fz q) = some A
      by_cases hq : q = b
      · subst hq; rw [hnf] at h; cases h
      · rw [if_neg hq]; exact h⟩
    refine ⟨⟨⟨ρ.at', fun q => if q = b then some zs else ρ.fz q⟩, ⟨hset hle fun y hy => ?_, hdrop hle (fun _ => rfl) (fun q A h => ?_), hAR.G.mono hle⟩, hnone, fun q A h => ?_⟩, hb, hd⟩
    · rcases hy.osl_inv with ⟨h0, _⟩ | ⟨b', c', kc, g1, _, g3, rfl⟩
      · exact absurd (List.length_eq_zero_iff.1 h0) hx
      · rw [hib] at g1
        cases g1
        refine .lst (A := zs) (b := b) (off := 0 * t.size) (by show (if b = b then some zs else _) = _; rw [if_pos rfl]) (by rw [Nat.zero_mul, Nat.zero_add]; exact z4) rfl ?_ g3 (fun e => by cases e)
        rw [Nat.zero_mul, List.drop_zero]
        exact z2.mono hle
    · have h : (if q = b then some zs else ρ.fz q) = some A := h
      by_cases hq : q = b
      · subst hq
        rw [if_pos rfl] at h
        cases h
        exact ⟨⟨_, _, z1⟩, fun k kk c' hne g1 g2 => absurd (hAR.H.inj k i kk _ q c' c g1 hi g2 hib) hne⟩
      · rw [if_neg hq] at h
        exact ⟨(hAR.H.fz q A h).1, fun k kk c _ g1 g2 => (hAR.H.fz q A h).2 k kk c g1 g2⟩
    · have h : (if q = b then some zs else ρ.fz q) = some A := h
      by_cases hq : q = b
      · subst hq; exact .inr (hB rfl)
      · rw [if_neg hq] at h; exact hfz q A h
theorem GoalL.freezeSlot {Q : Exit → Tr AV → AHeap → Prop} {l : List Code} (hl : l ≠ []) {i s : Nat} {e2 : TypeId} {t : Ty} {xs : List t.den} {cap : Cap} (hs' : T.get s = some (.osl e2 t i 0 xs.length cap)) (hi : H.get i = optOwn e2 t xs)
    (hg : GoalL P w0 F n l (T.set s (some (.lst false t xs))) (H.drop i) Q) : GoalL P w0 F n l T H Q := by
  cases l with
  | nil => exact absurd rfl hl
  | cons c l => exact fun a w hs k => hg a w (Sat.freezeSlot hs' hi hs) k
theorem Goal.freeze {Q : Exit → Tr AV → AHeap → Prop} {c : Code} {i j m : Nat} {e e2 : TypeId} {cs : List AV} {x f r : Bool} {t : Ty} {xs : List t.den} {cap : Cap} (hj : H.get j = some (.cells e cs x f r)) (hm : cs[m]? = some (.osl e2 t i 0 xs.length cap)) (hi : H.get i = optOwn e2 t xs) (hij : i ≠ j)
    (hg : Goal P w0 F n c T ((H.drop i).set j (.cells e (cs.set m (.lst false t xs)) x f r)) Q) : Goal P w0 F n c T H Q := fun a w hs k => hg a w (Sat.freeze hj hm hi hij hs) k
theorem GoalL.freeze {Q : Exit → Tr AV → AHeap → Prop} {l : List Code} (hl : l ≠ []) {i j m : Nat} {e e2 : TypeId} {cs : List AV} {x f r : Bool} {t : Ty} {xs : List t.den} {cap : Cap} (hj : H.get j = some (.cells e cs x f r)) (hm : cs[m]? = some (.osl e2 t i 0 xs.length cap)) (hi : H.get i = optOwn e2 t xs) (hij : i ≠ j)
    (hg : GoalL P w0 F n l T ((H.drop i).set j (.cells e (cs.set m (.lst false t xs)) x f r)) Q) : GoalL P w0 F n l T H Q := by
  cases l with
  | nil => exact absurd rfl hl
  | cons c l => exact Goal.freeze hj hm hi hij hg
theorem GoalL.refit {Q : Exit → Tr AV → AHeap → Prop} {l : List Code} (hl : l ≠ []) {σ : Ren} {s : St} (h : fit P σ n T H s) (hg : GoalL P w0 F n l s.T s.H Q) : GoalL P w0 F n l T H Q := by
  cases l with
  | nil => exact absurd rfl hl
  | cons c l => exact Goal.refit h hg
end
end Go.Proofs.YtkjjnnbbicoljaaGreatDoor
