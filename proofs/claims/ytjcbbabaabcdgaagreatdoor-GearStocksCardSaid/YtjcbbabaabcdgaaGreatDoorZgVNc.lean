/- Package gear: trains in the runner of closed calls: it is sound. -/
import Derived.Test.YtjcbbabaabcdgaaGreatDoorZgGTr3
import Derived.Test.YtjcbbabaabcdgaaGreatDoorZgVBas
namespace Go.Proofs.YtjcbbabaabcdgaaGreatDoor
open Go.RowKit Sv
set_option linter.unusedSectionVars false
variable [Sv.Ground]
theorem spT_mono {ih : RunnerN} (hI : RunOkN Tryz.prog ih) {args : List AV} {H : AHeap} {v : AV} {H' : AHeap} (h : spT ih args H = .ok v H') : H.next + 3 ≤ H'.next := by
  obtain ⟨yi, jl, jp, lm, es, clock, ks, el, ex, fz, ro, rfl, h1, h2, h3, h4, h5, h6, h7, h8⟩ := spT_some h
  obtain ⟨e, T1, H1, m1, ho, he, hl⟩ := trLeave_some h8
  have a1 := hI.mono _ _ _ _ _ _ _ _ _ _ ho
  have a2 := aleave_mono hl
  have a3 : (trH yi (sortI ks) H).next = H.next + 3 := rfl
  omega
theorem trT_den {ρ : Env} {yi jl jp i : Nat} {a' : Act} (hs : a'.tmps.size = 48) (h0 : Den ρ (.yield yi) (a'.tmps.getD 0 undef)) (h1 : Den ρ (.ptr jl 0) (a'.tmps.getD 1 undef)) (h2 : Den ρ (.ptr jp 0) (a'.tmps.getD 2 undef)) (h3 : Den ρ (.ptr i 0) (a'.tmps.getD 3 undef)) (h4 : Den ρ (.ptr (i + 2) 0) (a'.tmps.getD 4 undef))
    (hu : ∀ t, t < 48 → t ∉ [0, 1, 2, 3, 4, 5, 10, 11, 12, 13, 14, 15, 16, 17, 18, 19, 20, 21] → a'.tmps.getD t undef = undef) : TDen ρ (trT [.yield yi, .ptr jl 0, .ptr jp 0] i) 48 a'.tmps := by
  refine ⟨hs, fun t => ?_⟩
  unfold trT
  simp only [List.foldl_cons, List.foldl_nil, Tr.get_set, initT_get, Tr.get_nil, List.length_cons, List.length_nil, Nat.zero_le, true_and, Nat.zero_add, Nat.reduceAdd, Nat.sub_zero]
  by_cases hb : t ∈ [5, 10, 11, 12, 13, 14, 15, 16, 17, 18, 19, 20, 21]
  · simp only [List.mem_cons, List.not_mem_nil, or_false] at hb
    rcases hb with rfl | rfl | rfl | rfl | rfl | rfl | rfl | rfl | rfl | rfl | rfl | rfl | rfl <;> exact .bot _
  · simp only [List.mem_cons, List.not_mem_nil, or_false, not_or] at hb
    obtain ⟨b1, b2, b3, b4, b5, b6, b7, b8, b9, b10, b11, b12, b13⟩ := hb
    rw [if_neg (Ne.symm b13), if_neg (Ne.symm b12), if_neg (Ne.symm b11), if_neg (Ne.symm b10), if_neg (Ne.symm b9), if_neg (Ne.symm b8), if_neg (Ne.symm b7), if_neg (Ne.symm b6), if_neg (Ne.symm b5), if_neg (Ne.symm b4), if_neg (Ne.symm b3), if_neg (Ne.symm b2), if_neg (Ne.symm b1)]
    by_cases e4 : t = 4
    · subst e4; exact h4
    · rw [if_neg (Ne.symm e4)]
      by_cases e3 : t = 3
      · subst e3; exact h3
      · rw [if_neg (Ne.symm e3)]
        by_cases hlt : t < 3
        · rw [if_pos hlt]
          rcases t with _ | _ | _ | t
          · exact h0
          · exact h1
          · exact h2
          · omega
        · rw [if_neg hlt]
          by_cases h48 : t < 48
          · rw [hu t h48 (by simp; omega)]; exact .raw _
          · rw [Array.getD_eq_getD_getElem?, Array.getElem?_eq_none (by omega)]; exact .raw _
theorem img_put {ρ : Env} {H : AHeap} {b b' c : Nat} {k : ABlk} (h : ¬ Img ρ H b') (hne : b' ≠ b) : ¬ Img (ρ.put H.next b c) (H.new k) b' := fun ⟨i, k', c', e1, e2⟩ => by
  rw [AHeap.get_new] at e1
  split at e1
  · rename_i hi; rw [← hi, Env.put_same] at e2; cases e2; exact hne rfl
  · rename_i hi
    have : ρ.put H.next b c i = ρ i := by simp [Env.put, Ne.symm hi]
    rw [this] at e2
    exact h ⟨i, k', c', e1, e2⟩
theorem put_far {ρ : Env} {i j b c : Nat} (h : j ≠ i) : ρ.put i b c j = ρ j := by simp [Env.put, h]
theorem cells1 {cap : Nat} : cap * 1 = cap * Tryz.prog.cellsOf 3 := by rw [show Tryz.prog.cellsOf 3 = 1 by kernel_rfl]
theorem ints_dens {ρ : Env} (l : List Int) : Dens ρ (l.map fun n => AV.raw (.int .i64 n)) (ic l) := by
  unfold ic
  induction l with
  | nil => exact .nil
  | cons x l ih => exact .cons (.raw _) ih
theorem spT_sim {ih : RunnerN} (hI : RunOkN Tryz.prog ih) {args : List AV} {H : AHeap} {v : AV} {H' : AHeap} (h : spT ih args H = .ok v H') (B : Nat) (ρ : Env) (xs : List Value) (w : World) (m : Nat) (hH : HDen Tryz.prog B ρ H w) (hG : Glob ρ) (hd : Dens ρ args xs) (hf : Fr ρ H.next H'.next) :
    CallsIn (FF none) m Tryz.prog 149 xs.toArray w (CallPost Tryz.prog B ρ H w v H') := by
  have hmono := spT_mono hI h
  obtain ⟨yi, jl, jp, lm, es, clock, ks, el, ex, fz, ro, rfl, h1, h2, h3, h4, h5, h6, h7, h8⟩ := spT_some h
  obtain ⟨e, T1, H1, m1, ho, he, hl⟩ := trLeave_some h8
  have hnx := aleave_mono hl
  match xs, hd with
  | [x0, x1, x2], .cons d0 (.cons d1 (.cons d2 .nil)) =>
    obtain ⟨lp, c0, r0, rfl⟩ := d0.yield_inv
    obtain ⟨bl, c1, r1, rfl⟩ := d1.ptr_inv
    obtain ⟨bp, c2, r2, rfl⟩ := d2.ptr_inv
    obtain ⟨ys, fz0, g1, _, g3, _, _, g6⟩ := cells_at hH h1 r1
    obtain ⟨y, hy1, hy2⟩ := g3.get (i := 0) rfl
    obtain ⟨b, cb, rb, rfl⟩ := hy2.map_inv
    have hcell : w.cell? ⟨bl, 0, none⟩ = some (.map (some b)) := by
      have e1 : (ys.toList.take 1)[0]? = some (Value.map (some b)) := hy1
      rw [List.getElem?_take, if_pos (by decide), Array.getElem?_toList] at e1
      rw [cell_of_row _ _ 0 ys _ _ g1]; exact e1
    obtain ⟨o, q1, q2, _⟩ := hH.at h2 rb
    have q2 : o = .map es clock := q2
    subst q2
    refine trains_head m lp bl bp b es clock ks w _ hcell q1 (bornOk_ok h6) (nodN_ok h7) (keysI_ok h3) h5 fun a' W hO => ?_
    obtain ⟨vk, k1, k2⟩ := hO.b4
    rw [sortI_eq] at k2
    have hlen : (sortI ks).length = ks.length := (sortI_perm ks).length_eq
    rcases k2.2 with ⟨_, k3⟩ | ⟨g, cap, cur, rfl, k3, k4, k5, k6, k7, k8⟩
    · omega
    · have k8' : cur.toList.take (sortI ks).length = ic (sortI ks) := by rw [hlen]; simpa using k8
      have hn0 : ∀ i, H.next ≤ i → i < H.next + 3 → ρ i = none := fun i a1 a2 => hf i a1 (by omega)
      have hBw := hH.base
      have nof : ∀ b' A, w.heap.size ≤ b' → ρ.fz b' = some A → False := fun b' A hb' hz => by
        obtain ⟨⟨e', fr, e2⟩, _⟩ := hH.fz b' A hz
        have := (Array.getElem?_eq_some_iff.1 e2).1
        omega
      have noi : ∀ b', w.heap.size ≤ b' → ¬ Img ρ H b' := fun b' hb' ⟨i, k, c, e1, e2⟩ => by
        obtain ⟨o, e3, _⟩ := hH.at e1 e2
        have := (Array.getElem?_eq_some_iff.1 e3).1
        omega
      obtain ⟨p1, p2⟩ := grown_sim hH hO.gr
      -- the box of yield
      obtain ⟨s1, t1⟩ := adopt (b := w.heap.size) (c := 0) (k := .cells 35 [.yield yi] true false false) p1 p2 hBw (Nat.le_refl _) (noi _ (Nat.le_refl _)) (fun A => nof _ A (Nat.le_refl _)) (hn0 _ (Nat.le_refl _) (by omega)) (Nat.le_refl _) hO.b3
        ⟨_, _, rfl, fun _ => rfl, .cons ((Den.yield r0).mono (Env.put_le (hn0 _ (Nat.le_refl _) (by omega)))) .nil, fun _ => rfl, fun hh => by cases hh⟩
      have n1 := img_put (b' := g) (b := w.heap.size) (c := 0) (k := .cells 35 [.yield yi] true false false) (noi g (by omega)) (by omega)
      have n1' := img_put (b' := w.heap.size + 1) (b := w.heap.size) (c := 0) (k := .cells 35 [.yield yi] true false false) (noi _ (by omega)) (by omega)
      -- the row
      have f1 : (ρ.put H.next w.heap.size 0) (H.next + 1) = none := by rw [put_far (by omega)]; exact hn0 _ (by omega) (by omega)
      obtain ⟨s2, t2⟩ := adopt (b := g) (c := cap) (k := .cells 3 ((sortI ks).map fun n => .raw (.int .i64 n)) false false false) s1 t1 hBw (by omega) n1 (fun A => nof _ A (by omega)) f1 (Nat.le_succ _) k4
        ⟨cur, _, rfl, fun _ => rfl, by rw [List.length_map, k8']; exact ints_dens _, (fun hh => by cases hh), fun _ => ⟨g, cap, Env.put_same .., by rw [k7]; exact cells1⟩⟩
      have n2 := img_put (b' := w.heap.size + 1) (b := g) (c := cap) (k := .cells 3 ((sortI ks).map fun n => .raw (.int .i64 n)) false false false) n1' (by omega)
      -- the cell of kinds
      have f2 : ((ρ.put H.next w.heap.size 0).put (H.next + 1) g cap) (H.next + 2) = none := by rw [put_far (by omega), put_far (by omega)]; exact hn0 _ (by omega) (by omega)
      have rg : ((ρ.put H.next w.heap.size 0).put (H.next + 1) g cap) (H.next + 1) = some (g, cap) := Env.put_same ..
      obtain ⟨s3, t3⟩ := adopt (b := w.heap.size + 1) (c := 0) (k := .cells 80 [.slice (Nat.succ H.next) 0 (sortI ks).length .any] true false false) s2 t2 hBw (by omega) n2 (fun A => nof _ A (by omega)) f2 (by show H.next ≤ H.next + 2; omega) k1
        ⟨_, _, rfl, fun _ => rfl, .cons (by rw [hlen]; exact (Den.slice (cap := .any) rg trivial k5).mono (Env.put_le f2)) .nil, fun _ => rfl, fun hh => by cases hh⟩
      have hfr := (t3.fr (H' := H1) (by rw [hnx]; exact hf))
      have hT : TDen (((ρ.put H.next w.heap.size 0).put (H.next + 1) g cap).put (H.next + 2) (w.heap.size + 1) 0) (trT [.yield yi, .ptr jl 0, .ptr jp 0] H.next) 48 a'.tmps := by
        refine trT_den hO.size ?_ ?_ ?_ ?_ ?_ hO.un
        · rw [hO.t0]; exact (Den.yield r0).mono t3.le
        · rw [hO.t1]; exact (Den.ptr r1).mono t3.le
        · rw [hO.t2]; exact (Den.ptr r2).mono t3.le
        · rw [hO.t3]; exact .ptr (c := 0) (by rw [put_far (by omega), put_far (by omega)]; exact Env.put_same ..)
        · rw [hO.t4]; exact .ptr (c := 0) (Env.put_same ..)
      refine hI.sim _ _ _ _ _ _ _ _ _ _ ho B _ a' W none m _ trivial ⟨hT, s3, hG.mono t3.le⟩ hO.df hfr fun ρ' a2 w2 z1 z2 z3 => ?_
      have : LeavesInM (FF none) m Tryz.prog Tryz.f149 a2.tmps (CallPost Tryz.prog B ρ H w v H') a2.defers .returning w2 := aleave_ok m1 z1 z3 hl fun y w3 u1 u2 u3 => ⟨y, ρ', rfl, u1, u2, (t3.trans z2).trans u3⟩
      rcases he with rfl | rfl <;> exact this
theorem clT_ok {ih : RunnerN} (hI : RunOkN Tryz.prog ih) : CallOk Tryz.prog (clT ih) where
  mono f args H v H' h := by
    unfold clT at h
    cases hb : Nat.beq f 149 with
    | false => rw [hb] at h; exact (acallN_ok hI).mono _ _ _ _ _ h
    | true => rw [hb] at h; have := spT_mono hI h; omega
  sim f args H v H' h B ρ xs w m hH hG hd hf := by
    unfold clT at h
    cases hb : Nat.beq f 149 with
    | false => rw [hb] at h; exact (acallN_ok hI).sim _ _ _ _ _ h B ρ xs w m hH hG hd hf
    | true =>
      rw [hb] at h
      obtain rfl := Nat.eq_of_beq_eq_true hb
      exact spT_sim hI h B ρ xs w m hH hG hd hf
end Go.Proofs.YtjcbbabaabcdgaaGreatDoor
/- The runner: a row of the run's own that is never written again is taken as plain data. -/
namespace Go.Proofs.YtjcbbabaabcdgaaGreatDoor
open Go.RowKit Sv
set_option linter.unusedSectionVars false
section
variable [Sv.Ground] {X : Ext} {P : Program} {w0 : World} {F : Env} {n : Nat} {T : Tr AV} {H : AHeap} {a : Act} {w : World} {B : Nat} {ρ ρ' : Env}
theorem own_drop {i : Nat} {ρ' : Env} (ha : ∀ i, ρ' i = ρ i) {b : Nat} (h : Sv.Own ρ' (H.drop i) b) : Sv.Own ρ H b := by
  obtain ⟨k, kk, c, h1, h2, h3⟩ := h
  rw [ha] at h3
  rw [AHeap.get_drop] at h1
  split at h1
  · cases h1
  · exact ⟨k, kk, c, h1, h2, h3⟩
theorem Sat.freeze {i j m : Nat} {e e2 : TypeId} {cs : List AV} {x f r : Bool} {t : Ty} {xs : List t.den} {cap : Cap} (hj : H.get j = some (.cells e cs x f r)) (hm : cs[m]? = some (.osl e2 t i 0 xs.length cap)) (hi : H.get i = optOwn e2 t xs) (hij : i ≠ j)
    (hs : SatX X P w0 F n T H a w) : SatX X P w0 F n T ((H.drop i).set j (.cells e (cs.set m (.lst false t xs)) x f r)) a w := by
  obtain ⟨⟨ρ, hAR, hnone, hfz, hkp⟩, hb, hd⟩ := hs
  by_cases hx : xs = []
  · subst hx
    have hi : H.get i = none := hi
    refine ⟨⟨ρ, ⟨hAR.T, hden_swap hAR.H (Le.refl _) (fun _ => rfl) hj hij hm (fun y hy => ?_) (fun b A h => ⟨(hAR.H.fz b A h).1, fun k kk c _ g1 g2 => (hAR.H.fz b A h).2 k kk c g1 g2⟩), hAR.G⟩, hnone, hfz, hkp.re (Le.refl _) (Nat.le_refl _) (fun _ hh => own_swap (fun _ => rfl) hj hh) fun _ _ h => .inl h⟩, hb, hd⟩
    rcases hy.osl_inv with ⟨_, a, rfl⟩ | ⟨b, c, kc, _, _, _, rfl⟩
    · exact .lstNil fun e => by cases e
    · exact .lstNil fun e => by cases e
  · obtain ⟨x0, l0, rfl⟩ := List.exists_cons_of_ne_nil hx
    have hi : H.get i = some (.own e2 t (x0 :: l0)) := hi
    generalize hxs : x0 :: l0 = xs at *
    obtain ⟨b, c, o, hib, _, _, hB⟩ := hAR.H.blk i _ hi
    obtain ⟨zs, z1, z2, z3, z4, z5, z6⟩ := own_at hAR.H hi hib
    have hnf : ρ.fz b = none := by
      cases hz : ρ.fz b with
      | none => rfl
      | some A =>
        have := (hAR.H.fz b A hz).2 i _ c hi hib
        cases this
    have hle : Le ρ ⟨ρ.at', fun q => if q = b then some zs else ρ.fz q⟩ := ⟨fun _ _ h => h, fun q A h => by
      show (if q = b then some zs else ρ.fz q) = some A
      by_cases hq : q = b
      · subst hq; rw [hnf] at h; cases h
      · rw [if_neg hq]; exact h⟩
    refine ⟨⟨⟨ρ.at', fun q => if q = b then some zs else ρ.fz q⟩, ⟨hAR.T.mono hle, hden_swap hAR.H hle (fun _ => rfl) hj hij hm (fun y hy => ?_) (fun q A h => ?_), hAR.G.mono hle⟩, hnone, fun q A h => ?_, hkp.re hle (Nat.le_refl _) (fun _ hh => own_swap (fun _ => rfl) hj hh) fun q A h => by
      have h : (if q = b then some zs else ρ.fz q) = some A := h
      by_cases hq : q = b
      · exact .inr ⟨i, _, c, hi, rfl, hq ▸ hib⟩
      · rw [if_neg hq] at h; exact .inl h⟩, hb, hd⟩
    · rcases hy.osl_inv with ⟨h0, _⟩ | ⟨b', c', kc, g1, _, g3, rfl⟩
      · exact absurd (List.length_eq_zero_iff.1 h0) hx
      · rw [hib] at g1
        cases g1
        refine .lst (A := zs) (b := b) (off := 0 * t.size) (by show (if b = b then some zs else _) = _; rw [if_pos rfl]) (by rw [Nat.zero_mul, Nat.zero_add]; exact z4) rfl ?_ g3 (fun e => by cases e)
        rw [Nat.zero_mul, List.drop_zero]
        exact z2.mono hle
    · have h : (if q = b then some zs else ρ.fz q) = some A := h
      by_cases hq : q = b
      · subst hq
        rw [if_pos rfl] at h
        cases h
        exact ⟨⟨_, _, z1⟩, fun k kk c' hne g1 g2 => absurd (hAR.H.inj k i kk _ q c' c g1 hi g2 hib) hne⟩
      · rw [if_neg hq] at h
        exact ⟨(hAR.H.fz q A h).1, fun k kk c _ g1 g2 => (hAR.H.fz q A h).2 k kk c g1 g2⟩
    · have h : (if q = b then some zs else ρ.fz q) = some A := h
      by_cases hq : q = b
      · subst hq; exact .inr (hB rfl)
      · rw [if_neg hq] at h; exact hfz q A h
theorem Sat.freezeSlot {i s : Nat} {e2 : TypeId} {t : Ty} {xs : List t.den} {cap : Cap} (hs' : T.get s = some (.osl e2 t i 0 xs.length cap)) (hi : H.get i = optOwn e2 t xs) (hs : SatX X P w0 F n T H a w) : SatX X P w0 F n (T.set s (some (.lst false t xs))) (H.drop i) a w := by
  obtain ⟨⟨ρ, hAR, hnone, hfz, hkp⟩, hb, hd⟩ := hs
  have hdrop : ∀ {ρ' : Env}, Le ρ ρ' → (∀ i, ρ' i = ρ i) → (∀ b A, ρ'.fz b = some A → (∃ e fr, w.heap[b]? = some (.cells A e fr)) ∧ ∀ k kk c, k ≠ i → H.get k = some kk → ρ k = some (b, c) → kk.isRo = true) → HDen P w0.heap.size ρ' (H.drop i) w := fun {ρ'} hl ha hf => by
    have key : ∀ k kk, (H.drop i).get k = some kk → k ≠ i ∧ H.get k = some kk := fun k kk h => by
      rw [AHeap.get_drop] at h
      split at h
      · cases h
      · rename_i h2; exact ⟨fun h => h2 h.symm, h⟩
    refine ⟨fun k kk h => ?_, fun i1 i2 k1 k2 b c1 c2 g1 g2 g3 g4 => ?_, fun k kk h => hAR.H.lt k kk (key k kk h).2, hAR.H.base, fun b A h => ⟨(hf b A h).1, fun k kk c g1 g2 => ?_⟩⟩
    · obtain ⟨b, c, o, e1, e2, e3, e4⟩ := hAR.H.blk k kk (key k kk h).2
      exact ⟨b, c, o, by rw [ha]; exact e1, e2, e3.mono hl, e4⟩
    · rw [ha] at g3 g4
      exact hAR.H.inj _ _ _ _ _ _ _ (key _ _ g1).2 (key _ _ g2).2 g3 g4
    · rw [ha] at g2
      exact (hf b A h).2 k kk c (key k kk g1).1 (key k kk g1).2 g2
  have hset : ∀ {ρ' : Env}, Le ρ ρ' → (∀ y, Den ρ (.osl e2 t i 0 xs.length cap) y → Den ρ' (.lst false t xs) y) → TDen ρ' (T.set s (some (.lst false t xs))) n a.tmps := fun {ρ'} hl hv => ⟨hAR.T.size, fun k => by
    rw [Tr.get_set]
    have hk := hAR.T.get k
    by_cases hks : s = k
    · subst hks
      rw [if_pos rfl]
      rw [hs'] at hk
      exact hv _ hk
    · rw [if_neg hks]; exact hk.mono hl⟩
  by_cases hx : xs = []
  · subst hx
    refine ⟨⟨ρ, ⟨hset (Le.refl _) fun y hy => ?_, hdrop (Le.refl _) (fun _ => rfl) (fun b A h => ⟨(hAR.H.fz b A h).1, fun k kk c _ g1 g2 => (hAR.H.fz b A h).2 k kk c g1 g2⟩), hAR.G⟩, hnone, hfz, hkp.re (Le.refl _) (Nat.le_refl _) (fun _ hh => own_drop (fun _ => rfl) hh) fun _ _ h => .inl h⟩, hb, hd⟩
    rcases hy.osl_inv with ⟨_, a, rfl⟩ | ⟨b, c, kc, _, _, _, rfl⟩
    · exact .lstNil fun e => by cases e
    · exact .lstNil fun e => by cases e
  · obtain ⟨x0, l0, rfl⟩ := List.exists_cons_of_ne_nil hx
    have hi : H.get i = some (.own e2 t (x0 :: l0)) := hi
    generalize hxs : x0 :: l0 = xs at *
    obtain ⟨b, c, o, hib, _, _, hB⟩ := hAR.H.blk i _ hi
    obtain ⟨zs, z1, z2, z3, z4, z5, z6⟩ := own_at hAR.H hi hib
    have hnf : ρ.fz b = none := by
      cases hz : ρ.fz b with
      | none => rfl
      | some A =>
        have := (hAR.H.fz b A hz).2 i _ c hi hib
        cases this
    have hle : Le ρ ⟨ρ.at', fun q => if q = b then some zs else ρ.fz q⟩ := ⟨fun _ _ h => h, fun q A h => by
      show (if q = b then some zs else ρ.fz q) = some A
      by_cases hq : q = b
      · subst hq; rw [hnf] at h; cases h
      · rw [if_neg hq]; exact h⟩
    refine ⟨⟨⟨ρ.at', fun q => if q = b then some zs else ρ.fz q⟩, ⟨hset hle fun y hy => ?_, hdrop hle (fun _ => rfl) (fun q A h => ?_), hAR.G.mono hle⟩, hnone, fun q A h => ?_, hkp.re hle (Nat.le_refl _) (fun _ hh => own_drop (fun _ => rfl) hh) fun q A h => by
      have h : (if q = b then some zs else ρ.fz q) = some A := h
      by_cases hq : q = b
      · exact .inr ⟨i, _, c, hi, rfl, hq ▸ hib⟩
      · rw [if_neg hq] at h; exact .inl h⟩, hb, hd⟩
    · rcases hy.osl_inv with ⟨h0, _⟩ | ⟨b', c', kc, g1, _, g3, rfl⟩
      · exact absurd (List.length_eq_zero_iff.1 h0) hx
      · rw [hib] at g1
        cases g1
        refine .lst (A := zs) (b := b) (off := 0 * t.size) (by show (if b = b then some zs else _) = _; rw [if_pos rfl]) (by rw [Nat.zero_mul, Nat.zero_add]; exact z4) rfl ?_ g3 (fun e => by cases e)
        rw [Nat.zero_mul, List.drop_zero]
        exact z2.mono hle
    · have h : (if q = b then some zs else ρ.fz q) = some A := h
      by_cases hq : q = b
      · subst hq
        rw [if_pos rfl] at h
        cases h
        exact ⟨⟨_, _, z1⟩, fun k kk c' hne g1 g2 => absurd (hAR.H.inj k i kk _ q c' c g1 hi g2 hib) hne⟩
      · rw [if_neg hq] at h
        exact ⟨(hAR.H.fz q A h).1, fun k kk c _ g1 g2 => (hAR.H.fz q A h).2 k kk c g1 g2⟩
    · have h : (if q = b then some zs else ρ.fz q) = some A := h
      by_cases hq : q = b
      · subst hq; exact .inr (hB rfl)
      · rw [if_neg hq] at h; exact hfz q A h
theorem GoalL.freezeSlot {Q : Exit → Tr AV → AHeap → Prop} {l : List Code} (hl : l ≠ []) {i s : Nat} {e2 : TypeId} {t : Ty} {xs : List t.den} {cap : Cap} (hs' : T.get s = some (.osl e2 t i 0 xs.length cap)) (hi : H.get i = optOwn e2 t xs)
    (hg : GoalLX X P w0 F n l (T.set s (some (.lst false t xs))) (H.drop i) Q) : GoalLX X P w0 F n l T H Q := by
  cases l with
  | nil => exact absurd rfl hl
  | cons c l => exact fun a w hs k => hg a w (Sat.freezeSlot hs' hi hs) k
theorem Goal.freeze {Q : Exit → Tr AV → AHeap → Prop} {c : Code} {i j m : Nat} {e e2 : TypeId} {cs : List AV} {x f r : Bool} {t : Ty} {xs : List t.den} {cap : Cap} (hj : H.get j = some (.cells e cs x f r)) (hm : cs[m]? = some (.osl e2 t i 0 xs.length cap)) (hi : H.get i = optOwn e2 t xs) (hij : i ≠ j)
    (hg : GoalX X P w0 F n c T ((H.drop i).set j (.cells e (cs.set m (.lst false t xs)) x f r)) Q) : GoalX X P w0 F n c T H Q := fun a w hs k => hg a w (Sat.freeze hj hm hi hij hs) k
theorem GoalL.freeze {Q : Exit → Tr AV → AHeap → Prop} {l : List Code} (hl : l ≠ []) {i j m : Nat} {e e2 : TypeId} {cs : List AV} {x f r : Bool} {t : Ty} {xs : List t.den} {cap : Cap} (hj : H.get j = some (.cells e cs x f r)) (hm : cs[m]? = some (.osl e2 t i 0 xs.length cap)) (hi : H.get i = optOwn e2 t xs) (hij : i ≠ j)
    (hg : GoalLX X P w0 F n l T ((H.drop i).set j (.cells e (cs.set m (.lst false t xs)) x f r)) Q) : GoalLX X P w0 F n l T H Q := by
  cases l with
  | nil => exact absurd rfl hl
  | cons c l => exact Goal.freeze hj hm hi hij hg
theorem GoalL.refit {Q : Exit → Tr AV → AHeap → Prop} {l : List Code} (hl : l ≠ []) {σ : Ren} {s : St} (h : fit P σ n T H s) (hg : GoalLX X P w0 F n l s.T s.H Q) (hp : pinned σ s.H.next X.pins = true := by rfl) : GoalLX X P w0 F n l T H Q := by
  cases l with
  | nil => exact absurd rfl hl
  | cons c l => exact Goal.refit h hg hp
end
end Go.Proofs.YtjcbbabaabcdgaaGreatDoor
/- Numbers as lists of digits to some base, the least significant one first: plain facts. -/
namespace Go.Proofs.YtjcbbabaabcdgaaGreatDoor
def vl (b : Int) : List Int → Int
  | [] => 0
  | x :: r => x + b * vl b r
def Dg (b : Int) (l : List Int) : Prop := ∀ x ∈ l, 0 ≤ x ∧ x < b
theorem Dg.nil {b : Int} : Dg b [] := fun x h => by cases h
theorem Dg.cons {b x : Int} {l : List Int} (h : 0 ≤ x ∧ x < b) (hl : Dg b l) : Dg b (x :: l) := fun y hy => by
  rcases List.mem_cons.1 hy with rfl | hy
  · exact h
  · exact hl y hy
theorem Dg.tail {b x : Int} {l : List Int} (h : Dg b (x :: l)) : Dg b l := fun y hy => h y (List.mem_cons_of_mem _ hy)
theorem Dg.head {b x : Int} {l : List Int} (h : Dg b (x :: l)) : 0 ≤ x ∧ x < b := h x List.mem_cons_self
theorem Dg.app {b : Int} {l m : List Int} (h : Dg b l) (g : Dg b m) : Dg b (l ++ m) := fun y hy => (List.mem_append.1 hy).elim (h y) (g y)
theorem Dg.left {b : Int} {l m : List Int} (h : Dg b (l ++ m)) : Dg b l := fun y hy => h y (List.mem_append_left _ hy)
theorem Dg.take {b : Int} {l : List Int} (h : Dg b l) (k : Nat) : Dg b (l.take k) := fun y hy => h y (List.mem_of_mem_take hy)
theorem Dg.drop {b : Int} {l : List Int} (h : Dg b l) (k : Nat) : Dg b (l.drop k) := fun y hy => h y (List.mem_of_mem_drop hy)
theorem Dg.set {b : Int} {l : List Int} (h : Dg b l) {k : Nat} {x : Int} (hx : 0 ≤ x ∧ x < b) : Dg b (l.set k x) := fun y hy => by
  rcases List.mem_or_eq_of_mem_set hy with hy | rfl
  · exact h y hy
  · exact hx
theorem Dg.at' {b : Int} {l : List Int} (h : Dg b l) {k : Nat} (hk : k < l.length) : 0 ≤ l.getD k 0 ∧ l.getD k 0 < b := by
  have : l.getD k 0 = l[k] := by simp [List.getD_eq_getElem?_getD, hk]
  rw [this]; exact h _ (List.getElem_mem _)
theorem Dg.get {b : Int} (hb : 0 < b) {l : List Int} (h : Dg b l) (k : Nat) : 0 ≤ l.getD k 0 ∧ l.getD k 0 < b := by
  by_cases hk : k < l.length
  · exact h.at' hk
  · rw [List.getD_eq_getElem?_getD, List.getElem?_eq_none (by omega)]
    exact ⟨Int.le_refl _, hb⟩
theorem Dg.rep {b : Int} (hb : 0 < b) (n : Nat) : Dg b (List.replicate n 0) := fun y hy => by
  rw [(List.mem_replicate.1 hy).2]; exact ⟨Int.le_refl _, hb⟩
theorem mul_nn {a b : Int} (ha : 0 ≤ a) (hb : 0 ≤ b) : 0 ≤ a * b := Int.mul_nonneg ha hb
theorem pow_pos' {b : Int} (hb : 0 < b) : ∀ n : Nat, 0 < b ^ n
  | 0 => by simp
  | n + 1 => by rw [Int.pow_succ]; exact Int.mul_pos (pow_pos' hb n) hb
theorem vl_nn {b : Int} (hb : 0 < b) : ∀ {l : List Int}, Dg b l → 0 ≤ vl b l
  | [], _ => Int.le_refl _
  | x :: r, h => by
    have h1 := h.head
    have h2 := Int.mul_nonneg (Int.le_of_lt hb) (vl_nn hb h.tail)
    show 0 ≤ x + b * vl b r
    omega
theorem vl_lt {b : Int} (hb : 0 < b) : ∀ {l : List Int}, Dg b l → vl b l < b ^ l.length
  | [], _ => by simp [vl]
  | x :: r, h => by
    have h1 := h.head
    have h2 := vl_lt hb h.tail
    have h3 : b * vl b r ≤ b * (b ^ r.length - 1) := Int.mul_le_mul_of_nonneg_left (by omega) (Int.le_of_lt hb)
    have h4 : b * (b ^ r.length - 1) = b * b ^ r.length - b := by rw [Int.mul_sub, Int.mul_one]
    have h5 : b ^ (x :: r).length = b * b ^ r.length := by rw [List.length_cons, Int.pow_succ, Int.mul_comm]
    rw [h5]
    show x + b * vl b r < _
    omega
theorem vl_app (b : Int) : ∀ (l m : List Int), vl b (l ++ m) = vl b l + b ^ l.length * vl b m
  | [], m => by simp [vl]
  | x :: r, m => by
    show x + b * vl b (r ++ m) = x + b * vl b r + b ^ (r.length + 1) * vl b m
    rw [vl_app b r m, Int.mul_add, Int.pow_succ, Int.mul_comm (b ^ r.length) b, Int.mul_assoc, Int.add_assoc]
theorem vl_one (b x : Int) : vl b [x] = x := by simp [vl]
theorem vl_snoc (b : Int) (l : List Int) (x : Int) : vl b (l ++ [x]) = vl b l + b ^ l.length * x := by rw [vl_app, vl_one]
theorem vl_rep (b : Int) : ∀ n : Nat, vl b (List.replicate n 0) = 0
  | 0 => rfl
  | n + 1 => by rw [List.replicate_succ]; show 0 + b * vl b (List.replicate n 0) = 0; rw [vl_rep b n]; simp
theorem dg_getD {l : List Int} {k : Nat} (h : k < l.length) : l.getD k 0 = l[k] := by simp [List.getD_eq_getElem?_getD, h]
theorem dg_take {l : List Int} {k : Nat} (h : k < l.length) : l.take (k + 1) = l.take k ++ [l.getD k 0] := by rw [dg_getD h]; simp
theorem vl_take {b : Int} {l : List Int} {k : Nat} (h : k < l.length) : vl b (l.take (k + 1)) = vl b (l.take k) + b ^ k * l.getD k 0 := by
  rw [dg_take h, vl_snoc, List.length_take, Nat.min_eq_left (by omega)]
theorem vl_take' {b : Int} (l : List Int) (k : Nat) : vl b (l.take (k + 1)) = vl b (l.take k) + b ^ k * l.getD k 0 := by
  by_cases h : k < l.length
  · exact vl_take h
  · have e : l.getD k 0 = 0 := by rw [List.getD_eq_getElem?_getD, List.getElem?_eq_none (by omega)]; rfl
    rw [e, List.take_of_length_le (by omega), List.take_of_length_le (by omega)]; simp
theorem vl_split (b : Int) (l : List Int) (k : Nat) (h : k ≤ l.length) : vl b l = vl b (l.take k) + b ^ k * vl b (l.drop k) := by
  have := vl_app b (l.take k) (l.drop k)
  rw [List.take_append_drop, List.length_take, Nat.min_eq_left h] at this
  exact this
theorem vl_set (b : Int) : ∀ (l : List Int) (k : Nat) (x : Int), k < l.length → vl b (l.set k x) = vl b l + b ^ k * (x - l.getD k 0)
  | [], k, _, h => absurd h (Nat.not_lt_zero _)
  | y :: r, 0, x, _ => by
    show x + b * vl b r = y + b * vl b r + b ^ 0 * (x - (y :: r).getD 0 0)
    simp; omega
  | y :: r, k + 1, x, h => by
    show y + b * vl b (r.set k x) = y + b * vl b r + b ^ (k + 1) * (x - (y :: r).getD (k + 1) 0)
    have e : (y :: r).getD (k + 1) 0 = r.getD k 0 := by simp
    rw [vl_set b r k x (by simpa using h), e, Int.mul_add, Int.pow_succ, Int.mul_comm (b ^ k) b, Int.mul_assoc, Int.add_assoc]
def Tm (l : List Int) : Prop := ∀ k, l.length = k + 1 → l.getD k 0 ≠ 0
def trimL (l : List Int) : Nat → List Int
  | 0 => []
  | k + 1 => if l.getD k 0 = 0 then trimL l k else l.take (k + 1)
theorem trimL_eq (l : List Int) : ∀ k, k ≤ l.length → ∃ m, m ≤ k ∧ trimL l k = l.take m ∧ (∀ j, m ≤ j → j < k → l.getD j 0 = 0) ∧ (∀ j, m = j + 1 → l.getD j 0 ≠ 0)
  | 0, _ => ⟨0, Nat.le_refl _, by simp [trimL], fun j _ h => by omega, fun j h => by omega⟩
  | k + 1, hk => by
    unfold trimL
    by_cases h : l.getD k 0 = 0
    · rw [if_pos h]
      obtain ⟨m, h1, h2, h3, h4⟩ := trimL_eq l k (by omega)
      refine ⟨m, by omega, h2, fun j g1 g2 => ?_, h4⟩
      by_cases e : j = k
      · rw [e]; exact h
      · exact h3 j g1 (by omega)
    · rw [if_neg h]
      exact ⟨k + 1, Nat.le_refl _, rfl, fun j g1 g2 => by omega, fun j e => by
        obtain rfl : j = k := by omega
        exact h⟩
theorem trim_vl {b : Int} (l : List Int) : ∀ k, k ≤ l.length → vl b (trimL l k) = vl b (l.take k)
  | 0, _ => by simp [trimL]
  | k + 1, hk => by
    unfold trimL
    by_cases h : l.getD k 0 = 0
    · rw [if_pos h, trim_vl l k (by omega), vl_take (by omega), h]; simp
    · rw [if_neg h]
theorem trim_tm (l : List Int) (k : Nat) (hk : k ≤ l.length) : Tm (trimL l k) := by
  obtain ⟨m, h1, h2, _, h4⟩ := trimL_eq l k hk
  rw [h2]
  intro j hj
  rw [List.length_take, Nat.min_eq_left (by omega)] at hj
  have := h4 j hj
  rwa [List.getD_eq_getElem?_getD, List.getElem?_take, if_pos (by omega), ← List.getD_eq_getElem?_getD]
theorem trim_dg {b : Int} {l : List Int} (h : Dg b l) (k : Nat) (hk : k ≤ l.length) : Dg b (trimL l k) := by
  obtain ⟨m, _, h2, _⟩ := trimL_eq l k hk
  rw [h2]; exact h.take _
theorem trim_id {l : List Int} (h : Tm l) : trimL l l.length = l := by
  cases hl : l.length with
  | zero => rw [List.eq_nil_of_length_eq_zero hl]; rfl
  | succ k =>
    unfold trimL
    rw [if_neg (h k hl)]
    exact List.take_of_length_le (by omega)
theorem vl_ge {b : Int} (hb : 0 < b) {l : List Int} (h : Dg b l) (ht : Tm l) {k : Nat} (hl : l.length = k + 1) : b ^ k ≤ vl b l := by
  have h1 := vl_take (b := b) (l := l) (k := k) (by omega)
  rw [List.take_of_length_le (by omega)] at h1
  have h2 := vl_nn hb (h.take k)
  have h3 := h.at' (k := k) (by omega)
  have h4 := ht k hl
  have h5 : b ^ k * 1 ≤ b ^ k * l.getD k 0 := Int.mul_le_mul_of_nonneg_left (by omega) (Int.le_of_lt (pow_pos' hb k))
  omega
theorem pow_le_pow' {b : Int} (hb : 1 ≤ b) {m n : Nat} (h : m ≤ n) : b ^ m ≤ b ^ n := by
  obtain ⟨d, rfl⟩ := Nat.exists_eq_add_of_le h
  rw [Int.pow_add]
  have h1 := pow_pos' (show 0 < b by omega) m
  have h2 := pow_pos' (show 0 < b by omega) d
  have := Int.mul_le_mul_of_nonneg_left (show 1 ≤ b ^ d by omega) (Int.le_of_lt h1)
  omega
theorem vl_short {b : Int} (hb : 1 < b) {l m : List Int} (h : Dg b l) (g : Dg b m) (ht : Tm m) (hl : l.length < m.length) : vl b l < vl b m := by
  obtain ⟨k, hk⟩ : ∃ k, m.length = k + 1 := ⟨m.length - 1, by omega⟩
  have h1 := vl_lt (show 0 < b by omega) h
  have h2 := vl_ge (show 0 < b by omega) g ht hk
  have h3 := pow_le_pow' (show 1 ≤ b by omega) (show l.length ≤ k by omega)
  omega
theorem vl_cmp {b : Int} (hb : 1 < b) {l m : List Int} (h : Dg b l) (g : Dg b m) (hl : l.length = m.length) {k : Nat} (hk : k < l.length) (hlt : l.getD k 0 < m.getD k 0) (heq : ∀ j, k < j → j < l.length → l.getD j 0 = m.getD j 0) : vl b l < vl b m := by
  have hb0 : 0 < b := by omega
  have hd : l.drop (k + 1) = m.drop (k + 1) := by
    refine List.ext_getElem (by simp [hl]) fun i h1 h2 => ?_
    rw [List.getElem_drop, List.getElem_drop, ← dg_getD, ← dg_getD]
    exact heq _ (by omega) (by simp at h1; omega)
  rw [vl_split b l (k + 1) (by omega), vl_split b m (k + 1) (by omega), hd, vl_take hk, vl_take (by omega)]
  have h1 := vl_lt hb0 (h.take k)
  rw [List.length_take, Nat.min_eq_left (by omega)] at h1
  have h2 := vl_nn hb0 (g.take k)
  have h3 : b ^ k * (l.getD k 0 + 1) ≤ b ^ k * m.getD k 0 := Int.mul_le_mul_of_nonneg_left (by omega) (Int.le_of_lt (pow_pos' hb0 k))
  rw [Int.mul_add, Int.mul_one] at h3
  omega
theorem vl_inj {b : Int} (hb : 1 < b) : ∀ {l m : List Int}, Dg b l → Dg b m → l.length = m.length → vl b l = vl b m → l = m
  | [], [], _, _, _, _ => rfl
  | [], _ :: _, _, _, h, _ => by cases h
  | _ :: _, [], _, _, h, _ => by cases h
  | x :: l, y :: m, h, g, hl, e => by
    have e : x + b * vl b l = y + b * vl b m := e
    have h1 := h.head
    have g1 := g.head
    have hx : x = y := by
      have a1 : (x + b * vl b l) % b = x := by rw [Int.add_mul_emod_self_left]; exact Int.emod_eq_of_lt h1.1 h1.2
      have a2 : (y + b * vl b m) % b = y := by rw [Int.add_mul_emod_self_left]; exact Int.emod_eq_of_lt g1.1 g1.2
      rw [← a1, ← a2, e]
    subst hx
    have e2 : b * vl b l = b * vl b m := by omega
    have e3 := Int.eq_of_mul_eq_mul_left (by omega) e2
    rw [vl_inj hb h.tail g.tail (by simpa using hl) e3]
theorem vl_unique {b : Int} (hb : 1 < b) {l m : List Int} (h : Dg b l) (g : Dg b m) (hl : Tm l) (hm : Tm m) (e : vl b l = vl b m) : l = m := by
  rcases Nat.lt_trichotomy l.length m.length with h1 | h1 | h1
  · have := vl_short hb h g hm h1; omega
  · exact vl_inj hb h g h1 e
  · have := vl_short hb g h hl h1; omega
theorem Tm.nil : Tm [] := fun k h => by cases h
section
variable {b : Int}
structure Parts (b v1 v2 v' u0 u1 u2 u' s : Int) : Prop where
  b2 : 2 ≤ b
  s1 : 1 ≤ s
  v1 : 1 ≤ v1 ∧ v1 < b
  v2 : 0 ≤ v2 ∧ v2 < b
  v' : 0 ≤ v' ∧ v' < s
  u0 : 0 ≤ u0 ∧ u0 < b
  u1 : 0 ≤ u1 ∧ u1 < b
  u2 : 0 ≤ u2 ∧ u2 < b
  u' : 0 ≤ u' ∧ u' < s
variable {v1 v2 v' u0 u1 u2 u' s : Int}
def vAll (b v1 v2 v' s : Int) : Int := (v1 * b + v2) * s + v'
def uAll (b u0 u1 u2 u' s : Int) : Int := ((u0 * b + u1) * b + u2) * s + u'
theorem mul_lt_of {a c x : Int} (h : a * x < c * x) (hx : 0 < x) : a < c := Int.lt_of_mul_lt_mul_right h (Int.le_of_lt hx)
theorem guess_hi (p : Parts b v1 v2 v' u0 u1 u2 u' s) {t q : Int} (ht : 0 ≤ t) (hq : q * vAll b v1 v2 v' s ≤ uAll b u0 u1 u2 u' s) (h : (u0 * b + u1 - t * v1) * b + u2 < t * v2) : q < t := by
  have h1 : (u0 * b + u1) * b + u2 + 1 ≤ t * (v1 * b + v2) := by
    have e1 : (u0 * b + u1 - t * v1) * b = (u0 * b + u1) * b - t * v1 * b := Int.sub_mul _ _ _
    have e2 : t * (v1 * b + v2) = t * v1 * b + t * v2 := by rw [Int.mul_add, Int.mul_assoc]
    rw [e1] at h
    rw [e2]
    omega
  have h2 := Int.mul_le_mul_of_nonneg_right h1 (show 0 ≤ s by have := p.s1; omega)
  have e3 : ((u0 * b + u1) * b + u2 + 1) * s = ((u0 * b + u1) * b + u2) * s + s := by rw [Int.add_mul _ 1, Int.one_mul]
  rw [e3] at h2
  have h3 : t * (v1 * b + v2) * s ≤ t * vAll b v1 v2 v' s := by
    rw [Int.mul_assoc]
    exact Int.mul_le_mul_of_nonneg_left (by unfold vAll; have := p.v'; omega) ht
  have h4 : uAll b u0 u1 u2 u' s < t * vAll b v1 v2 v' s := by unfold uAll; have := p.u'; omega
  have h5 : q * vAll b v1 v2 v' s < t * vAll b v1 v2 v' s := by omega
  refine mul_lt_of h5 ?_
  have := p.v1
  have h6 : 0 < v1 * b + v2 := by
    have := Int.mul_pos (show 0 < v1 by omega) (show 0 < b by have := p.b2; omega)
    have := p.v2; omega
  have h7 := Int.mul_pos h6 (show 0 < s by have := p.s1; omega)
  unfold vAll
  have := p.v'
  omega
theorem guess_lo (p : Parts b v1 v2 v' u0 u1 u2 u' s) {t : Int} (ht : 0 ≤ t ∧ t < b) (h : t * v2 ≤ (u0 * b + u1 - t * v1) * b + u2) : (t - 1) * vAll b v1 v2 v' s ≤ uAll b u0 u1 u2 u' s := by
  have e1 : (u0 * b + u1 - t * v1) * b = (u0 * b + u1) * b - t * v1 * b := Int.sub_mul _ _ _
  have e2 : t * (v1 * b + v2) = t * v1 * b + t * v2 := by rw [Int.mul_add, Int.mul_assoc]
  have h1 : t * (v1 * b + v2) ≤ (u0 * b + u1) * b + u2 := by rw [e2]; rw [e1] at h; omega
  have h2 := Int.mul_le_mul_of_nonneg_right h1 (show 0 ≤ s by have := p.s1; omega)
  have h3 : t * v' ≤ (b - 1) * s := by
    have a := Int.mul_le_mul_of_nonneg_right (show t ≤ b - 1 by omega) p.v'.1
    have c := Int.mul_le_mul_of_nonneg_left (show v' ≤ s by have := p.v'; omega) (show 0 ≤ b - 1 by have := p.b2; omega)
    omega
  have h4 : b * s ≤ vAll b v1 v2 v' s := by
    have a := Int.mul_le_mul_of_nonneg_right p.v1.1 (show 0 ≤ b by have := p.b2; omega)
    rw [Int.one_mul] at a
    have c := Int.mul_le_mul_of_nonneg_right (show b ≤ v1 * b + v2 by have := p.v2; omega) (show 0 ≤ s by have := p.s1; omega)
    unfold vAll
    have := p.v'
    omega
  have e3 : (t - 1) * vAll b v1 v2 v' s = t * vAll b v1 v2 v' s - vAll b v1 v2 v' s := by rw [Int.sub_mul, Int.one_mul]
  have e4 : t * vAll b v1 v2 v' s = t * (v1 * b + v2) * s + t * v' := by unfold vAll; rw [Int.mul_add, Int.mul_assoc]
  have e5 : (b - 1) * s = b * s - s := by rw [Int.sub_mul, Int.one_mul]
  rw [e3, e4]
  unfold uAll
  have := p.u'
  have := p.s1
  omega
theorem guess_far (p : Parts b v1 v2 v' u0 u1 u2 u' s) {t : Int} (ht : 0 ≤ t ∧ t < b) (h : b ≤ u0 * b + u1 - t * v1) : t * v2 ≤ (u0 * b + u1 - t * v1) * b + u2 := by
  have h1 : t * v2 ≤ b * b := by
    have a := Int.mul_le_mul_of_nonneg_right (show t ≤ b by omega) p.v2.1
    have c := Int.mul_le_mul_of_nonneg_left (show v2 ≤ b by have := p.v2; omega) (show 0 ≤ b by have := p.b2; omega)
    omega
  have h2 := Int.mul_le_mul_of_nonneg_right h (show 0 ≤ b by have := p.b2; omega)
  have := p.u2
  omega
theorem guess_first (p : Parts b v1 v2 v' u0 u1 u2 u' s) {q : Int} (hq0 : 0 ≤ q) (hq : q * vAll b v1 v2 v' s ≤ uAll b u0 u1 u2 u' s) : q * v1 ≤ u0 * b + u1 := by
  refine Int.not_lt.1 fun hlt => ?_
  have hb := p.b2
  have h1 : u0 * b + u1 + 1 ≤ q * v1 := hlt
  have h2 := Int.mul_le_mul_of_nonneg_right h1 (show 0 ≤ b by omega)
  have e1 : (u0 * b + u1 + 1) * b = (u0 * b + u1) * b + b := by rw [Int.add_mul _ 1, Int.one_mul]
  rw [e1] at h2
  have h3 := Int.mul_le_mul_of_nonneg_right (show (u0 * b + u1) * b + u2 + 1 ≤ q * v1 * b by have := p.u2; omega) (show 0 ≤ s by have := p.s1; omega)
  have e2 : ((u0 * b + u1) * b + u2 + 1) * s = ((u0 * b + u1) * b + u2) * s + s := by rw [Int.add_mul _ 1, Int.one_mul]
  rw [e2] at h3
  have h4 : q * v1 * b * s ≤ q * vAll b v1 v2 v' s := by
    rw [Int.mul_assoc, Int.mul_assoc]
    refine Int.mul_le_mul_of_nonneg_left ?_ hq0
    rw [← Int.mul_assoc]
    unfold vAll
    have a : v1 * b * s ≤ (v1 * b + v2) * s := Int.mul_le_mul_of_nonneg_right (by have := p.v2; omega) (by have := p.s1; omega)
    have := p.v'
    omega
  unfold uAll at hq
  have := p.u'
  omega
end
end Go.Proofs.YtjcbbabaabcdgaaGreatDoor
/- Package num: lists of words: trim, the sum. -/
namespace Go.Proofs.YtjcbbabaabcdgaaGreatDoor
open Go.RowKit Sv
set_option maxRecDepth 100000
set_option linter.unusedVariables false
noncomputable section
abbrev tU : Ty := .int .u64
abbrev uv (x : Int) : AV := .raw (.int .u64 x)
abbrev lu (l : List Int) : AV := .lst false tU l
abbrev obU (j : Nat) (l : List Int) : AV := .osl 168 tU j 0 l.length (capOf l.length)
abbrev oeU (l : List Int) : Ent := .opt 168 tU l
def dgB (l : List Int) : Bool := l.all fun x => decide (0 ≤ x) && decide (x < 18446744073709551616)
def tmB (l : List Int) : Bool := Nat.beq (trimL l l.length).length l.length
def vw (l : List Int) : Int := vl 18446744073709551616 l
noncomputable def BTrim : Code := (Tryz.f195.body).getD .skip
def trW (l : List Int) : List Int := trimL l l.length
def STrim (w : List Int) (n : Nat) : St := { n := 21, sl := [(0, lu w), (3, iv n)], en := [], next := 64 }
def STrim1 (w : List Int) (n : Nat) : St := { n := 21, sl := [(0, lu w), (3, iv ((n : Int) - 1))], en := [], next := 64 }
theorem tw_start (w : List Int)  :
    Tst.path (vrun0 Tryz.prog (ctrs []) (fl BTrim []) 2 21 [lu w]) [] (toSt Tryz.prog 21 .normal [] (STrim w w.length)) :=
  mp (an (rr w) (an (rr ((↑w.length : Int))) trivial))
theorem tw_go (w : List Int) (n : Nat) (h1 : (↑n : Int) > 0) (h2 : -9223372036854775808 ≤ (↑n : Int) - 1 ∧ (↑n : Int) - 1 ≤ 9223372036854775807) (h3 : (0 : Int) ≤ (↑n : Int) - 1) (h4 : Int.toNat ((↑n : Int) - 1) < w.length) (h5 : List.getD w (Int.toNat ((↑n : Int) - 1)) (0 : Int) = 0) :
    Tst.path (vall Tryz.prog (ctrs []) (fl BTrim [1,1,0,0,0]) (STrim w n)) [true, true, true, true, true, true, true, true] (toSt Tryz.prog 21 .normal [] (STrim1 w n)) :=
  mp (an (bT (decide_eq_true h1)) (an (bT (decide_eq_true h1)) (an (bT (decide_eq_true h1)) (an (fits_i64 h2) (an (bT (decide_eq_true h1)) (an (decide_eq_true h3) (an (decide_eq_true h4) (an (bT (decide_eq_true h1)) (an (bT (decide_eq_true h1)) (an (decide_eq_true h1) (an (beq_iff_eq.mpr h5) (an (fits_i64 h2) (an (rr w) (an (rr ((↑n : Int) - 1)) trivial))))))))))))))
theorem tw_hit (w : List Int) (n : Nat) (h1 : (↑n : Int) > 0) (h2 : -9223372036854775808 ≤ (↑n : Int) - 1 ∧ (↑n : Int) - 1 ≤ 9223372036854775807) (h3 : (0 : Int) ≤ (↑n : Int) - 1) (h4 : Int.toNat ((↑n : Int) - 1) < w.length) (h5 : ¬List.getD w (Int.toNat ((↑n : Int) - 1)) (0 : Int) = 0) :
    Tst.path (vall Tryz.prog (ctrs []) (fl BTrim [1,1,0,0,0]) (STrim w n)) [true, true, true, true, true, true, true, false] (toSt Tryz.prog 21 (.exit 0) [] (STrim w n)) :=
  mp (an (bT (decide_eq_true h1)) (an (bT (decide_eq_true h1)) (an (bT (decide_eq_true h1)) (an (fits_i64 h2) (an (bT (decide_eq_true h1)) (an (decide_eq_true h3) (an (decide_eq_true h4) (an (bT (decide_eq_true h1)) (an (bT (decide_eq_true h1)) (an (decide_eq_true h1) (an (beq_eq_false_iff_ne.mpr h5) (an (rr w) (an (rr ((↑n : Int))) trivial)))))))))))))
theorem tw_end (w : List Int) (n : Nat) (h1 : ¬(↑n : Int) > 0) :
    Tst.path (vall Tryz.prog (ctrs []) (fl BTrim [1,1,0,0,0]) (STrim w n)) [false, false, false, false, false, false, false, false] (toSt Tryz.prog 21 (.exit 0) [] (STrim w n)) :=
  mp (an (bT (decide_eq_false h1)) (an (bT (decide_eq_false h1)) (an (bT (decide_eq_false h1)) (an (bT (decide_eq_false h1)) (an (bT (decide_eq_false h1)) (an (bT (decide_eq_false h1)) (an (decide_eq_false h1) (an rf (an (rr w) (an (rr ((↑n : Int))) trivial))))))))))
theorem tw_ret (w : List Int) (n : Nat) (h1 : n ≤ w.length) (h2 : (List.drop (0 : Nat) (List.take n w)) = (List.take n w)) :
    Tst.path (vall Tryz.prog (ctrs []) (List.drop 3 (fl BTrim [])) (STrim w n)) [] (toRet Tryz.prog Tryz.f195 false (lu (w.take n))) :=
  mp (an (show (decide ((0 : Int) ≤ (↑n : Int))) = true from decide_eq_true (by omega)) (an (show (decide ((0 : Nat) ≤ n)) = true from decide_eq_true (by omega)) (an (decide_eq_true h1) h2)))
noncomputable def cTrim : Ctr := { f := 195, ps := [.list false tU], rs := [.list false tU], fresh := false, pre := fun d => decide (List.length (α := Int) d.1 ≤ 1000000), fn := fun d => (trW d.1, ()) }
theorem trim_holds (w : List Int) (hl : w.length ≤ 1000000) : Holds Tryz.prog false 195 [lu w] (lu (trW w)) := by
  refine holds_fl (c := BTrim) Tryz.func195 rfl rfl fun w0 F => ?_
  refine GoalL.to known mixed none_ok 2 _ (tw_start w) (by kernel_rfl) ?_
  refine GoalL.loop (ι := { n : Nat // n ≤ w.length ∧ trimL w n = trW w }) (id := 0) (b := cat BTrim [1,1,0,0,0]) (rest := List.drop 3 (fl BTrim [])) (by kernel_rfl) (fun n => STrim w n.1) (fun n => n.1) ⟨w.length, Nat.le_refl _, rfl⟩ (fun _ => rfl) ?_
  rintro ⟨n, hn, hv⟩
  cases n with
  | zero =>
    refine GoalL.all (s := STrim w 0) known mixed none_ok _ (tw_end w 0 (by omega)) (by kernel_rfl) ?_
    refine onN_exit (inB_exit ?_)
    have e : trW w = w.take 0 := by rw [← hv]; rfl
    rw [e]
    exact GoalL.allRet (s := STrim w 0) known mixed none_ok _ (tw_ret w 0 (by omega) rfl) fun T H h => h
  | succ k =>
    have e0 : (((k + 1 : Nat) : Int) - 1).toNat = k := by omega
    have e1 : STrim1 w (k + 1) = STrim w k := by
      unfold STrim1 STrim
      rw [show (((k + 1 : Nat) : Int) - 1) = (k : Int) by omega]
    by_cases hz : w.getD k 0 = 0
    · refine GoalL.all (s := STrim w (k + 1)) (s' := STrim1 w (k + 1)) known mixed none_ok _ (tw_go w (k + 1) (by omega) (by omega) (by omega) (by omega) (by rw [e0]; exact hz)) (by kernel_rfl) ?_
      have hv2 : trimL w k = trW w := by rw [← hv, trimL, if_pos hz]
      rw [e1]
      exact ⟨⟨k, by omega, hv2⟩, by simp, rfl, rfl⟩
    · refine GoalL.all (s := STrim w (k + 1)) known mixed none_ok _ (tw_hit w (k + 1) (by omega) (by omega) (by omega) (by omega) (by rw [e0]; exact hz)) (by kernel_rfl) ?_
      refine onN_exit (inB_exit ?_)
      have e : trW w = w.take (k + 1) := by rw [← hv, trimL, if_neg hz]
      rw [e]
      exact GoalL.allRet (s := STrim w (k + 1)) known mixed none_ok _ (tw_ret w (k + 1) (by omega) rfl) fun T H h => h
theorem cTrim_ok : cTrim.Ok Tryz.prog := fun ⟨w, _⟩ h => trim_holds w (of_decide_eq_true h)
end
end Go.Proofs.YtjcbbabaabcdgaaGreatDoor
/- Numbers as lists of digits: the list of a number; sums and differences digit by digit. -/
namespace Go.Proofs.YtjcbbabaabcdgaaGreatDoor
theorem Tm.cons {x : Int} {l : List Int} (h : Tm l) (hx : l = [] → x ≠ 0) : Tm (x :: l) := fun k hk => by
  cases l with
  | nil =>
    simp at hk
    subst hk
    exact hx rfl
  | cons y r =>
    cases k with
    | zero => simp at hk
    | succ k =>
      have := h k (by simpa using hk)
      simpa using this
theorem dg_ex {b : Int} (hb : 1 < b) : ∀ n : Nat, ∃ l, Dg b l ∧ Tm l ∧ vl b l = (n : Int) := fun n => by
  induction n using Nat.strongRecOn with
  | _ n ih =>
    by_cases h0 : n = 0
    · subst h0; exact ⟨[], Dg.nil, Tm.nil, rfl⟩
    · have hlt : ((n : Int) / b).toNat < n := by
        have h1 : (n : Int) / b < n := Int.ediv_lt_of_lt_mul (by omega) (by
          have : (n : Int) * 1 < n * b := Int.mul_lt_mul_of_pos_left hb (by omega)
          omega)
        have h2 : 0 ≤ (n : Int) / b := Int.ediv_nonneg (by omega) (by omega)
        omega
      obtain ⟨l, h1, h2, h3⟩ := ih _ hlt
      have h4 : 0 ≤ (n : Int) / b := Int.ediv_nonneg (by omega) (by omega)
      rw [Int.toNat_of_nonneg h4] at h3
      have h5 := Int.emod_nonneg (n : Int) (show b ≠ 0 by omega)
      have h6 := Int.emod_lt_of_pos (n : Int) (show 0 < b by omega)
      have h7 := Int.emod_add_mul_ediv (n : Int) b
      refine ⟨(n : Int) % b :: l, Dg.cons ⟨h5, h6⟩ h1, Tm.cons h2 fun e hz => ?_, ?_⟩
      · subst e
        have h3 : (0 : Int) = (n : Int) / b := h3
        rw [hz, ← h3] at h7
        simp at h7
        omega
      · show (n : Int) % b + b * vl b l = n
        rw [h3]; exact h7
noncomputable def dgN (b z : Int) : List Int := if h : 1 < b ∧ 0 ≤ z then Classical.choose (dg_ex h.1 z.toNat) else []
theorem dgN_spec {b z : Int} (hb : 1 < b) (hz : 0 ≤ z) : Dg b (dgN b z) ∧ Tm (dgN b z) ∧ vl b (dgN b z) = z := by
  unfold dgN
  rw [dif_pos ⟨hb, hz⟩]
  obtain ⟨h1, h2, h3⟩ := Classical.choose_spec (dg_ex hb z.toNat)
  exact ⟨h1, h2, by rw [h3]; omega⟩
theorem dgN_uniq {b z : Int} {l : List Int} (hb : 1 < b) (h1 : Dg b l) (h2 : Tm l) (h3 : vl b l = z) : l = dgN b z := by
  have hz : 0 ≤ z := by rw [← h3]; exact vl_nn (by omega) h1
  obtain ⟨g1, g2, g3⟩ := dgN_spec hb hz
  exact vl_unique hb h1 g1 h2 g2 (by rw [h3, g3])
theorem set_take {l : List Int} {i : Nat} {d : Int} : (l.set i d).take i = l.take i := by
  refine List.ext_getElem? fun j => ?_
  rw [List.getElem?_take, List.getElem?_take]
  split
  · rw [List.getElem?_set_ne (by omega)]
  · rfl
theorem set_at {l : List Int} {i : Nat} {d : Int} (h : i < l.length) : (l.set i d).getD i 0 = d := by
  rw [List.getD_eq_getElem?_getD, List.getElem?_set_self h]; rfl
theorem vl_set_next {b : Int} {l : List Int} {i : Nat} {d : Int} (h : i < l.length) : vl b ((l.set i d).take (i + 1)) = vl b (l.take i) + b ^ i * d := by
  rw [vl_take', set_take, set_at h]
theorem vl_long {b : Int} (hb : 0 < b) {l : List Int} (h : Dg b l) (k : Nat) : vl b (l.take k) ≤ vl b l := by
  by_cases hk : k ≤ l.length
  · rw [vl_split b l k hk]
    have := mul_nn (Int.le_of_lt (pow_pos' hb k)) (vl_nn hb (h.drop k))
    omega
  · rw [List.take_of_length_le (by omega)]; exact Int.le_refl _
theorem vl_low {b : Int} (hb : 0 < b) {l : List Int} (h : Dg b l) {k : Nat} (hlt : vl b l < b ^ k) : vl b (l.take k) = vl b l := by
  by_cases hk : k ≤ l.length
  · have hs := vl_split b l k hk
    have h1 := vl_nn hb (h.drop k)
    have h2 := vl_nn hb (h.take k)
    have hz : vl b (l.drop k) = 0 := by
      by_cases hz : vl b (l.drop k) = 0
      · exact hz
      · have h3 : b ^ k * 1 ≤ b ^ k * vl b (l.drop k) := Int.mul_le_mul_of_nonneg_left (by omega) (Int.le_of_lt (pow_pos' hb k))
        omega
    rw [hz] at hs
    omega
  · rw [List.take_of_length_le (by omega)]
theorem add_next {P b s c' a e c X Y O : Int} (h : s + b * c' = a + e + c) (hi : O + P * c = X + Y) : O + P * s + P * b * c' = X + P * a + (Y + P * e) := by
  have h1 : P * (s + b * c') = P * (a + e + c) := by rw [h]
  rw [Int.mul_add, Int.mul_add, Int.mul_add, ← Int.mul_assoc] at h1
  omega
theorem sub_next {P b s c' a e c X Y O : Int} (h : s - b * c' = a - e - c) (hi : O - P * c = X - Y) : O + P * s - P * b * c' = X + P * a - (Y + P * e) := by
  have h1 : P * (s - b * c') = P * (a - e - c) := by rw [h]
  rw [Int.mul_sub, Int.mul_sub, Int.mul_sub, ← Int.mul_assoc] at h1
  omega
end Go.Proofs.YtjcbbabaabcdgaaGreatDoor
/- Package num: the sum and the difference of lists of words. -/
namespace Go.Proofs.YtjcbbabaabcdgaaGreatDoor
open Go.RowKit Sv
set_option maxRecDepth 100000
set_option linter.unusedVariables false
noncomputable section
noncomputable def nwCs : VCaller := ctrs [cTrim]
def sumD (a b c : Int) : Int := (((a.toNat + b.toNat + c.toNat) % 2 ^ 64 : Nat) : Int)
def carD (a b c : Int) : Int := (((a.toNat + b.toNat + c.toNat) / 2 ^ 64 : Nat) : Int)
def difD (a b c : Int) : Int := (((a.toNat + 2 ^ 64 - b.toNat - c.toNat) % 2 ^ 64 : Nat) : Int)
def borD (a b c : Int) : Int := ((if a.toNat < b.toNat + c.toNat then 1 else 0 : Nat) : Int)
def zerW (n : Nat) : List Int := List.replicate n 0
noncomputable def BAdd : Code := (Tryz.f141.body).getD .skip
noncomputable def BSub : Code := (Tryz.f143.body).getD .skip
abbrev adL : List Nat := [1, 1, 1, 1, 0, 1, 0, 0]
def SAd (x y out : List Int) (c : Int) (i : Nat) : St := { n := 54, sl := [(0, lu x), (1, lu y), (5, obU 64 out), (6, uv c), (21, iv x.length), (22, iv i)], en := [(64, oeU out)], next := 65 }
def SAe (out : List Int) : St := { n := 54, sl := [(5, obU 64 out)], en := [(64, oeU out)], next := 65 }
def SAg (out : List Int) : St := { n := 54, sl := [(5, lu out)], en := [], next := 64 }
theorem ad_start (x y : List Int) (h1 : ¬(↑x.length : Int) < (↑y.length : Int)) (h2 : -9223372036854775808 ≤ (↑x.length : Int) + 1 ∧ (↑x.length : Int) + 1 ≤ 9223372036854775807) (h3 : Int.toNat ((↑x.length : Int) + 1) ≤ 1000000) (h4 : (Int.toNat ((↑x.length : Int) + 1)) = (zerW (x.length + (1 : Nat))).length) (h5 : (Cap.known (Int.toNat ((↑x.length : Int) + 1))) = (Cap.known (x.length + (1 : Nat)))) (h6 : (capOf (zerW (x.length + (1 : Nat))).length) = (capOf (x.length + (1 : Nat)))) (h7 : (List.flatten (List.replicate (Int.toNat ((↑x.length : Int) + 1)) (List.map AV.raw (Array.toList #[Value.int .u64 (0 : Int)])))) = (List.flatMap (fun x => [AV.raw (Value.int .u64 x)]) (zerW (x.length + (1 : Nat))))) (h8 : (x.length + (1 : Nat)) = (zerW (x.length + (1 : Nat))).length) :
    Tst.path (vrun0 Tryz.prog nwCs (fl BAdd []) 6 54 [lu x, lu y]) [false] (toSt Tryz.prog 54 .normal [(64, 64, some (x.length + 1))] (SAd x y (zerW (x.length + 1)) 0 0)) :=
  mp (an (decide_eq_false h1) (an (fits_i64 h2) (an (show (decide ((0 : Int) ≤ (↑x.length : Int) + 1)) = true from decide_eq_true (by omega)) (an (show (decide ((0 : Int) ≤ (↑x.length : Int) + 1)) = true from decide_eq_true (by omega)) (an (show (decide (Int.toNat ((↑x.length : Int) + 1) ≤ Int.toNat ((↑x.length : Int) + 1))) = true from decide_eq_true (by omega)) (an (show (bounded (Int.toNat ((↑x.length : Int) + 1)) (8 : Nat)) = true from bounded_of h3 (by omega)) (an (rr x) (an (rr y) (an (an h4 (an h5 h6)) (an (rr ((0 : Int))) (an (rr ((↑x.length : Int))) (an (rr ((0 : Int))) (an (an h7 h8) trivial)))))))))))))
theorem ad_swap (x y : List Int) (h1 : (↑x.length : Int) < (↑y.length : Int)) (h2 : -9223372036854775808 ≤ (↑y.length : Int) + 1 ∧ (↑y.length : Int) + 1 ≤ 9223372036854775807) (h3 : Int.toNat ((↑y.length : Int) + 1) ≤ 1000000) (h4 : (Int.toNat ((↑y.length : Int) + 1)) = (zerW (y.length + (1 : Nat))).length) (h5 : (Cap.known (Int.toNat ((↑y.length : Int) + 1))) = (Cap.known (y.length + (1 : Nat)))) (h6 : (capOf (zerW (y.length + (1 : Nat))).length) = (capOf (y.length + (1 : Nat)))) (h7 : (List.flatten (List.replicate (Int.toNat ((↑y.length : Int) + 1)) (List.map AV.raw (Array.toList #[Value.int .u64 (0 : Int)])))) = (List.flatMap (fun x => [AV.raw (Value.int .u64 x)]) (zerW (y.length + (1 : Nat))))) (h8 : (y.length + (1 : Nat)) = (zerW (y.length + (1 : Nat))).length) :
    Tst.path (vrun0 Tryz.prog nwCs (fl BAdd []) 6 54 [lu x, lu y]) [true] (toSt Tryz.prog 54 .normal [(64, 64, some (y.length + 1))] (SAd y x (zerW (y.length + 1)) 0 0)) :=
  mp (an (decide_eq_true h1) (an (fits_i64 h2) (an (show (decide ((0 : Int) ≤ (↑y.length : Int) + 1)) = true from decide_eq_true (by omega)) (an (show (decide ((0 : Int) ≤ (↑y.length : Int) + 1)) = true from decide_eq_true (by omega)) (an (show (decide (Int.toNat ((↑y.length : Int) + 1) ≤ Int.toNat ((↑y.length : Int) + 1))) = true from decide_eq_true (by omega)) (an (show (bounded (Int.toNat ((↑y.length : Int) + 1)) (8 : Nat)) = true from bounded_of h3 (by omega)) (an (rr y) (an (rr x) (an (an h4 (an h5 h6)) (an (rr ((0 : Int))) (an (rr ((↑y.length : Int))) (an (rr ((0 : Int))) (an (an h7 h8) trivial)))))))))))))
theorem ad_in0 (x y out : List Int) (i : Nat) (h1 : (↑i : Int) < (↑x.length : Int)) (h2 : (↑i : Int) < (↑y.length : Int)) (h3 : i < y.length) (h4 : i < x.length) (h5 : i < out.length) (h6 : -9223372036854775808 ≤ (↑i : Int) + 1 ∧ (↑i : Int) + 1 ≤ 9223372036854775807) (h7 : out.length = (List.set out i (sumD (List.getD x i (0 : Int)) (List.getD y i (0 : Int)) (0 : Int))).length) (h8 : (capOf out.length) = (capOf (List.set out i (sumD (List.getD x i (0 : Int)) (List.getD y i (0 : Int)) (0 : Int))).length)) (h9 : ((↑((Int.toNat (List.getD x i (0 : Int)) + Int.toNat (List.getD y i (0 : Int)) + Int.toNat (0 : Int)) / (2 : Nat) ^ (64 : Nat)) : Int)) = (carD (List.getD x i (0 : Int)) (List.getD y i (0 : Int)) (0 : Int))) (h10 : (List.set out i (↑((Int.toNat (List.getD x i (0 : Int)) + Int.toNat (List.getD y i (0 : Int)) + Int.toNat (0 : Int)) % (2 : Nat) ^ (64 : Nat)) : Int)) = (List.set out i (sumD (List.getD x i (0 : Int)) (List.getD y i (0 : Int)) (0 : Int)))) :
    Tst.path (vall Tryz.prog nwCs (fl BAdd adL) (SAd x y out 0 i)) [true, true] (toSt Tryz.prog 54 .normal [(64, 64, none)] (SAd x y (out.set i (sumD (x.getD i 0) (y.getD i 0) 0)) (carD (x.getD i 0) (y.getD i 0) 0) (i + 1))) :=
  mp (an (decide_eq_true h1) (an (decide_eq_true h2) (an (show (decide ((0 : Int) ≤ (↑i : Int))) = true from decide_eq_true (by omega)) (an (decide_eq_true h3) (an (show (decide ((0 : Int) ≤ (↑i : Int))) = true from decide_eq_true (by omega)) (an (decide_eq_true h4) (an (show (decide ((0 : Int) ≤ (↑i : Int))) = true from decide_eq_true (by omega)) (an (decide_eq_true h5) (an (show (ownHas 168 tU (optOwn (nat_lit 168) tU out) ((0 : Nat) + i)) = true from (by simp only [Nat.zero_add] <;> exact (show (ownHas 168 tU (optOwn (nat_lit 168) tU out) i) = true from (by rw [ownHas_optOwn]; exact decide_eq_true h5)))) (an (fits_i64 h6) (an (rr x) (an (rr y) (an (an (rr ((0 : Nat))) (an h7 h8)) (an h9 (an (rr ((↑x.length : Int))) (an (show ((↑i : Int) + 1) = ((↑(i + (1 : Nat)) : Int)) from (by omega)) (an (show (List.set (blkXs tU (optOwn (nat_lit 168) tU out)) ((0 : Nat) + i) (↑((Int.toNat (List.getD x i (0 : Int)) + Int.toNat (List.getD y i (0 : Int)) + Int.toNat (0 : Int)) % (2 : Nat) ^ (64 : Nat)) : Int)) = (List.set out i (sumD (List.getD x i (0 : Int)) (List.getD y i (0 : Int)) (0 : Int))) from (by simp only [blkXs_optOwn, Nat.zero_add] <;> exact h10)) trivial)))))))))))))))))
theorem ad_out0 (x y out : List Int) (i : Nat) (h1 : (↑i : Int) < (↑x.length : Int)) (h2 : ¬(↑i : Int) < (↑y.length : Int)) (h3 : i < x.length) (h4 : i < out.length) (h5 : -9223372036854775808 ≤ (↑i : Int) + 1 ∧ (↑i : Int) + 1 ≤ 9223372036854775807) (h6 : out.length = (List.set out i (sumD (List.getD x i (0 : Int)) (0 : Int) (0 : Int))).length) (h7 : (capOf out.length) = (capOf (List.set out i (sumD (List.getD x i (0 : Int)) (0 : Int) (0 : Int))).length)) (h8 : ((↑((Int.toNat (List.getD x i (0 : Int)) + Int.toNat (0 : Int) + Int.toNat (0 : Int)) / (2 : Nat) ^ (64 : Nat)) : Int)) = (carD (List.getD x i (0 : Int)) (0 : Int) (0 : Int))) (h9 : (List.set out i (↑((Int.toNat (List.getD x i (0 : Int)) + Int.toNat (0 : Int) + Int.toNat (0 : Int)) % (2 : Nat) ^ (64 : Nat)) : Int)) = (List.set out i (sumD (List.getD x i (0 : Int)) (0 : Int) (0 : Int)))) :
    Tst.path (vall Tryz.prog nwCs (fl BAdd adL) (SAd x y out 0 i)) [true, false] (toSt Tryz.prog 54 .normal [(64, 64, none)] (SAd x y (out.set i (sumD (x.getD i 0) 0 0)) (carD (x.getD i 0) 0 0) (i + 1))) :=
  mp (an (decide_eq_true h1) (an (decide_eq_false h2) (an (show (decide ((0 : Int) ≤ (↑i : Int))) = true from decide_eq_true (by omega)) (an (decide_eq_true h3) (an (show (decide ((0 : Int) ≤ (↑i : Int))) = true from decide_eq_true (by omega)) (an (decide_eq_true h4) (an (show (ownHas 168 tU (optOwn (nat_lit 168) tU out) ((0 : Nat) + i)) = true from (by simp only [Nat.zero_add] <;> exact (show (ownHas 168 tU (optOwn (nat_lit 168) tU out) i) = true from (by rw [ownHas_optOwn]; exact decide_eq_true h4)))) (an (fits_i64 h5) (an (rr x) (an (rr y) (an (an (rr ((0 : Nat))) (an h6 h7)) (an h8 (an (rr ((↑x.length : Int))) (an (show ((↑i : Int) + 1) = ((↑(i + (1 : Nat)) : Int)) from (by omega)) (an (show (List.set (blkXs tU (optOwn (nat_lit 168) tU out)) ((0 : Nat) + i) (↑((Int.toNat (List.getD x i (0 : Int)) + Int.toNat (0 : Int) + Int.toNat (0 : Int)) % (2 : Nat) ^ (64 : Nat)) : Int)) = (List.set out i (sumD (List.getD x i (0 : Int)) (0 : Int) (0 : Int))) from (by simp only [blkXs_optOwn, Nat.zero_add] <;> exact h9)) trivial)))))))))))))))
theorem ad_in1 (x y out : List Int) (i : Nat) (h1 : (↑i : Int) < (↑x.length : Int)) (h2 : (↑i : Int) < (↑y.length : Int)) (h3 : i < y.length) (h4 : i < x.length) (h5 : i < out.length) (h6 : -9223372036854775808 ≤ (↑i : Int) + 1 ∧ (↑i : Int) + 1 ≤ 9223372036854775807) (h7 : out.length = (List.set out i (sumD (List.getD x i (0 : Int)) (List.getD y i (0 : Int)) (1 : Int))).length) (h8 : (capOf out.length) = (capOf (List.set out i (sumD (List.getD x i (0 : Int)) (List.getD y i (0 : Int)) (1 : Int))).length)) (h9 : ((↑((Int.toNat (List.getD x i (0 : Int)) + Int.toNat (List.getD y i (0 : Int)) + Int.toNat (1 : Int)) / (2 : Nat) ^ (64 : Nat)) : Int)) = (carD (List.getD x i (0 : Int)) (List.getD y i (0 : Int)) (1 : Int))) (h10 : (List.set out i (↑((Int.toNat (List.getD x i (0 : Int)) + Int.toNat (List.getD y i (0 : Int)) + Int.toNat (1 : Int)) % (2 : Nat) ^ (64 : Nat)) : Int)) = (List.set out i (sumD (List.getD x i (0 : Int)) (List.getD y i (0 : Int)) (1 : Int)))) :
    Tst.path (vall Tryz.prog nwCs (fl BAdd adL) (SAd x y out 1 i)) [true, true] (toSt Tryz.prog 54 .normal [(64, 64, none)] (SAd x y (out.set i (sumD (x.getD i 0) (y.getD i 0) 1)) (carD (x.getD i 0) (y.getD i 0) 1) (i + 1))) :=
  mp (an (decide_eq_true h1) (an (decide_eq_true h2) (an (show (decide ((0 : Int) ≤ (↑i : Int))) = true from decide_eq_true (by omega)) (an (decide_eq_true h3) (an (show (decide ((0 : Int) ≤ (↑i : Int))) = true from decide_eq_true (by omega)) (an (decide_eq_true h4) (an (show (decide ((0 : Int) ≤ (↑i : Int))) = true from decide_eq_true (by omega)) (an (decide_eq_true h5) (an (show (ownHas 168 tU (optOwn (nat_lit 168) tU out) ((0 : Nat) + i)) = true from (by simp only [Nat.zero_add] <;> exact (show (ownHas 168 tU (optOwn (nat_lit 168) tU out) i) = true from (by rw [ownHas_optOwn]; exact decide_eq_true h5)))) (an (fits_i64 h6) (an (rr x) (an (rr y) (an (an (rr ((0 : Nat))) (an h7 h8)) (an h9 (an (rr ((↑x.length : Int))) (an (show ((↑i : Int) + 1) = ((↑(i + (1 : Nat)) : Int)) from (by omega)) (an (show (List.set (blkXs tU (optOwn (nat_lit 168) tU out)) ((0 : Nat) + i) (↑((Int.toNat (List.getD x i (0 : Int)) + Int.toNat (List.getD y i (0 : Int)) + Int.toNat (1 : Int)) % (2 : Nat) ^ (64 : Nat)) : Int)) = (List.set out i (sumD (List.getD x i (0 : Int)) (List.getD y i (0 : Int)) (1 : Int))) from (by simp only [blkXs_optOwn, Nat.zero_add] <;> exact h10)) trivial)))))))))))))))))
theorem ad_out1 (x y out : List Int) (i : Nat) (h1 : (↑i : Int) < (↑x.length : Int)) (h2 : ¬(↑i : Int) < (↑y.length : Int)) (h3 : i < x.length) (h4 : i < out.length) (h5 : -9223372036854775808 ≤ (↑i : Int) + 1 ∧ (↑i : Int) + 1 ≤ 9223372036854775807) (h6 : out.length = (List.set out i (sumD (List.getD x i (0 : Int)) (0 : Int) (1 : Int))).length) (h7 : (capOf out.length) = (capOf (List.set out i (sumD (List.getD x i (0 : Int)) (0 : Int) (1 : Int))).length)) (h8 : ((↑((Int.toNat (List.getD x i (0 : Int)) + Int.toNat (0 : Int) + Int.toNat (1 : Int)) / (2 : Nat) ^ (64 : Nat)) : Int)) = (carD (List.getD x i (0 : Int)) (0 : Int) (1 : Int))) (h9 : (List.set out i (↑((Int.toNat (List.getD x i (0 : Int)) + Int.toNat (0 : Int) + Int.toNat (1 : Int)) % (2 : Nat) ^ (64 : Nat)) : Int)) = (List.set out i (sumD (List.getD x i (0 : Int)) (0 : Int) (1 : Int)))) :
    Tst.path (vall Tryz.prog nwCs (fl BAdd adL) (SAd x y out 1 i)) [true, false] (toSt Tryz.prog 54 .normal [(64, 64, none)] (SAd x y (out.set i (sumD (x.getD i 0) 0 1)) (carD (x.getD i 0) 0 1) (i + 1))) :=
  mp (an (decide_eq_true h1) (an (decide_eq_false h2) (an (show (decide ((0 : Int) ≤ (↑i : Int))) = true from decide_eq_true (by omega)) (an (decide_eq_true h3) (an (show (decide ((0 : Int) ≤ (↑i : Int))) = true from decide_eq_true (by omega)) (an (decide_eq_true h4) (an (show (ownHas 168 tU (optOwn (nat_lit 168) tU out) ((0 : Nat) + i)) = true from (by simp only [Nat.zero_add] <;> exact (show (ownHas 168 tU (optOwn (nat_lit 168) tU out) i) = true from (by rw [ownHas_optOwn]; exact decide_eq_true h4)))) (an (fits_i64 h5) (an (rr x) (an (rr y) (an (an (rr ((0 : Nat))) (an h6 h7)) (an h8 (an (rr ((↑x.length : Int))) (an (show ((↑i : Int) + 1) = ((↑(i + (1 : Nat)) : Int)) from (by omega)) (an (show (List.set (blkXs tU (optOwn (nat_lit 168) tU out)) ((0 : Nat) + i) (↑((Int.toNat (List.getD x i (0 : Int)) + Int.toNat (0 : Int) + Int.toNat (1 : Int)) % (2 : Nat) ^ (64 : Nat)) : Int)) = (List.set out i (sumD (List.getD x i (0 : Int)) (0 : Int) (1 : Int))) from (by simp only [blkXs_optOwn, Nat.zero_add] <;> exact h9)) trivial)))))))))))))))
theorem ad_end (x y out : List Int) (c : Int) (i : Nat) (h1 : ¬(↑i : Int) < (↑x.length : Int)) :
    Tst.path (vall Tryz.prog nwCs (fl BAdd adL) (SAd x y out c i)) [false] (toSt Tryz.prog 54 (.exit 0) [(64, 64, none)] (SAd x y out c i)) :=
  mp (an (decide_eq_false h1) (an (rr x) (an (rr y) (an (an (rr ((0 : Nat))) (an (rr out.length) (rr (capOf out.length)))) (an (rr c) (an (rr ((↑x.length : Int))) (an (rr ((↑i : Int))) (an (show (fitOpt Tryz.prog none (optOwn (nat_lit 168) tU out) (nat_lit 168) tU out) from (fitOpt_refl _ _ _ _)) trivial))))))))
theorem ad_fin (x y out : List Int) (c : Int) (i : Nat) (h1 : x.length < out.length) (h2 : out.length = (List.set out x.length c).length) (h3 : (capOf out.length) = (capOf (List.set out x.length c).length)) :
    Tst.path (vrun Tryz.prog nwCs (List.drop 7 (fl BAdd [])) 1 (SAd x y out c i)) [] (toSt Tryz.prog 54 .normal [(64, 64, none)] (SAe (out.set x.length c))) :=
  mp (an (show (decide ((0 : Int) ≤ (↑x.length : Int))) = true from decide_eq_true (by omega)) (an (decide_eq_true h1) (an (show (ownHas 168 tU (optOwn (nat_lit 168) tU out) ((0 : Nat) + x.length)) = true from (by simp only [Nat.zero_add] <;> exact (show (ownHas 168 tU (optOwn (nat_lit 168) tU out) x.length) = true from (by rw [ownHas_optOwn]; exact decide_eq_true h1)))) (an (an (rr ((0 : Nat))) (an h2 h3)) (an (show (List.set (blkXs tU (optOwn (nat_lit 168) tU out)) ((0 : Nat) + x.length) c) = (List.set out x.length c) from (by simp only [blkXs_optOwn, Nat.zero_add] <;> rfl)) trivial)))))
theorem ad_fit (out : List Int)  :
    Tst.path ((Tst.ret (R.normal ((SAe out).T.set 5 (some (lu out))) ((SAe out).H.drop 64) []) : Tst R)) [] (toSt Tryz.prog 54 .normal [] (SAg out)) :=
  mp (an (rr out) trivial)
theorem ad_ret (out : List Int) (h1 : out.length ≤ (1000000 : Nat)) :
    Tst.path (vall Tryz.prog nwCs (List.drop 8 (fl BAdd [])) (SAg out)) [] (toRet Tryz.prog Tryz.f141 false (lu (trW out))) :=
  mp (an (decide_eq_true h1) (rr (trW out)))
abbrev sbL : List Nat := [1, 1, 1, 0, 1, 0, 0]
def SSb (x y out : List Int) (c : Int) (i : Nat) : St := { n := 41, sl := [(0, lu x), (1, lu y), (5, obU 64 out), (6, uv c), (13, iv x.length), (14, iv i)], en := [(64, oeU out)], next := 65 }
def SSg (out : List Int) : St := { n := 41, sl := [(5, lu out)], en := [], next := 64 }
theorem sb_start (x y : List Int) (h1 : x.length ≤ 1000000) (h2 : x.length = (zerW x.length).length) (h3 : (capOf (zerW x.length).length) = (capOf x.length)) (h4 : (List.flatten (List.replicate x.length (List.map AV.raw (Array.toList #[Value.int .u64 (0 : Int)])))) = (List.flatMap (fun x => [AV.raw (Value.int .u64 x)]) (zerW x.length))) :
    Tst.path (vrun0 Tryz.prog nwCs (fl BSub []) 4 41 [lu x, lu y]) [] (toSt Tryz.prog 41 .normal [(64, 64, some x.length)] (SSb x y (zerW x.length) 0 0)) :=
  mp (an (show (decide ((0 : Int) ≤ (↑x.length : Int))) = true from decide_eq_true (by omega)) (an (show (decide ((0 : Int) ≤ (↑x.length : Int))) = true from decide_eq_true (by omega)) (an (show (decide (x.length ≤ x.length)) = true from decide_eq_true (by omega)) (an (show (bounded x.length (8 : Nat)) = true from bounded_of h1 (by omega)) (an (rr x) (an (rr y) (an (an h2 (an (rr (Cap.known x.length)) h3)) (an (rr ((0 : Int))) (an (rr ((↑x.length : Int))) (an (rr ((0 : Int))) (an (an h4 h2) trivial)))))))))))
theorem sb_in0 (x y out : List Int) (i : Nat) (h1 : (↑i : Int) < (↑x.length : Int)) (h2 : (↑i : Int) < (↑y.length : Int)) (h3 : i < y.length) (h4 : i < x.length) (h5 : i < out.length) (h6 : -9223372036854775808 ≤ (↑i : Int) + 1 ∧ (↑i : Int) + 1 ≤ 9223372036854775807) (h7 : out.length = (List.set out i (difD (List.getD x i (0 : Int)) (List.getD y i (0 : Int)) (0 : Int))).length) (h8 : (capOf out.length) = (capOf (List.set out i (difD (List.getD x i (0 : Int)) (List.getD y i (0 : Int)) (0 : Int))).length)) (h9 : ((↑(if Int.toNat (List.getD x i (0 : Int)) < Int.toNat (List.getD y i (0 : Int)) + Int.toNat (0 : Int) then (1 : Nat) else (0 : Nat)) : Int)) = (borD (List.getD x i (0 : Int)) (List.getD y i (0 : Int)) (0 : Int))) (h10 : (List.set out i (↑((Int.toNat (List.getD x i (0 : Int)) + (2 : Nat) ^ (64 : Nat) - Int.toNat (List.getD y i (0 : Int)) - Int.toNat (0 : Int)) % (2 : Nat) ^ (64 : Nat)) : Int)) = (List.set out i (difD (List.getD x i (0 : Int)) (List.getD y i (0 : Int)) (0 : Int)))) :
    Tst.path (vall Tryz.prog nwCs (fl BSub sbL) (SSb x y out 0 i)) [true, true] (toSt Tryz.prog 41 .normal [(64, 64, none)] (SSb x y (out.set i (difD (x.getD i 0) (y.getD i 0) 0)) (borD (x.getD i 0) (y.getD i 0) 0) (i + 1))) :=
  mp (an (decide_eq_true h1) (an (decide_eq_true h2) (an (show (decide ((0 : Int) ≤ (↑i : Int))) = true from decide_eq_true (by omega)) (an (decide_eq_true h3) (an (show (decide ((0 : Int) ≤ (↑i : Int))) = true from decide_eq_true (by omega)) (an (decide_eq_true h4) (an (show (decide ((0 : Int) ≤ (↑i : Int))) = true from decide_eq_true (by omega)) (an (decide_eq_true h5) (an (show (ownHas 168 tU (optOwn (nat_lit 168) tU out) ((0 : Nat) + i)) = true from (by simp only [Nat.zero_add] <;> exact (show (ownHas 168 tU (optOwn (nat_lit 168) tU out) i) = true from (by rw [ownHas_optOwn]; exact decide_eq_true h5)))) (an (fits_i64 h6) (an (rr x) (an (rr y) (an (an (rr ((0 : Nat))) (an h7 h8)) (an h9 (an (rr ((↑x.length : Int))) (an (show ((↑i : Int) + 1) = ((↑(i + (1 : Nat)) : Int)) from (by omega)) (an (show (List.set (blkXs tU (optOwn (nat_lit 168) tU out)) ((0 : Nat) + i) (↑((Int.toNat (List.getD x i (0 : Int)) + (2 : Nat) ^ (64 : Nat) - Int.toNat (List.getD y i (0 : Int)) - Int.toNat (0 : Int)) % (2 : Nat) ^ (64 : Nat)) : Int)) = (List.set out i (difD (List.getD x i (0 : Int)) (List.getD y i (0 : Int)) (0 : Int))) from (by simp only [blkXs_optOwn, Nat.zero_add] <;> exact h10)) trivial)))))))))))))))))
theorem sb_out0 (x y out : List Int) (i : Nat) (h1 : (↑i : Int) < (↑x.length : Int)) (h2 : ¬(↑i : Int) < (↑y.length : Int)) (h3 : i < x.length) (h4 : i < out.length) (h5 : -9223372036854775808 ≤ (↑i : Int) + 1 ∧ (↑i : Int) + 1 ≤ 9223372036854775807) (h6 : out.length = (List.set out i (difD (List.getD x i (0 : Int)) (0 : Int) (0 : Int))).length) (h7 : (capOf out.length) = (capOf (List.set out i (difD (List.getD x i (0 : Int)) (0 : Int) (0 : Int))).length)) (h8 : ((↑(if Int.toNat (List.getD x i (0 : Int)) < Int.toNat (0 : Int) + Int.toNat (0 : Int) then (1 : Nat) else (0 : Nat)) : Int)) = (borD (List.getD x i (0 : Int)) (0 : Int) (0 : Int))) (h9 : (List.set out i (↑((Int.toNat (List.getD x i (0 : Int)) + (2 : Nat) ^ (64 : Nat) - Int.toNat (0 : Int) - Int.toNat (0 : Int)) % (2 : Nat) ^ (64 : Nat)) : Int)) = (List.set out i (difD (List.getD x i (0 : Int)) (0 : Int) (0 : Int)))) :
    Tst.path (vall Tryz.prog nwCs (fl BSub sbL) (SSb x y out 0 i)) [true, false] (toSt Tryz.prog 41 .normal [(64, 64, none)] (SSb x y (out.set i (difD (x.getD i 0) 0 0)) (borD (x.getD i 0) 0 0) (i + 1))) :=
  mp (an (decide_eq_true h1) (an (decide_eq_false h2) (an (show (decide ((0 : Int) ≤ (↑i : Int))) = true from decide_eq_true (by omega)) (an (decide_eq_true h3) (an (show (decide ((0 : Int) ≤ (↑i : Int))) = true from decide_eq_true (by omega)) (an (decide_eq_true h4) (an (show (ownHas 168 tU (optOwn (nat_lit 168) tU out) ((0 : Nat) + i)) = true from (by simp only [Nat.zero_add] <;> exact (show (ownHas 168 tU (optOwn (nat_lit 168) tU out) i) = true from (by rw [ownHas_optOwn]; exact decide_eq_true h4)))) (an (fits_i64 h5) (an (rr x) (an (rr y) (an (an (rr ((0 : Nat))) (an h6 h7)) (an h8 (an (rr ((↑x.length : Int))) (an (show ((↑i : Int) + 1) = ((↑(i + (1 : Nat)) : Int)) from (by omega)) (an (show (List.set (blkXs tU (optOwn (nat_lit 168) tU out)) ((0 : Nat) + i) (↑((Int.toNat (List.getD x i (0 : Int)) + (2 : Nat) ^ (64 : Nat) - Int.toNat (0 : Int) - Int.toNat (0 : Int)) % (2 : Nat) ^ (64 : Nat)) : Int)) = (List.set out i (difD (List.getD x i (0 : Int)) (0 : Int) (0 : Int))) from (by simp only [blkXs_optOwn, Nat.zero_add] <;> exact h9)) trivial)))))))))))))))
theorem sb_in1 (x y out : List Int) (i : Nat) (h1 : (↑i : Int) < (↑x.length : Int)) (h2 : (↑i : Int) < (↑y.length : Int)) (h3 : i < y.length) (h4 : i < x.length) (h5 : i < out.length) (h6 : -9223372036854775808 ≤ (↑i : Int) + 1 ∧ (↑i : Int) + 1 ≤ 9223372036854775807) (h7 : out.length = (List.set out i (difD (List.getD x i (0 : Int)) (List.getD y i (0 : Int)) (1 : Int))).length) (h8 : (capOf out.length) = (capOf (List.set out i (difD (List.getD x i (0 : Int)) (List.getD y i (0 : Int)) (1 : Int))).length)) (h9 : ((↑(if Int.toNat (List.getD x i (0 : Int)) < Int.toNat (List.getD y i (0 : Int)) + Int.toNat (1 : Int) then (1 : Nat) else (0 : Nat)) : Int)) = (borD (List.getD x i (0 : Int)) (List.getD y i (0 : Int)) (1 : Int))) (h10 : (List.set out i (↑((Int.toNat (List.getD x i (0 : Int)) + (2 : Nat) ^ (64 : Nat) - Int.toNat (List.getD y i (0 : Int)) - Int.toNat (1 : Int)) % (2 : Nat) ^ (64 : Nat)) : Int)) = (List.set out i (difD (List.getD x i (0 : Int)) (List.getD y i (0 : Int)) (1 : Int)))) :
    Tst.path (vall Tryz.prog nwCs (fl BSub sbL) (SSb x y out 1 i)) [true, true] (toSt Tryz.prog 41 .normal [(64, 64, none)] (SSb x y (out.set i (difD (x.getD i 0) (y.getD i 0) 1)) (borD (x.getD i 0) (y.getD i 0) 1) (i + 1))) :=
  mp (an (decide_eq_true h1) (an (decide_eq_true h2) (an (show (decide ((0 : Int) ≤ (↑i : Int))) = true from decide_eq_true (by omega)) (an (decide_eq_true h3) (an (show (decide ((0 : Int) ≤ (↑i : Int))) = true from decide_eq_true (by omega)) (an (decide_eq_true h4) (an (show (decide ((0 : Int) ≤ (↑i : Int))) = true from decide_eq_true (by omega)) (an (decide_eq_true h5) (an (show (ownHas 168 tU (optOwn (nat_lit 168) tU out) ((0 : Nat) + i)) = true from (by simp only [Nat.zero_add] <;> exact (show (ownHas 168 tU (optOwn (nat_lit 168) tU out) i) = true from (by rw [ownHas_optOwn]; exact decide_eq_true h5)))) (an (fits_i64 h6) (an (rr x) (an (rr y) (an (an (rr ((0 : Nat))) (an h7 h8)) (an h9 (an (rr ((↑x.length : Int))) (an (show ((↑i : Int) + 1) = ((↑(i + (1 : Nat)) : Int)) from (by omega)) (an (show (List.set (blkXs tU (optOwn (nat_lit 168) tU out)) ((0 : Nat) + i) (↑((Int.toNat (List.getD x i (0 : Int)) + (2 : Nat) ^ (64 : Nat) - Int.toNat (List.getD y i (0 : Int)) - Int.toNat (1 : Int)) % (2 : Nat) ^ (64 : Nat)) : Int)) = (List.set out i (difD (List.getD x i (0 : Int)) (List.getD y i (0 : Int)) (1 : Int))) from (by simp only [blkXs_optOwn, Nat.zero_add] <;> exact h10)) trivial)))))))))))))))))
theorem sb_out1 (x y out : List Int) (i : Nat) (h1 : (↑i : Int) < (↑x.length : Int)) (h2 : ¬(↑i : Int) < (↑y.length : Int)) (h3 : i < x.length) (h4 : i < out.length) (h5 : -9223372036854775808 ≤ (↑i : Int) + 1 ∧ (↑i : Int) + 1 ≤ 9223372036854775807) (h6 : out.length = (List.set out i (difD (List.getD x i (0 : Int)) (0 : Int) (1 : Int))).length) (h7 : (capOf out.length) = (capOf (List.set out i (difD (List.getD x i (0 : Int)) (0 : Int) (1 : Int))).length)) (h8 : ((↑(if Int.toNat (List.getD x i (0 : Int)) < Int.toNat (0 : Int) + Int.toNat (1 : Int) then (1 : Nat) else (0 : Nat)) : Int)) = (borD (List.getD x i (0 : Int)) (0 : Int) (1 : Int))) (h9 : (List.set out i (↑((Int.toNat (List.getD x i (0 : Int)) + (2 : Nat) ^ (64 : Nat) - Int.toNat (0 : Int) - Int.toNat (1 : Int)) % (2 : Nat) ^ (64 : Nat)) : Int)) = (List.set out i (difD (List.getD x i (0 : Int)) (0 : Int) (1 : Int)))) :
    Tst.path (vall Tryz.prog nwCs (fl BSub sbL) (SSb x y out 1 i)) [true, false] (toSt Tryz.prog 41 .normal [(64, 64, none)] (SSb x y (out.set i (difD (x.getD i 0) 0 1)) (borD (x.getD i 0) 0 1) (i + 1))) :=
  mp (an (decide_eq_true h1) (an (decide_eq_false h2) (an (show (decide ((0 : Int) ≤ (↑i : Int))) = true from decide_eq_true (by omega)) (an (decide_eq_true h3) (an (show (decide ((0 : Int) ≤ (↑i : Int))) = true from decide_eq_true (by omega)) (an (decide_eq_true h4) (an (show (ownHas 168 tU (optOwn (nat_lit 168) tU out) ((0 : Nat) + i)) = true from (by simp only [Nat.zero_add] <;> exact (show (ownHas 168 tU (optOwn (nat_lit 168) tU out) i) = true from (by rw [ownHas_optOwn]; exact decide_eq_true h4)))) (an (fits_i64 h5) (an (rr x) (an (rr y) (an (an (rr ((0 : Nat))) (an h6 h7)) (an h8 (an (rr ((↑x.length : Int))) (an (show ((↑i : Int) + 1) = ((↑(i + (1 : Nat)) : Int)) from (by omega)) (an (show (List.set (blkXs tU (optOwn (nat_lit 168) tU out)) ((0 : Nat) + i) (↑((Int.toNat (List.getD x i (0 : Int)) + (2 : Nat) ^ (64 : Nat) - Int.toNat (0 : Int) - Int.toNat (1 : Int)) % (2 : Nat) ^ (64 : Nat)) : Int)) = (List.set out i (difD (List.getD x i (0 : Int)) (0 : Int) (1 : Int))) from (by simp only [blkXs_optOwn, Nat.zero_add] <;> exact h9)) trivial)))))))))))))))
theorem sb_end (x y out : List Int) (c : Int) (i : Nat) (h1 : ¬(↑i : Int) < (↑x.length : Int)) :
    Tst.path (vall Tryz.prog nwCs (fl BSub sbL) (SSb x y out c i)) [false] (toSt Tryz.prog 41 (.exit 0) [(64, 64, none)] (SSb x y out c i)) :=
  mp (an (decide_eq_false h1) (an (rr x) (an (rr y) (an (an (rr ((0 : Nat))) (an (rr out.length) (rr (capOf out.length)))) (an (rr c) (an (rr ((↑x.length : Int))) (an (rr ((↑i : Int))) (an (show (fitOpt Tryz.prog none (optOwn (nat_lit 168) tU out) (nat_lit 168) tU out) from (fitOpt_refl _ _ _ _)) trivial))))))))
theorem sb_fit (x y out : List Int) (c : Int) (i : Nat)  :
    Tst.path ((Tst.ret (R.normal ((SSb x y out c i).T.set 5 (some (lu out))) ((SSb x y out c i).H.drop 64) []) : Tst R)) [] (toSt Tryz.prog 41 .normal [] (SSg out)) :=
  mp (an (rr out) trivial)
theorem sb_ret (out : List Int) (h1 : out.length ≤ (1000000 : Nat)) :
    Tst.path (vall Tryz.prog nwCs (List.drop 5 (fl BSub [])) (SSg out)) [] (toRet Tryz.prog Tryz.f143 false (lu (trW out))) :=
  mp (an (decide_eq_true h1) (rr (trW out)))
def okW2 (x y : List Int) : Bool := dgB x && (dgB y && (decide (x.length ≤ 400000) && decide (y.length ≤ 400000)))
def addW (x y : List Int) : List Int := dgN 18446744073709551616 (vw x + vw y)
def subW (x y : List Int) : List Int := dgN 18446744073709551616 (vw x - vw y)
noncomputable def cAddW : Ctr := { f := 141, ps := [.list false tU, .list false tU], rs := [.list false tU], fresh := false, pre := fun d => okW2 d.1 d.2.1, fn := fun d => (addW d.1 d.2.1, ()) }
noncomputable def cSubW : Ctr := { f := 143, ps := [.list false tU, .list false tU], rs := [.list false tU], fresh := false, pre := fun d => okW2 d.1 d.2.1 && decide (vw d.2.1 ≤ vw d.1), fn := fun d => (subW d.1 d.2.1, ()) }
theorem nw_ok : CallOk Tryz.prog (gS nwCs) := one_ok cTrim_ok
theorem dgB_iff {l : List Int} : dgB l = true ↔ Dg 18446744073709551616 l := by
  unfold dgB Dg
  simp only [List.all_eq_true, Bool.and_eq_true, decide_eq_true_eq]
theorem b64_pos : (1 : Int) < 18446744073709551616 := by decide
theorem sum_car {a b c : Int} (ha : 0 ≤ a ∧ a < 18446744073709551616) (hb : 0 ≤ b ∧ b < 18446744073709551616) (hc : c = 0 ∨ c = 1) :
    sumD a b c + 18446744073709551616 * carD a b c = a + b + c ∧ (0 ≤ sumD a b c ∧ sumD a b c < 18446744073709551616) ∧ (carD a b c = 0 ∨ carD a b c = 1) := by
  unfold sumD carD
  rw [show (2 : Nat) ^ 64 = 18446744073709551616 from rfl]
  rcases hc with rfl | rfl <;> omega
theorem dif_bor {a b c : Int} (ha : 0 ≤ a ∧ a < 18446744073709551616) (hb : 0 ≤ b ∧ b < 18446744073709551616) (hc : c = 0 ∨ c = 1) :
    difD a b c - 18446744073709551616 * borD a b c = a - b - c ∧ (0 ≤ difD a b c ∧ difD a b c < 18446744073709551616) ∧ (borD a b c = 0 ∨ borD a b c = 1) := by
  unfold difD borD
  rw [show (2 : Nat) ^ 64 = 18446744073709551616 from rfl]
  rcases hc with rfl | rfl <;> split <;> omega
theorem zer_len (n : Nat) : (zerW n).length = n := List.length_replicate
theorem zer_dg (n : Nat) : Dg 18446744073709551616 (zerW n) := Dg.rep (by decide) n
theorem zer_cells (n : Nat) : (List.replicate n (List.map AV.raw (Array.toList #[Value.int IntKind.u64 (0 : Int)]))).flatten = (zerW n).flatMap (fun x => [AV.raw (Value.int IntKind.u64 x)]) := by
  unfold zerW
  induction n with
  | zero => rfl
  | succ n ih => rw [List.replicate_succ, List.replicate_succ, List.flatten_cons, List.flatMap_cons, ih]; rfl
theorem trW_dg {l : List Int} (h : Dg 18446744073709551616 l) : trW l = dgN 18446744073709551616 (vw l) := by
  refine dgN_uniq b64_pos (trim_dg h _ (Nat.le_refl _)) (trim_tm l _ (Nat.le_refl _)) ?_
  unfold trW vw
  rw [trim_vl l _ (Nat.le_refl _), List.take_length]
theorem get_far {l : List Int} {i : Nat} (h : ¬ i < l.length) : l.getD i 0 = 0 := by
  rw [List.getD_eq_getElem?_getD, List.getElem?_eq_none (by omega)]; rfl
theorem ad_e0 : List.drop 8 (fl BAdd []) ≠ [] := fun h => by
  have : (List.drop 8 (fl BAdd [])).isEmpty = false := by kernel_rfl
  rw [h] at this; cases this
theorem sb_e0 : List.drop 5 (fl BSub []) ≠ [] := fun h => by
  have : (List.drop 5 (fl BSub [])).isEmpty = false := by kernel_rfl
  rw [h] at this; cases this
theorem add_loop {x y : List Int} (hx : Dg 18446744073709551616 x) (hy : Dg 18446744073709551616 y) (hxy : y.length ≤ x.length) (hl : x.length ≤ 400000) (w0 : World) (F : Env) :
    GoalL Tryz.prog w0 F 54 (List.drop 6 (fl BAdd [])) (SAd x y (zerW (x.length + 1)) 0 0).T (SAd x y (zerW (x.length + 1)) 0 0).H (retQ Tryz.prog false Tryz.f141 (lu (dgN 18446744073709551616 (vw x + vw y)))) := by
  have hS := nw_ok
  refine GoalL.loop (ι := { s : List Int × Int × Nat // s.2.2 ≤ x.length ∧ s.1.length = x.length + 1 ∧ Dg 18446744073709551616 s.1 ∧ (s.2.1 = 0 ∨ s.2.1 = 1) ∧ vw (s.1.take s.2.2) + 18446744073709551616 ^ s.2.2 * s.2.1 = vw (x.take s.2.2) + vw (y.take s.2.2) }) (id := 0) (b := cat BAdd adL) (rest := List.drop 7 (fl BAdd [])) (by kernel_rfl) (fun s => SAd x y s.1.1 s.1.2.1 s.1.2.2) (fun s => x.length - s.1.2.2)
    ⟨(zerW (x.length + 1), 0, 0), Nat.zero_le _, zer_len _, zer_dg _, .inl rfl, by simp [vw, vl]⟩ (fun _ => rfl) ?_
  rintro ⟨⟨out, c, i⟩, hi, ho, hdg, hc, hinv⟩
  have hi : i ≤ x.length := hi
  have ho : out.length = x.length + 1 := ho
  have hdg : Dg 18446744073709551616 out := hdg
  have hc : c = 0 ∨ c = 1 := hc
  have hinv : vw (out.take i) + 18446744073709551616 ^ i * c = vw (x.take i) + vw (y.take i) := hinv
  by_cases hlt : i < x.length
  · have hxi := hx.get (by decide) i
    have hyi := hy.get (by decide) i
    obtain ⟨g1, g2, g3⟩ := sum_car hxi hyi hc
    have hnext : vw ((out.set i (sumD (x.getD i 0) (y.getD i 0) c)).take (i + 1)) + 18446744073709551616 ^ (i + 1) * carD (x.getD i 0) (y.getD i 0) c = vw (x.take (i + 1)) + vw (y.take (i + 1)) := by
      unfold vw at hinv ⊢
      rw [vl_set_next (by omega), vl_take' x i, vl_take' y i, Int.pow_succ]
      exact add_next g1 hinv
    have hfin : ∃ j : { s : List Int × Int × Nat // s.2.2 ≤ x.length ∧ s.1.length = x.length + 1 ∧ Dg 18446744073709551616 s.1 ∧ (s.2.1 = 0 ∨ s.2.1 = 1) ∧ vw (s.1.take s.2.2) + 18446744073709551616 ^ s.2.2 * s.2.1 = vw (x.take s.2.2) + vw (y.take s.2.2) }, x.length - j.1.2.2 < x.length - i ∧ (SAd x y (out.set i (sumD (x.getD i 0) (y.getD i 0) c)) (carD (x.getD i 0) (y.getD i 0) c) (i + 1)).T = (SAd x y j.1.1 j.1.2.1 j.1.2.2).T ∧ (SAd x y (out.set i (sumD (x.getD i 0) (y.getD i 0) c)) (carD (x.getD i 0) (y.getD i 0) c) (i + 1)).H = (SAd x y j.1.1 j.1.2.1 j.1.2.2).H :=
      ⟨⟨(out.set i (sumD (x.getD i 0) (y.getD i 0) c), carD (x.getD i 0) (y.getD i 0) c, i + 1), hlt, by rw [List.length_set]; exact ho, hdg.set g2, g3, hnext⟩, by simp; omega, rfl, rfl⟩
    by_cases hyl : i < y.length
    · rcases hc with rfl | rfl
      · exact GoalL.all (s := SAd x y out 0 i) (s' := SAd x y (out.set i (sumD (x.getD i 0) (y.getD i 0) 0)) (carD (x.getD i 0) (y.getD i 0) 0) (i + 1)) known mixed hS _ (ad_in0 x y out i (by omega) (by omega) hyl hlt (by omega) (by omega) (by rw [List.length_set]) (by rw [List.length_set]) rfl rfl) (by kernel_rfl) hfin
      · exact GoalL.all (s := SAd x y out 1 i) (s' := SAd x y (out.set i (sumD (x.getD i 0) (y.getD i 0) 1)) (carD (x.getD i 0) (y.getD i 0) 1) (i + 1)) known mixed hS _ (ad_in1 x y out i (by omega) (by omega) hyl hlt (by omega) (by omega) (by rw [List.length_set]) (by rw [List.length_set]) rfl rfl) (by kernel_rfl) hfin
    · rw [get_far hyl] at hfin
      rcases hc with rfl | rfl
      · exact GoalL.all (s := SAd x y out 0 i) (s' := SAd x y (out.set i (sumD (x.getD i 0) 0 0)) (carD (x.getD i 0) 0 0) (i + 1)) known mixed hS _ (ad_out0 x y out i (by omega) (by omega) hlt (by omega) (by omega) (by rw [List.length_set]) (by rw [List.length_set]) rfl rfl) (by kernel_rfl) hfin
      · exact GoalL.all (s := SAd x y out 1 i) (s' := SAd x y (out.set i (sumD (x.getD i 0) 0 1)) (carD (x.getD i 0) 0 1) (i + 1)) known mixed hS _ (ad_out1 x y out i (by omega) (by omega) hlt (by omega) (by omega) (by rw [List.length_set]) (by rw [List.length_set]) rfl rfl) (by kernel_rfl) hfin
  · refine GoalL.all (s := SAd x y out c i) known mixed hS _ (ad_end x y out c i (by omega)) (by kernel_rfl) ?_
    refine onN_exit (inB_exit ?_)
    obtain rfl : i = x.length := by omega
    have hcd : 0 ≤ c ∧ c < 18446744073709551616 := by rcases hc with rfl | rfl <;> decide
    refine GoalL.st (s := SAd x y out c x.length) (s' := SAe (out.set x.length c)) known mixed hS 1 _ (ad_fin x y out c x.length (by omega) (by rw [List.length_set]) (by rw [List.length_set])) (by kernel_rfl) ?_
    have hval : vw (out.set x.length c) = vw x + vw y := by
      rw [List.take_length, List.take_of_length_le hxy] at hinv
      rw [← hinv]
      have := vl_set_next (b := 18446744073709551616) (l := out) (i := x.length) (d := c) (by omega)
      rw [List.take_of_length_le (by rw [List.length_set]; omega)] at this
      exact this
    have hd2 := hdg.set (k := x.length) hcd
    rw [← hval, ← trW_dg hd2]
    have hlen : (out.set x.length c).length ≤ 1000000 := by rw [List.length_set]; omega
    generalize out.set x.length c = o2 at *
    refine GoalL.freezeSlot ad_e0 (i := 64) (s := 5) (e2 := 168) (t := tU) (xs := o2) (cap := capOf o2.length) (by kernel_rfl) (by kernel_rfl) ?_
    refine GoalL.refit ad_e0 (σ := []) (s := SAg o2) (ad_fit o2) ?_
    exact GoalL.allRet (s := SAg o2) known mixed hS _ (ad_ret o2 hlen) fun T H h => h
theorem addW_holds (x y : List Int) (h : okW2 x y = true) : Holds Tryz.prog false 141 [lu x, lu y] (lu (addW x y)) := by
  unfold okW2 at h
  simp only [Bool.and_eq_true, decide_eq_true_eq] at h
  obtain ⟨hx, hy, lx, ly⟩ := h
  have hx := dgB_iff.1 hx
  have hy := dgB_iff.1 hy
  have hS := nw_ok
  refine holds_fl (c := BAdd) Tryz.func141 rfl rfl fun w0 F => ?_
  by_cases hxy : x.length < y.length
  · have e1 : ((y.length : Int) + 1).toNat = y.length + 1 := by omega
    refine GoalL.to known mixed hS 6 _ (ad_swap x y (by omega) (by omega) (by omega) (by rw [zer_len, e1]) (by rw [e1]) (by rw [zer_len]) (by rw [e1]; exact zer_cells _) (by rw [zer_len])) (by kernel_rfl) ?_
    have := add_loop hy hx (by omega) ly w0 F
    unfold addW
    rw [Int.add_comm]
    exact this
  · have e1 : ((x.length : Int) + 1).toNat = x.length + 1 := by omega
    refine GoalL.to known mixed hS 6 _ (ad_start x y (by omega) (by omega) (by omega) (by rw [zer_len, e1]) (by rw [e1]) (by rw [zer_len]) (by rw [e1]; exact zer_cells _) (by rw [zer_len])) (by kernel_rfl) ?_
    exact add_loop hx hy (by omega) lx w0 F
theorem cAddW_ok : cAddW.Ok Tryz.prog := fun ⟨x, y, _⟩ h => addW_holds x y h
theorem sub_loop {x y : List Int} (hx : Dg 18446744073709551616 x) (hy : Dg 18446744073709551616 y) (hle : vw y ≤ vw x) (hl : x.length ≤ 400000) (w0 : World) (F : Env) :
    GoalL Tryz.prog w0 F 41 (List.drop 4 (fl BSub [])) (SSb x y (zerW x.length) 0 0).T (SSb x y (zerW x.length) 0 0).H (retQ Tryz.prog false Tryz.f143 (lu (dgN 18446744073709551616 (vw x - vw y)))) := by
  have hS := nw_ok
  refine GoalL.loop (ι := { s : List Int × Int × Nat // s.2.2 ≤ x.length ∧ s.1.length = x.length ∧ Dg 18446744073709551616 s.1 ∧ (s.2.1 = 0 ∨ s.2.1 = 1) ∧ vw (s.1.take s.2.2) - 18446744073709551616 ^ s.2.2 * s.2.1 = vw (x.take s.2.2) - vw (y.take s.2.2) }) (id := 0) (b := cat BSub sbL) (rest := List.drop 5 (fl BSub [])) (by kernel_rfl) (fun s => SSb x y s.1.1 s.1.2.1 s.1.2.2) (fun s => x.length - s.1.2.2)
    ⟨(zerW x.length, 0, 0), Nat.zero_le _, zer_len _, zer_dg _, .inl rfl, by simp [vw, vl]⟩ (fun _ => rfl) ?_
  rintro ⟨⟨out, c, i⟩, hi, ho, hdg, hc, hinv⟩
  have hi : i ≤ x.length := hi
  have ho : out.length = x.length := ho
  have hdg : Dg 18446744073709551616 out := hdg
  have hc : c = 0 ∨ c = 1 := hc
  have hinv : vw (out.take i) - 18446744073709551616 ^ i * c = vw (x.take i) - vw (y.take i) := hinv
  by_cases hlt : i < x.length
  · have hxi := hx.get (by decide) i
    have hyi := hy.get (by decide) i
    obtain ⟨g1, g2, g3⟩ := dif_bor hxi hyi hc
    have hnext : vw ((out.set i (difD (x.getD i 0) (y.getD i 0) c)).take (i + 1)) - 18446744073709551616 ^ (i + 1) * borD (x.getD i 0) (y.getD i 0) c = vw (x.take (i + 1)) - vw (y.take (i + 1)) := by
      unfold vw at hinv ⊢
      rw [vl_set_next (by omega), vl_take' x i, vl_take' y i, Int.pow_succ]
      exact sub_next g1 hinv
    have hfin : ∃ j : { s : List Int × Int × Nat // s.2.2 ≤ x.length ∧ s.1.length = x.length ∧ Dg 18446744073709551616 s.1 ∧ (s.2.1 = 0 ∨ s.2.1 = 1) ∧ vw (s.1.take s.2.2) - 18446744073709551616 ^ s.2.2 * s.2.1 = vw (x.take s.2.2) - vw (y.take s.2.2) }, x.length - j.1.2.2 < x.length - i ∧ (SSb x y (out.set i (difD (x.getD i 0) (y.getD i 0) c)) (borD (x.getD i 0) (y.getD i 0) c) (i + 1)).T = (SSb x y j.1.1 j.1.2.1 j.1.2.2).T ∧ (SSb x y (out.set i (difD (x.getD i 0) (y.getD i 0) c)) (borD (x.getD i 0) (y.getD i 0) c) (i + 1)).H = (SSb x y j.1.1 j.1.2.1 j.1.2.2).H :=
      ⟨⟨(out.set i (difD (x.getD i 0) (y.getD i 0) c), borD (x.getD i 0) (y.getD i 0) c, i + 1), hlt, by rw [List.length_set]; exact ho, hdg.set g2, g3, hnext⟩, by simp; omega, rfl, rfl⟩
    by_cases hyl : i < y.length
    · rcases hc with rfl | rfl
      · exact GoalL.all (s := SSb x y out 0 i) (s' := SSb x y (out.set i (difD (x.getD i 0) (y.getD i 0) 0)) (borD (x.getD i 0) (y.getD i 0) 0) (i + 1)) known mixed hS _ (sb_in0 x y out i (by omega) (by omega) hyl hlt (by omega) (by omega) (by rw [List.length_set]) (by rw [List.length_set]) rfl rfl) (by kernel_rfl) hfin
      · exact GoalL.all (s := SSb x y out 1 i) (s' := SSb x y (out.set i (difD (x.getD i 0) (y.getD i 0) 1)) (borD (x.getD i 0) (y.getD i 0) 1) (i + 1)) known mixed hS _ (sb_in1 x y out i (by omega) (by omega) hyl hlt (by omega) (by omega) (by rw [List.length_set]) (by rw [List.length_set]) rfl rfl) (by kernel_rfl) hfin
    · rw [get_far hyl] at hfin
      rcases hc with rfl | rfl
      · exact GoalL.all (s := SSb x y out 0 i) (s' := SSb x y (out.set i (difD (x.getD i 0) 0 0)) (borD (x.getD i 0) 0 0) (i + 1)) known mixed hS _ (sb_out0 x y out i (by omega) (by omega) hlt (by omega) (by omega) (by rw [List.length_set]) (by rw [List.length_set]) rfl rfl) (by kernel_rfl) hfin
      · exact GoalL.all (s := SSb x y out 1 i) (s' := SSb x y (out.set i (difD (x.getD i 0) 0 1)) (borD (x.getD i 0) 0 1) (i + 1)) known mixed hS _ (sb_out1 x y out i (by omega) (by omega) hlt (by omega) (by omega) (by rw [List.length_set]) (by rw [List.length_set]) rfl rfl) (by kernel_rfl) hfin
  · refine GoalL.all (s := SSb x y out c i) known mixed hS _ (sb_end x y out c i (by omega)) (by kernel_rfl) ?_
    refine onN_exit (inB_exit ?_)
    obtain rfl : i = x.length := by omega
    have hxl : vw x < 18446744073709551616 ^ x.length := vl_lt (by decide) hx
    have hyl : vw (y.take x.length) = vw y := vl_low (by decide) hy (show vw y < _ by omega)
    have hval : vw out = vw x - vw y := by
      have ho1 := vl_lt (by decide) hdg
      rw [ho] at ho1
      have ho1 : vw out < 18446744073709551616 ^ x.length := ho1
      rw [List.take_length, hyl, List.take_of_length_le (by omega)] at hinv
      rcases hc with rfl | rfl
      · omega
      · omega
    rw [← hval, ← trW_dg hdg]
    refine GoalL.freezeSlot sb_e0 (i := 64) (s := 5) (e2 := 168) (t := tU) (xs := out) (cap := capOf out.length) (by kernel_rfl) (by kernel_rfl) ?_
    refine GoalL.refit sb_e0 (σ := []) (s := SSg out) (sb_fit x y out c x.length) ?_
    exact GoalL.allRet (s := SSg out) known mixed hS _ (sb_ret out (by omega)) fun T H h => h
theorem subW_holds (x y : List Int) (h : (okW2 x y && decide (vw y ≤ vw x)) = true) : Holds Tryz.prog false 143 [lu x, lu y] (lu (subW x y)) := by
  unfold okW2 at h
  simp only [Bool.and_eq_true, decide_eq_true_eq] at h
  obtain ⟨⟨hx, hy, lx, ly⟩, hle⟩ := h
  have hx := dgB_iff.1 hx
  have hy := dgB_iff.1 hy
  have hS := nw_ok
  refine holds_fl (c := BSub) Tryz.func143 rfl rfl fun w0 F => ?_
  have e1 : ((x.length : Int)).toNat = x.length := by omega
  refine GoalL.to known mixed hS 4 _ (sb_start x y (by omega) (by rw [zer_len]) (by rw [zer_len]) (zer_cells _)) (by kernel_rfl) ?_
  exact sub_loop hx hy hle lx w0 F
theorem cSubW_ok : cSubW.Ok Tryz.prog := fun ⟨x, y, _⟩ h => subW_holds x y h
end
end Go.Proofs.YtjcbbabaabcdgaaGreatDoor
/- Package num: lists of words compared. -/
namespace Go.Proofs.YtjcbbabaabcdgaaGreatDoor
open Go.RowKit Sv
set_option maxRecDepth 100000
set_option linter.unusedVariables false
noncomputable section
noncomputable def BCmp : Code := (Tryz.f142.body).getD .skip
abbrev cwL : List Nat := [1, 1, 0, 1, 0, 0]
def SCw (a b : List Int) (k : Nat) : St := { n := 41, sl := [(0, lu a), (1, lu b), (5, iv ((k : Int) - 1))], en := [], next := 64 }
def SCw1 (a b : List Int) (k : Nat) : St := { n := 41, sl := [(0, lu a), (1, lu b), (5, iv ((k : Int) - 1 - 1))], en := [], next := 64 }
theorem cw_low (a b : List Int) (h1 : ¬(↑a.length : Int) = (↑b.length : Int)) (h2 : (↑a.length : Int) < (↑b.length : Int)) :
    Tst.path (vrun0 Tryz.prog (ctrs []) (fl BCmp []) 3 41 [lu a, lu b]) [true, true] (toRet Tryz.prog Tryz.f142 true (iv (-1))) :=
  mp (an (bne_iff_ne.mpr h1) (an (decide_eq_true h2) (rr ((-1 : Int)))))
theorem cw_high (a b : List Int) (h1 : ¬(↑a.length : Int) = (↑b.length : Int)) (h2 : ¬(↑a.length : Int) < (↑b.length : Int)) :
    Tst.path (vrun0 Tryz.prog (ctrs []) (fl BCmp []) 3 41 [lu a, lu b]) [true, false] (toRet Tryz.prog Tryz.f142 true (iv 1)) :=
  mp (an (bne_iff_ne.mpr h1) (an (decide_eq_false h2) (rr ((1 : Int)))))
theorem cw_start (a b : List Int) (h1 : (↑a.length : Int) = (↑b.length : Int)) (h2 : -9223372036854775808 ≤ (↑a.length : Int) - 1 ∧ (↑a.length : Int) - 1 ≤ 9223372036854775807) :
    Tst.path (vrun0 Tryz.prog (ctrs []) (fl BCmp []) 4 41 [lu a, lu b]) [false] (toSt Tryz.prog 41 .normal [] (SCw a b a.length)) :=
  mp (an (bne_eq_false_iff_eq.mpr h1) (an (fits_i64 h2) (an (rr a) (an (rr b) (an (rr ((↑a.length : Int) - 1)) trivial)))))
theorem cw_lt (a b : List Int) (k : Nat) (h1 : (↑k : Int) - 1 ≥ 0) (h2 : (0 : Int) ≤ (↑k : Int) - 1) (h3 : Int.toNat ((↑k : Int) - 1) < a.length) (h4 : Int.toNat ((↑k : Int) - 1) < b.length) (h5 : ¬List.getD a (Int.toNat ((↑k : Int) - 1)) (0 : Int) = List.getD b (Int.toNat ((↑k : Int) - 1)) (0 : Int)) (h6 : List.getD a (Int.toNat ((↑k : Int) - 1)) (0 : Int) < List.getD b (Int.toNat ((↑k : Int) - 1)) (0 : Int)) :
    Tst.path (vall Tryz.prog (ctrs []) (fl BCmp cwL) (SCw a b k)) [true, true, true] (toRet Tryz.prog Tryz.f142 true (iv (-1))) :=
  mp (an (decide_eq_true h1) (an (decide_eq_true h2) (an (decide_eq_true h3) (an (sr (AV.raw (Value.int .u64 (List.getD a (Int.toNat ((↑k : Int) - 1)) (0 : Int))))) (an (decide_eq_true h2) (an (decide_eq_true h4) (an (sr (AV.raw (Value.int .u64 (List.getD b (Int.toNat ((↑k : Int) - 1)) (0 : Int))))) (an (bne_iff_ne.mpr h5) (an (decide_eq_true h2) (an (decide_eq_true h3) (an (sr (AV.raw (Value.int .u64 (List.getD a (Int.toNat ((↑k : Int) - 1)) (0 : Int))))) (an (decide_eq_true h2) (an (decide_eq_true h4) (an (sr (AV.raw (Value.int .u64 (List.getD b (Int.toNat ((↑k : Int) - 1)) (0 : Int))))) (an (decide_eq_true h6) (rr ((-1 : Int))))))))))))))))))
theorem cw_gt (a b : List Int) (k : Nat) (h1 : (↑k : Int) - 1 ≥ 0) (h2 : (0 : Int) ≤ (↑k : Int) - 1) (h3 : Int.toNat ((↑k : Int) - 1) < a.length) (h4 : Int.toNat ((↑k : Int) - 1) < b.length) (h5 : ¬List.getD a (Int.toNat ((↑k : Int) - 1)) (0 : Int) = List.getD b (Int.toNat ((↑k : Int) - 1)) (0 : Int)) (h6 : ¬List.getD a (Int.toNat ((↑k : Int) - 1)) (0 : Int) < List.getD b (Int.toNat ((↑k : Int) - 1)) (0 : Int)) :
    Tst.path (vall Tryz.prog (ctrs []) (fl BCmp cwL) (SCw a b k)) [true, true, false] (toRet Tryz.prog Tryz.f142 true (iv 1)) :=
  mp (an (decide_eq_true h1) (an (decide_eq_true h2) (an (decide_eq_true h3) (an (sr (AV.raw (Value.int .u64 (List.getD a (Int.toNat ((↑k : Int) - 1)) (0 : Int))))) (an (decide_eq_true h2) (an (decide_eq_true h4) (an (sr (AV.raw (Value.int .u64 (List.getD b (Int.toNat ((↑k : Int) - 1)) (0 : Int))))) (an (bne_iff_ne.mpr h5) (an (decide_eq_true h2) (an (decide_eq_true h3) (an (sr (AV.raw (Value.int .u64 (List.getD a (Int.toNat ((↑k : Int) - 1)) (0 : Int))))) (an (decide_eq_true h2) (an (decide_eq_true h4) (an (sr (AV.raw (Value.int .u64 (List.getD b (Int.toNat ((↑k : Int) - 1)) (0 : Int))))) (an (decide_eq_false h6) (rr ((1 : Int))))))))))))))))))
theorem cw_eq (a b : List Int) (k : Nat) (h1 : (↑k : Int) - 1 ≥ 0) (h2 : (0 : Int) ≤ (↑k : Int) - 1) (h3 : Int.toNat ((↑k : Int) - 1) < a.length) (h4 : Int.toNat ((↑k : Int) - 1) < b.length) (h5 : List.getD a (Int.toNat ((↑k : Int) - 1)) (0 : Int) = List.getD b (Int.toNat ((↑k : Int) - 1)) (0 : Int)) (h6 : -9223372036854775808 ≤ (↑k : Int) - 1 - 1 ∧ (↑k : Int) - 1 - 1 ≤ 9223372036854775807) :
    Tst.path (vall Tryz.prog (ctrs []) (fl BCmp cwL) (SCw a b k)) [true, false] (toSt Tryz.prog 41 .normal [] (SCw1 a b k)) :=
  mp (an (decide_eq_true h1) (an (decide_eq_true h2) (an (decide_eq_true h3) (an (sr (AV.raw (Value.int .u64 (List.getD a (Int.toNat ((↑k : Int) - 1)) (0 : Int))))) (an (decide_eq_true h2) (an (decide_eq_true h4) (an (sr (AV.raw (Value.int .u64 (List.getD b (Int.toNat ((↑k : Int) - 1)) (0 : Int))))) (an (bne_eq_false_iff_eq.mpr h5) (an (fits_i64 h6) (an (rr a) (an (rr b) (an (rr ((↑k : Int) - 1 - 1)) trivial))))))))))))
theorem cw_end (a b : List Int) (k : Nat) (h1 : ¬(↑k : Int) - 1 ≥ 0) :
    Tst.path (vall Tryz.prog (ctrs []) (fl BCmp cwL) (SCw a b k)) [false] (toSt Tryz.prog 41 (.exit 0) [] (SCw a b k)) :=
  mp (an (decide_eq_false h1) (an (rr a) (an (rr b) (an (rr ((↑k : Int) - 1)) trivial))))
theorem cw_ret (a b : List Int) (k : Nat)  :
    Tst.path (vall Tryz.prog (ctrs []) (List.drop 5 (fl BCmp [])) (SCw a b k)) [] (toRet Tryz.prog Tryz.f142 true (iv 0)) :=
  mp (rr ((0 : Int)))
def cmpV (x y : Int) : Int := if x < y then -1 else if y < x then 1 else 0
def okC2 (a b : List Int) : Bool := (dgB a && tmB a) && ((dgB b && tmB b) && decide (a.length ≤ 1000000))
noncomputable def cCmpW : Ctr := { f := 142, ps := [.list false tU, .list false tU], rs := [.int .i64], fresh := true, pre := fun d => okC2 d.1 d.2.1, fn := fun d => (cmpV (vw d.1) (vw d.2.1), ()) }
theorem tmB_iff {l : List Int} : tmB l = true ↔ Tm l := by
  unfold tmB
  constructor
  · intro h
    have h := Nat.eq_of_beq_eq_true h
    have := trim_tm l l.length (Nat.le_refl _)
    obtain ⟨m, h1, h2, _⟩ := trimL_eq l l.length (Nat.le_refl _)
    rw [h2, List.length_take] at h
    have hm : m = l.length := by omega
    rw [h2, hm, List.take_length] at this
    exact this
  · intro h
    rw [trim_id h]
    exact Nat.beq_refl _
theorem cmpV_lt {x y : Int} (h : x < y) : cmpV x y = -1 := by unfold cmpV; rw [if_pos h]
theorem cmpV_gt {x y : Int} (h : y < x) : cmpV x y = 1 := by unfold cmpV; rw [if_neg (by omega), if_pos h]
theorem cmpV_eq {x y : Int} (h : x = y) : cmpV x y = 0 := by unfold cmpV; rw [if_neg (by omega), if_neg (by omega)]
theorem cmpW_holds (a b : List Int) (h : okC2 a b = true) : Holds Tryz.prog true 142 [lu a, lu b] (iv (cmpV (vw a) (vw b))) := by
  unfold okC2 at h
  simp only [Bool.and_eq_true, decide_eq_true_eq] at h
  obtain ⟨⟨ha, ta⟩, ⟨hb, tb⟩, hl⟩ := h
  have ha := dgB_iff.1 ha
  have hb := dgB_iff.1 hb
  have ta := tmB_iff.1 ta
  have tb := tmB_iff.1 tb
  refine holds_fl (c := BCmp) Tryz.func142 rfl rfl fun w0 F => ?_
  by_cases hab : a.length = b.length
  · refine GoalL.to known mixed none_ok 4 _ (cw_start a b (by omega) (by omega)) (by kernel_rfl) ?_
    refine GoalL.loop (ι := { k : Nat // k ≤ a.length ∧ ∀ j, k ≤ j → j < a.length → a.getD j 0 = b.getD j 0 }) (id := 0) (b := cat BCmp cwL) (rest := List.drop 5 (fl BCmp [])) (by kernel_rfl) (fun k => SCw a b k.1) (fun k => k.1) ⟨a.length, Nat.le_refl _, fun j h1 h2 => by omega⟩ (fun _ => rfl) ?_
    rintro ⟨k, hk, heq⟩
    cases k with
    | zero =>
      refine GoalL.all (s := SCw a b 0) known mixed none_ok _ (cw_end a b 0 (by omega)) (by kernel_rfl) ?_
      refine onN_exit (inB_exit ?_)
      have e : a = b := by
        refine List.ext_getElem hab fun j h1 h2 => ?_
        have := heq j (Nat.zero_le _) h1
        rwa [dg_getD h1, dg_getD h2] at this
      rw [cmpV_eq (show vw a = vw b by rw [e])]
      exact GoalL.allRet (s := SCw a b 0) known mixed none_ok _ (cw_ret a b 0) fun T H h => h
    | succ k =>
      have e0 : (((k + 1 : Nat) : Int) - 1).toNat = k := by omega
      have e1 : SCw1 a b (k + 1) = SCw a b k := by
        unfold SCw1 SCw
        rw [show (((k + 1 : Nat) : Int) - 1 - 1) = (k : Int) - 1 by omega]
      have hka : k < a.length := by omega
      by_cases h1 : a.getD k 0 = b.getD k 0
      · refine GoalL.all (s := SCw a b (k + 1)) (s' := SCw1 a b (k + 1)) known mixed none_ok _ (cw_eq a b (k + 1) (by omega) (by omega) (by omega) (by omega) (by rw [e0]; exact h1) (by omega)) (by kernel_rfl) ?_
        rw [e1]
        exact ⟨⟨k, by omega, fun j g1 g2 => by
          by_cases hj : j = k
          · rw [hj]; exact h1
          · exact heq j (by omega) g2⟩, by simp, rfl, rfl⟩
      · by_cases h2 : a.getD k 0 < b.getD k 0
        · rw [cmpV_lt (show vw a < vw b from vl_cmp b64_pos ha hb hab hka h2 fun j g1 g2 => heq j (by omega) g2)]
          exact GoalL.allRet (s := SCw a b (k + 1)) known mixed none_ok _ (cw_lt a b (k + 1) (by omega) (by omega) (by omega) (by omega) (by rw [e0]; exact h1) (by rw [e0]; exact h2)) fun T H h => h
        · rw [cmpV_gt (show vw b < vw a from vl_cmp b64_pos hb ha hab.symm (by omega) (show b.getD k 0 < a.getD k 0 by omega) fun j g1 g2 => (heq j (by omega) (by omega)).symm)]
          exact GoalL.allRet (s := SCw a b (k + 1)) known mixed none_ok _ (cw_gt a b (k + 1) (by omega) (by omega) (by omega) (by omega) (by rw [e0]; exact h1) (by rw [e0]; exact h2)) fun T H h => h
  · by_cases hlt : a.length < b.length
    · rw [cmpV_lt (show vw a < vw b from vl_short b64_pos ha hb tb hlt)]
      exact GoalL.ret known mixed none_ok 3 _ (cw_low a b (by omega) (by omega)) fun T H h => h
    · rw [cmpV_gt (show vw b < vw a from vl_short b64_pos hb ha ta (by omega))]
      exact GoalL.ret known mixed none_ok 3 _ (cw_high a b (by omega) (by omega)) fun T H h => h
theorem cCmpW_ok : cCmpW.Ok Tryz.prog := fun ⟨a, b, _⟩ h => cmpW_holds a b h
end
end Go.Proofs.YtjcbbabaabcdgaaGreatDoor
