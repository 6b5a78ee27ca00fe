/- Package num: one step of the long division: the walk. -/
import Derived.Test.YtjcbbabaabcdgaaGreatDoorZgVStep
import Derived.Test.YtjcbbabaabcdgaaGreatDoorZgVBas
namespace Go.Proofs.YtjcbbabaabcdgaaGreatDoor
open Go.RowKit Sv
set_option maxRecDepth 100000
set_option linter.unusedVariables false
noncomputable section
abbrev stEnd (res : List Int) (q : Int) : Exit → Tr AV → AHeap → Prop := retE Tryz.prog Tryz.f216 168 tU res (uv q)
theorem step_tail {v u0 p s : List Int} {q : Int} (hv : Dg 18446744073709551616 v) (hu : Dg 18446744073709551616 u0) (hlu : u0.length = v.length + 1) (hvl : v.length ≤ 1000000) (hV : 0 < vw v) (G : GG (vw v) (vw u0) q)
    (cap : Cap) (r o : Int) (A : Nat → Option (Nat × Nat)) (Y : Nat → Option Obj) (w : World) (F : Sv.Env) :
    GoalLX (XE A Y) Tryz.prog w F 186 (List.drop 7 (fl BStep [])) (SSa (p ++ (u0 ++ s)) v p.length cap q r o).T (SSa (p ++ (u0 ++ s)) v p.length cap q r o).H (stEnd (p ++ (padD 18446744073709551616 (v.length + 1) (vw u0 % vw v) ++ s)) (vw u0 / vw v)) := by
  have hS := st_ok
  refine GoalL.st (s := SSa (p ++ (u0 ++ s)) v p.length cap q r o) known mixed hS 2 _ (sc_start _ v _ cap q r o) (by kernel_rfl) ?_
  refine GoalL.loop (ι := { x : List Int × Int × Int × Nat // CI v u0 q x.1 x.2.1 x.2.2.1 x.2.2.2 }) (id := 2) (b := cat BStep stL2) (rest := List.drop 10 (fl BStep [])) (by kernel_rfl) (fun x => SSc (p ++ (x.1.1 ++ s)) v p.length cap q x.1.2.1 x.1.2.2.1 x.1.2.2.2) (fun x => v.length - x.1.2.2.2)
    ⟨(u0, 0, 0, 0), ⟨Nat.zero_le _, hlu, hu, ⟨Int.le_refl 0, show (0 : Int) < 18446744073709551616 by decide⟩, .inl rfl, fun _ _ => rfl, by simp [vw, vl]⟩⟩ (fun _ => rfl) ?_
  rintro ⟨⟨u, c, b, i⟩, I⟩
  have I : CI v u0 q u c b i := I
  have hlen := I.len
  by_cases hi : i < v.length
  · have N := I.next hv G.rng hi
    have hvi := hv.get (by decide) i
    have fin : ∃ j : { x : List Int × Int × Int × Nat // CI v u0 q x.1 x.2.1 x.2.2.1 x.2.2.2 }, v.length - j.1.2.2.2 < v.length - i ∧
        (SSc ((p ++ (u ++ s)).set (p.length + i) (difD ((p ++ (u ++ s)).getD (p.length + i) 0) (loS q (v.getD i 0) c) b)) v p.length cap q (hiS q (v.getD i 0) c) (borD ((p ++ (u ++ s)).getD (p.length + i) 0) (loS q (v.getD i 0) c) b) (i + 1)).T = (SSc (p ++ (j.1.1 ++ s)) v p.length cap q j.1.2.1 j.1.2.2.1 j.1.2.2.2).T ∧
        (SSc ((p ++ (u ++ s)).set (p.length + i) (difD ((p ++ (u ++ s)).getD (p.length + i) 0) (loS q (v.getD i 0) c) b)) v p.length cap q (hiS q (v.getD i 0) c) (borD ((p ++ (u ++ s)).getD (p.length + i) 0) (loS q (v.getD i 0) c) b) (i + 1)).H = (SSc (p ++ (j.1.1 ++ s)) v p.length cap q j.1.2.1 j.1.2.2.1 j.1.2.2.2).H := by
      rw [get_mid (p := p) (s := s) (show i < u.length by omega), set_mid (p := p) (s := s) (show i < u.length by omega)]
      exact ⟨⟨(_, _, _, i + 1), N⟩, by simp; omega, rfl, rfl⟩
    have ho : ownHas 168 tU (some (.own 168 tU (p ++ (u ++ s)))) (p.length + i) = true := own_mid (by omega)
    have hm := okM_iff.2 ⟨G.rng, hvi⟩
    rcases I.hb with hb | hb
    · subst hb
      exact GoalL.all (s := SSc (p ++ (u ++ s)) v p.length cap q c 0 i) known mixed hS _ (sc_0 (p ++ (u ++ s)) v p.length cap q c i (by omega) hi hm (by omega) ho (by omega) rfl rfl rfl) (by kernel_rfl) fin
    · subst hb
      exact GoalL.all (s := SSc (p ++ (u ++ s)) v p.length cap q c 1 i) known mixed hS _ (sc_1 (p ++ (u ++ s)) v p.length cap q c i (by omega) hi hm (by omega) ho (by omega) rfl rfl rfl) (by kernel_rfl) fin
  · refine GoalL.all (s := SSc (p ++ (u ++ s)) v p.length cap q c b i) known mixed hS _ (sc_end _ v _ cap q c b i (by omega)) (by kernel_rfl) ?_
    refine onN_exit (inB_exit ?_)
    have hle := I.le
    obtain rfl : i = v.length := by omega
    obtain ⟨f1, f2, f3, f4⟩ := I.fin hlu
    have ho : ownHas 168 tU (some (.own 168 tU (p ++ (u ++ s)))) (p.length + v.length) = true := own_mid (by omega)
    -- the rest, from the state with the borrow
    have rest : ∀ u1 b1, u1 = u.set v.length (difD (u.getD v.length 0) c b) → b1 = borD (u.getD v.length 0) c b →
        GoalLX (XE A Y) Tryz.prog w F 186 (List.drop 11 (fl BStep [])) (SSe (p ++ (u1 ++ s)) v p.length cap q b1).T (SSe (p ++ (u1 ++ s)) v p.length cap q b1).H (stEnd (p ++ (padD 18446744073709551616 (v.length + 1) (vw u0 % vw v) ++ s)) (vw u0 / vw v)) := by
      intro u1 b1 e1 e2
      rw [← e1, ← e2] at f1
      rw [← e1] at f2 f4
      rw [← e2] at f3
      have hn := vl_nn (b := 18446744073709551616) (by decide) f2
      have hlt := vl_lt (b := 18446744073709551616) (by decide) f2
      rw [f4] at hlt
      by_cases hb1 : b1 = 0
      · have hnn : 0 ≤ vw u0 - q * vw v := by
          rw [hb1, Int.mul_zero] at f1
          unfold vw at *; omega
        obtain ⟨g1, g2⟩ := fin_ok hV G hnn
        have e3 : vw u1 = vw u0 - q * vw v := by rw [hb1, Int.mul_zero] at f1; omega
        have e4 := f2.of_len f4
        rw [e3, ← g2] at e4
        rw [g1, ← e4]
        exact GoalL.retE' known mixed hS 8 _ (se_ret (p ++ (u1 ++ s)) v p.length cap q b1 hb1) fun T H h => h
      · have hb2 : b1 = 1 := f3.resolve_left hb1
        rw [hb2, Int.mul_one] at f1
        have hneg : vw u0 - q * vw v < 0 := by unfold vw at *; omega
        obtain ⟨g1, g2⟩ := fin_less hV G hneg
        have hR0 := Int.emod_nonneg (vw u0) (show vw v ≠ 0 by omega)
        have hR1 := Int.emod_lt_of_pos (vw u0) hV
        have hVl := vl_lt (b := 18446744073709551616) (by decide) hv
        refine GoalL.st (s := SSe (p ++ (u1 ++ s)) v p.length cap q b1) known mixed hS 4 _ (se_go (p ++ (u1 ++ s)) v p.length cap q b1 hb1) (by kernel_rfl) ?_
        refine GoalL.loop (ι := { x : List Int × Int × Nat // DI v u1 x.1 x.2.1 x.2.2 }) (id := 4) (b := cat BStep stL3) (rest := List.drop 16 (fl BStep [])) (by kernel_rfl) (fun x => SSd (p ++ (x.1.1 ++ s)) v p.length cap q x.1.2.1 x.1.2.2) (fun x => v.length - x.1.2.2)
          ⟨(u1, 0, 0), ⟨Nat.zero_le _, f4, f2, .inl rfl, fun _ _ => rfl, by simp [vw, vl]⟩⟩ (fun _ => rfl) ?_
        rintro ⟨⟨u2, c2, j⟩, J⟩
        have J : DI v u1 u2 c2 j := J
        have hlen2 := J.len
        by_cases hj : j < v.length
        · have N2 := J.next hv hj
          have ho2 : ownHas 168 tU (some (.own 168 tU (p ++ (u2 ++ s)))) (p.length + j) = true := own_mid (by omega)
          have fin : ∃ y : { x : List Int × Int × Nat // DI v u1 x.1 x.2.1 x.2.2 }, v.length - y.1.2.2 < v.length - j ∧
              (SSd ((p ++ (u2 ++ s)).set (p.length + j) (sumD ((p ++ (u2 ++ s)).getD (p.length + j) 0) (v.getD j 0) c2)) v p.length cap q (carD ((p ++ (u2 ++ s)).getD (p.length + j) 0) (v.getD j 0) c2) (j + 1)).T = (SSd (p ++ (y.1.1 ++ s)) v p.length cap q y.1.2.1 y.1.2.2).T ∧
              (SSd ((p ++ (u2 ++ s)).set (p.length + j) (sumD ((p ++ (u2 ++ s)).getD (p.length + j) 0) (v.getD j 0) c2)) v p.length cap q (carD ((p ++ (u2 ++ s)).getD (p.length + j) 0) (v.getD j 0) c2) (j + 1)).H = (SSd (p ++ (y.1.1 ++ s)) v p.length cap q y.1.2.1 y.1.2.2).H := by
            rw [get_mid (p := p) (s := s) (show j < u2.length by omega), set_mid (p := p) (s := s) (show j < u2.length by omega)]
            exact ⟨⟨(_, _, j + 1), N2⟩, by simp; omega, rfl, rfl⟩
          rcases J.hc with hc2 | hc2
          · subst hc2
            exact GoalL.all (s := SSd (p ++ (u2 ++ s)) v p.length cap q 0 j) known mixed hS _ (sd_0 (p ++ (u2 ++ s)) v p.length cap q j (by omega) (by omega) ho2 hj (by omega) rfl rfl) (by kernel_rfl) fin
          · subst hc2
            exact GoalL.all (s := SSd (p ++ (u2 ++ s)) v p.length cap q 1 j) known mixed hS _ (sd_1 (p ++ (u2 ++ s)) v p.length cap q j (by omega) (by omega) ho2 hj (by omega) rfl rfl) (by kernel_rfl) fin
        · refine GoalL.all (s := SSd (p ++ (u2 ++ s)) v p.length cap q c2 j) known mixed hS _ (sd_end _ v _ cap q c2 j (by omega)) (by kernel_rfl) ?_
          refine onN_exit (inB_exit ?_)
          have hle2 := J.le
          obtain rfl : j = v.length := by omega
          have ho2 : ownHas 168 tU (some (.own 168 tU (p ++ (u2 ++ s)))) (p.length + v.length) = true := own_mid (by omega)
          have hfin := J.fin f4 (U := vw u0 - q * vw v) (R := vw u0 % vw v) (by omega) (by omega) hR0 (by unfold vw at *; omega)
          have hdec : decS q = vw u0 / vw v := by
            rw [g1]
            unfold decS
            refine wrapU ⟨?_, by have := G.rng; omega⟩
            rw [← g1]
            exact Int.ediv_nonneg (vl_nn (by decide) hu) (Int.le_of_lt hV)
          have := GoalL.retE' (X := XE A Y) (w0 := w) (F := F) (l := List.drop 16 (fl BStep [])) (n := 186) (T := (SSd (p ++ (u2 ++ s)) v p.length cap q c2 v.length).T) (H := (SSd (p ++ (u2 ++ s)) v p.length cap q c2 v.length).H) (Q := stEnd ((p ++ (u2 ++ s)).set (p.length + v.length) (IntKind.wrap .u64 ((p ++ (u2 ++ s)).getD (p.length + v.length) 0 + c2))) (decS q)) known mixed hS 8 _ (sd_ret (p ++ (u2 ++ s)) v p.length cap q c2 v.length ho2 rfl) fun T H h => h
          rw [get_mid (p := p) (s := s) (show v.length < u2.length by omega), set_mid (p := p) (s := s) (show v.length < u2.length by omega), hfin, hdec] at this
          exact this
    have fin : ∀ T H, (SSe ((p ++ (u ++ s)).set (p.length + v.length) (difD ((p ++ (u ++ s)).getD (p.length + v.length) 0) c b)) v p.length cap q (borD ((p ++ (u ++ s)).getD (p.length + v.length) 0) c b)).T = T → (SSe ((p ++ (u ++ s)).set (p.length + v.length) (difD ((p ++ (u ++ s)).getD (p.length + v.length) 0) c b)) v p.length cap q (borD ((p ++ (u ++ s)).getD (p.length + v.length) 0) c b)).H = H →
        GoalLX (XE A Y) Tryz.prog w F 186 (List.drop 11 (fl BStep [])) T H (stEnd (p ++ (padD 18446744073709551616 (v.length + 1) (vw u0 % vw v) ++ s)) (vw u0 / vw v)) := by
      rw [get_mid (p := p) (s := s) (show v.length < u.length by omega), set_mid (p := p) (s := s) (show v.length < u.length by omega)]
      rintro T H rfl rfl
      exact rest _ _ rfl rfl
    rcases I.hb with hb | hb
    · subst hb
      exact GoalL.st (s := SSc (p ++ (u ++ s)) v p.length cap q c 0 v.length) known mixed hS 1 _ (sf_0 (p ++ (u ++ s)) v p.length cap q c v.length ho rfl rfl) (by kernel_rfl) (fin _ _ rfl rfl)
    · subst hb
      exact GoalL.st (s := SSc (p ++ (u ++ s)) v p.length cap q c 1 v.length) known mixed hS 1 _ (sf_1 (p ++ (u ++ s)) v p.length cap q c v.length ho rfl rfl) (by kernel_rfl) (fin _ _ rfl rfl)
theorem step_guess {v u0 p s : List Int} {m : Nat} (hv : Dg 18446744073709551616 v) (hu : Dg 18446744073709551616 u0) (hlu : u0.length = v.length + 1) (hlv : v.length = m + 2) (hvl : v.length ≤ 1000000) (h1 : 9223372036854775808 ≤ v.getD (m + 1) 0) (hlt : vw u0 < 18446744073709551616 * vw v)
    (cap : Cap) (q r o : Int) (hq : 0 ≤ q ∧ q < 18446744073709551616) (hr : 0 ≤ r ∧ r < 18446744073709551616) (ho : o = 0 ∨ o = 1) (hQ : vw u0 / vw v ≤ q) (he : q * v.getD (m + 1) 0 + (r + 18446744073709551616 * o) = u0.getD (m + 2) 0 * 18446744073709551616 + u0.getD (m + 1) 0)
    (A : Nat → Option (Nat × Nat)) (Y : Nat → Option Obj) (w : World) (F : Sv.Env) :
    GoalLX (XE A Y) Tryz.prog w F 186 (List.drop 6 (fl BStep [])) (SSa (p ++ (u0 ++ s)) v p.length cap q r o).T (SSa (p ++ (u0 ++ s)) v p.length cap q r o).H (stEnd (p ++ (padD 18446744073709551616 (v.length + 1) (vw u0 % vw v) ++ s)) (vw u0 / vw v)) := by
  have hS := st_ok
  have P := parts_of (b := 18446744073709551616) (by decide) hu hv (n := m) (by omega) hlv (by omega)
  have eV := vAll_of (b := 18446744073709551616) hlv
  have eU := uAll_of (b := 18446744073709551616) (u := u0) (n := m) (by omega)
  have hV : 0 < vw v := by
    have h2 := vw_last (u := v) (n := m + 1) hlv
    have h3 := vl_nn (b := 18446744073709551616) (by decide) (hv.take (m + 1))
    have h4 := Int.mul_pos (pow_pos' (b := 18446744073709551616) (by decide) (m + 1)) (show 0 < v.getD (m + 1) 0 by omega)
    unfold vw at h2 ⊢
    omega
  have hU0 : 0 ≤ vw u0 := vl_nn (by decide) hu
  have hQ0 : 0 ≤ vw u0 / vw v := Int.ediv_nonneg hU0 (Int.le_of_lt hV)
  have hQV : vw u0 / vw v * vw v ≤ vw u0 := Int.ediv_mul_le _ (by omega)
  have en1 : ((v.length : Int) - 1).toNat = m + 1 := by omega
  have en2 : ((v.length : Int) - 2).toNat = m := by omega
  have hv1 := hv.get (by decide) (m + 1)
  have hv2 := hv.get (by decide) m
  -- the digit that passes the test
  have pass : ∀ q r o : Int, 0 ≤ q ∧ q < 18446744073709551616 → vw u0 / vw v ≤ q → q * v.getD (m + 1) 0 + (r + 18446744073709551616 * o) = u0.getD (m + 2) 0 * 18446744073709551616 + u0.getD (m + 1) 0 → q * v.getD m 0 ≤ (r + 18446744073709551616 * o) * 18446744073709551616 + u0.getD m 0 → GG (vw v) (vw u0) q := fun q r o hq hQ he ht => by
    refine ⟨hq, hQ, ?_⟩
    have := guess_lo P (t := q) hq (by rw [show u0.getD (m + 2) 0 * 18446744073709551616 + u0.getD (m + 1) 0 - q * v.getD (m + 1) 0 = r + 18446744073709551616 * o by omega]; exact ht)
    rw [eV, eU] at this
    exact this
  refine GoalL.loop (ι := { x : Int × Int × Int // (0 ≤ x.1 ∧ x.1 < 18446744073709551616) ∧ (0 ≤ x.2.1 ∧ x.2.1 < 18446744073709551616) ∧ (x.2.2 = 0 ∨ x.2.2 = 1) ∧ vw u0 / vw v ≤ x.1 ∧ x.1 * v.getD (m + 1) 0 + (x.2.1 + 18446744073709551616 * x.2.2) = u0.getD (m + 2) 0 * 18446744073709551616 + u0.getD (m + 1) 0 }) (id := 0) (b := cat BStep stL1) (rest := List.drop 7 (fl BStep [])) (by kernel_rfl) (fun x => SSa (p ++ (u0 ++ s)) v p.length cap x.1.1 x.1.2.1 x.1.2.2) (fun x => x.1.1.toNat) ⟨(q, r, o), hq, hr, ho, hQ, he⟩ (fun _ => rfl) ?_
  clear hq hr ho hQ he
  rintro ⟨⟨q, r, o⟩, hq, hr, ho, hQ, he⟩
  have hq : 0 ≤ q ∧ q < 18446744073709551616 := hq
  have hr : 0 ≤ r ∧ r < 18446744073709551616 := hr
  have ho : o = 0 ∨ o = 1 := ho
  have hQ : vw u0 / vw v ≤ q := hQ
  have he : q * v.getD (m + 1) 0 + (r + 18446744073709551616 * o) = u0.getD (m + 2) 0 * 18446744073709551616 + u0.getD (m + 1) 0 := he
  have hm := okM_iff.2 ⟨hq, hv2⟩
  have hm' : okM q (v.getD ((v.length : Int) - 2).toNat 0) = true := by rw [en2]; exact hm
  have hhl := mul_hl (q := q) (x := v.getD m 0)
  obtain ⟨hh, hl⟩ := mul_hl_dg hq hv2
  have hu2 := hu.get (by decide) m
  have hown : ownHas 168 tU (some (.own 168 tU (p ++ (u0 ++ s)))) (p.length + ((v.length : Int) - 2).toNat) = true := by rw [en2]; exact own_mid (by omega)
  have hg2 : (p ++ (u0 ++ s)).getD (p.length + m) 0 = u0.getD m 0 := get_mid (by omega)
  by_cases ho0 : o = 0
  · subst ho0
    -- the next guess
    have next : ¬ (q * v.getD m 0 ≤ (r + 18446744073709551616 * 0) * 18446744073709551616 + u0.getD m 0) → ∃ j : { x : Int × Int × Int // (0 ≤ x.1 ∧ x.1 < 18446744073709551616) ∧ (0 ≤ x.2.1 ∧ x.2.1 < 18446744073709551616) ∧ (x.2.2 = 0 ∨ x.2.2 = 1) ∧ vw u0 / vw v ≤ x.1 ∧ x.1 * v.getD (m + 1) 0 + (x.2.1 + 18446744073709551616 * x.2.2) = u0.getD (m + 2) 0 * 18446744073709551616 + u0.getD (m + 1) 0 }, j.1.1.toNat < q.toNat ∧
        (SSa (p ++ (u0 ++ s)) v p.length cap (decS q) (sumD r (v.getD ((v.length : Int) - 1).toNat 0) 0) (carD r (v.getD ((v.length : Int) - 1).toNat 0) 0)).T = (SSa (p ++ (u0 ++ s)) v p.length cap j.1.1 j.1.2.1 j.1.2.2).T ∧
        (SSa (p ++ (u0 ++ s)) v p.length cap (decS q) (sumD r (v.getD ((v.length : Int) - 1).toNat 0) 0) (carD r (v.getD ((v.length : Int) - 1).toNat 0) 0)).H = (SSa (p ++ (u0 ++ s)) v p.length cap j.1.1 j.1.2.1 j.1.2.2).H := fun hn => by
      have hgt := guess_hi P (t := q) (q := vw u0 / vw v) hq.1 (by rw [eV, eU]; exact hQV) (by rw [show u0.getD (m + 2) 0 * 18446744073709551616 + u0.getD (m + 1) 0 - q * v.getD (m + 1) 0 = r + 18446744073709551616 * 0 by omega]; omega)
      obtain ⟨g1, g2, g3⟩ := sum_car (a := r) (b := v.getD (m + 1) 0) (c := 0) hr hv1 (.inl rfl)
      have hd : decS q = q - 1 := wrapU (by omega)
      rw [en1, hd]
      generalize sumD r (v.getD (m + 1) 0) 0 = sd at *
      generalize carD r (v.getD (m + 1) 0) 0 = cd at *
      refine ⟨⟨(q - 1, sd, cd), by show 0 ≤ q - 1 ∧ q - 1 < _; omega, g2, g3, by show _ ≤ q - 1; omega, ?_⟩, by show (q - 1).toNat < q.toNat; omega, rfl, rfl⟩
      show (q - 1) * v.getD (m + 1) 0 + (sd + 18446744073709551616 * cd) = u0.getD (m + 2) 0 * 18446744073709551616 + u0.getD (m + 1) 0
      have e5 : (q - 1) * v.getD (m + 1) 0 = q * v.getD (m + 1) 0 - v.getD (m + 1) 0 := by rw [Int.sub_mul, Int.one_mul]
      omega
    by_cases hlt1 : mlHi q (v.getD m 0) < r
    · refine GoalL.all (s := SSa (p ++ (u0 ++ s)) v p.length cap q r 0) known mixed hS _ (sl_lt (p ++ (u0 ++ s)) v p.length cap q r 0 rfl (by omega) (by omega) (by omega) hm' (by rw [en2]; exact hlt1)) (by kernel_rfl) ?_
      refine onN_exit (inB_exit ?_)
      exact step_tail hv hu hlu hvl hV (pass q r 0 hq hQ he (by omega)) cap r 0 A Y w F
    · by_cases heq : mlHi q (v.getD m 0) = r
      · by_cases hle : mlLo q (v.getD m 0) ≤ u0.getD m 0
        · refine GoalL.all (s := SSa (p ++ (u0 ++ s)) v p.length cap q r 0) known mixed hS _ (sl_eqle (p ++ (u0 ++ s)) v p.length cap q r 0 rfl (by omega) (by omega) (by omega) hm' (by rw [en2]; exact hlt1) (by rw [en2]; exact heq) hown (by rw [en2, hg2]; exact hle)) (by kernel_rfl) ?_
          refine onN_exit (inB_exit ?_)
          exact step_tail hv hu hlu hvl hV (pass q r 0 hq hQ he (by omega)) cap r 0 A Y w F
        · exact GoalL.all (s := SSa (p ++ (u0 ++ s)) v p.length cap q r 0) known mixed hS _ (sl_eqgt (p ++ (u0 ++ s)) v p.length cap q r 0 rfl (by omega) (by omega) (by omega) hm' (by rw [en2]; exact hlt1) (by rw [en2]; exact heq) hown (by rw [en2, hg2]; exact hle) (by omega) (by omega) (by omega) rfl rfl rfl) (by kernel_rfl) (next (by omega))
      · exact GoalL.all (s := SSa (p ++ (u0 ++ s)) v p.length cap q r 0) known mixed hS _ (sl_gt (p ++ (u0 ++ s)) v p.length cap q r 0 rfl (by omega) (by omega) (by omega) hm' (by rw [en2]; exact hlt1) (by rw [en2]; exact heq) (by omega) (by omega) (by omega) rfl rfl rfl) (by kernel_rfl) (next (by omega))
  · have ho1 : o = 1 := ho.resolve_left ho0
    refine GoalL.all (s := SSa (p ++ (u0 ++ s)) v p.length cap q r o) known mixed hS _ (sl_over (p ++ (u0 ++ s)) v p.length cap q r o ho0) (by kernel_rfl) ?_
    refine onN_exit (inB_exit ?_)
    have hf := guess_far P (t := q) hq (by rw [show u0.getD (m + 2) 0 * 18446744073709551616 + u0.getD (m + 1) 0 - q * v.getD (m + 1) 0 = r + 18446744073709551616 * o by omega]; omega)
    rw [show u0.getD (m + 2) 0 * 18446744073709551616 + u0.getD (m + 1) 0 - q * v.getD (m + 1) 0 = r + 18446744073709551616 * o by omega] at hf
    exact step_tail hv hu hlu hvl hV (pass q r o hq hQ he hf) cap r o A Y w F
end
end Go.Proofs.YtjcbbabaabcdgaaGreatDoor
/- Package num: one step of the long division, as a known function that writes into a row of its caller's. -/
namespace Go.Proofs.YtjcbbabaabcdgaaGreatDoor
open Go.RowKit Sv
set_option maxRecDepth 100000
set_option linter.unusedVariables false
noncomputable section
theorem step_start {v u0 p s : List Int} {m : Nat} (hv : Dg 18446744073709551616 v) (hu : Dg 18446744073709551616 u0) (hlu : u0.length = v.length + 1) (hlv : v.length = m + 2) (hvl : v.length ≤ 1000000) (h1 : 9223372036854775808 ≤ v.getD (m + 1) 0) (hlt : vw u0 < 18446744073709551616 * vw v)
    (cap : Cap) (A : Nat → Option (Nat × Nat)) (Y : Nat → Option Obj) (w : World) (F : Sv.Env) :
    GoalLX (XE A Y) Tryz.prog w F 186 (fl BStep []) (initT [uo v p.length cap, lu v] .nil 0) (He 168 tU (p ++ (u0 ++ s))) (stEnd (p ++ (padD 18446744073709551616 (v.length + 1) (vw u0 % vw v) ++ s)) (vw u0 / vw v)) := by
  have hS := st_ok
  have P := parts_of (b := 18446744073709551616) (by decide) hu hv (n := m) (by omega) hlv (by omega)
  have eV := vAll_of (b := 18446744073709551616) hlv
  have eU := uAll_of (b := 18446744073709551616) (u := u0) (n := m) (by omega)
  have hV : 0 < vw v := by
    have h2 := vw_last (u := v) (n := m + 1) hlv
    have h3 := vl_nn (b := 18446744073709551616) (by decide) (hv.take (m + 1))
    have h4 := Int.mul_pos (pow_pos' (b := 18446744073709551616) (by decide) (m + 1)) (show 0 < v.getD (m + 1) 0 by omega)
    unfold vw at h2 ⊢
    omega
  have hU0 : 0 ≤ vw u0 := vl_nn (by decide) hu
  have hQ0 : 0 ≤ vw u0 / vw v := Int.ediv_nonneg hU0 (Int.le_of_lt hV)
  have hQV : vw u0 / vw v * vw v ≤ vw u0 := Int.ediv_mul_le _ (by omega)
  have hQ1 : vw u0 / vw v < 18446744073709551616 := (Int.ediv_lt_iff_lt_mul hV).2 hlt
  have en1 : ((v.length : Int) - 1).toNat = m + 1 := by omega
  have hv1 := hv.get (by decide) (m + 1)
  have hut := hu.get (by decide) (m + 2)
  have hun := hu.get (by decide) (m + 1)
  have hkn : p.length + v.length = p.length + (m + 2) := by omega
  have gt : (p ++ (u0 ++ s)).getD (p.length + v.length) 0 = u0.getD (m + 2) 0 := by rw [hkn]; exact get_mid (by omega)
  have gn : (p ++ (u0 ++ s)).getD (p.length + (m + 1)) 0 = u0.getD (m + 1) 0 := get_mid (by omega)
  have o1 : ownHas 168 tU (some (.own 168 tU (p ++ (u0 ++ s)))) (p.length + v.length) = true := own_mid (by omega)
  have o2 : ownHas 168 tU (some (.own 168 tU (p ++ (u0 ++ s)))) (p.length + ((v.length : Int) - 1).toNat) = true := by rw [en1]; exact own_mid (by omega)
  by_cases hge : u0.getD (m + 2) 0 ≥ v.getD (m + 1) 0
  · have hle : u0.getD (m + 2) 0 ≤ v.getD (m + 1) 0 := by
      have a1 := vw_last (u := u0) (n := m + 2) (by omega)
      have a2 := vl_nn (b := 18446744073709551616) (by decide) (hu.take (m + 2))
      have a3 := vw_last (u := v) (n := m + 1) hlv
      have a4 := vl_lt (b := 18446744073709551616) (by decide) (hv.take (m + 1))
      rw [List.length_take, Nat.min_eq_left (by omega)] at a4
      have a5 := pow_pos' (b := 18446744073709551616) (by decide) (m + 1)
      rw [show m + 2 = m + 1 + 1 from rfl, Int.pow_succ] at a1
      rw [show m + 1 + 1 = m + 2 from rfl] at a1
      unfold vw at a1 a3 hlt
      generalize vl 18446744073709551616 (u0.take (m + 2)) = x at *
      generalize vl 18446744073709551616 (v.take (m + 1)) = y at *
      generalize u0.getD (m + 2) 0 = ut at *
      generalize v.getD (m + 1) 0 = vt at *
      generalize (18446744073709551616 : Int) ^ (m + 1) = P at *
      refine Int.not_lt.1 fun hn => ?_
      have b1 := Int.mul_le_mul_of_nonneg_left (show vt + 1 ≤ ut by omega) (Int.le_of_lt a5)
      rw [Int.mul_add, Int.mul_one] at b1
      have b2 : P * 18446744073709551616 * ut = 18446744073709551616 * (P * ut) := by grind
      rw [b2] at a1
      generalize P * ut = Pu at *
      generalize P * vt = Pv at *
      omega
    obtain ⟨g1, g2, g3⟩ := sum_car (a := u0.getD (m + 1) 0) (b := v.getD (m + 1) 0) (c := 0) hun hv1 (.inl rfl)
    refine GoalL.to known mixed hS 6 _ (st_max (p ++ (u0 ++ s)) v p.length cap o1 (by omega) (by omega) (by omega) (by rw [gt, en1]; exact hge) o2 rfl rfl) (by kernel_rfl) ?_
    rw [en1, gn]
    refine step_guess hv hu hlu hlv hvl h1 hlt cap _ _ _ (by decide) g2 g3 (by omega) ?_ A Y w F
    rw [g1]
    omega
  · have hv0 : 0 < v.getD (m + 1) 0 := by omega
    have hD : okD (u0.getD (m + 2) 0) (u0.getD (m + 1) 0) (v.getD (m + 1) 0) = true := by
      unfold okD
      rw [okU_iff.2 hun, okU_iff.2 hv1, decide_eq_true hut.1, decide_eq_true (show u0.getD (m + 2) 0 < v.getD (m + 1) 0 by omega)]; rfl
    refine GoalL.to known mixed hS 6 _ (st_div (p ++ (u0 ++ s)) v p.length cap o1 (by omega) (by omega) (by omega) (by rw [gt, en1]; exact hge) o2 (by rw [gt, en1, gn]; exact hD)) (by kernel_rfl) ?_
    rw [en1, gn, gt]
    have hdm := Int.emod_add_mul_ediv (u0.getD (m + 2) 0 * 18446744073709551616 + u0.getD (m + 1) 0) (v.getD (m + 1) 0)
    have hm0 := Int.emod_nonneg (u0.getD (m + 2) 0 * 18446744073709551616 + u0.getD (m + 1) 0) (show v.getD (m + 1) 0 ≠ 0 by omega)
    have hm1 := Int.emod_lt_of_pos (u0.getD (m + 2) 0 * 18446744073709551616 + u0.getD (m + 1) 0) hv0
    have hqn : 0 ≤ div64Q (u0.getD (m + 2) 0) (u0.getD (m + 1) 0) (v.getD (m + 1) 0) := Int.ediv_nonneg (by omega) (by omega)
    have hql : div64Q (u0.getD (m + 2) 0) (u0.getD (m + 1) 0) (v.getD (m + 1) 0) < 18446744073709551616 := (Int.ediv_lt_iff_lt_mul hv0).2 (by omega)
    have hgf := guess_first P hQ0 (by rw [eV, eU]; exact hQV)
    refine step_guess hv hu hlu hlv hvl h1 hlt cap _ _ _ ⟨hqn, hql⟩ ⟨hm0, by show _ % _ < _; omega⟩ (.inl rfl) ((Int.le_ediv_iff_mul_le hv0).2 hgf) ?_ A Y w F
    show (_ / _) * _ + (_ % _ + _) = _
    rw [Int.mul_comm]
    omega
theorem eStep_run (xs v : List Int) (k len : Nat) (cap : Cap) (hp : stPre xs k len v = true) (hk : k + len ≤ xs.length) (A : Nat → Option (Nat × Nat)) (Y : Nat → Option Obj) (w : World) (F : Sv.Env) :
    GoalLX (XE A Y) Tryz.prog w F 186 (fl BStep []) (initT [.osl 168 tU 64 k len cap, lu v] .nil 0) (He 168 tU xs) (stEnd (stOut xs k len v) (stQ xs k len v)) := by
  unfold stPre at hp
  simp only [Bool.and_eq_true, decide_eq_true_eq, dgB_iff] at hp
  obtain ⟨hx, hv, h2, h3, h4, h5, h6⟩ := hp
  have h3 := Nat.eq_of_beq_eq_true h3
  subst h3
  obtain ⟨m, hm⟩ : ∃ m, v.length = m + 2 := ⟨v.length - 2, by omega⟩
  have hpl : (xs.take k).length = k := by rw [List.length_take]; omega
  have hul : (winW xs k (v.length + 1)).length = v.length + 1 := by unfold winW; rw [List.length_take, List.length_drop]; omega
  have hdec : xs = xs.take k ++ (winW xs k (v.length + 1) ++ xs.drop (k + (v.length + 1))) := by
    unfold winW
    rw [← List.drop_drop, List.take_append_drop, List.take_append_drop]
  have := step_start (p := xs.take k) (u0 := winW xs k (v.length + 1)) (s := xs.drop (k + (v.length + 1))) hv ((hx.drop k).take _) hul hm h4 (by rw [show m + 1 = v.length - 1 by omega]; exact h5) h6 cap A Y w F
  rw [← hdec, hpl] at this
  exact this
theorem eStep_ok : eStep.Ok Tryz.prog :=
  ⟨rfl, rfl, _, BStep, Tryz.func216, rfl, by decide, fun xs k len cap d hp _ hk A Y w F => eStep_run xs d.1 k len cap hp hk A Y w F⟩
end
end Go.Proofs.YtjcbbabaabcdgaaGreatDoor
/- The runner over an abstract memory: a row of the run's own that is handed to a function for good: it is plain data from then on. -/
namespace Go.Proofs.YtjcbbabaabcdgaaGreatDoor.Sv
open Go.RowKit
set_option linter.unusedSectionVars false
variable [Ground]
noncomputable section
def frzOne (ty : Ty) (v : AV) (H : AHeap) : Tst (Option (AV × AHeap)) := match ty, v with
  | .list false t, .osl e u i k len _ => (match decide (u = t) with
    | true => .must (Nat.beq len 0 || ownHas e t (H.get i) (k + len - 1)) (.ret (some (.lst false t (((blkXs t (H.get i)).drop k).take len), H.drop i)))
    | false => .ret none)
  | .list false t, .slice i off n _ => (match H.get i with
    | some (.cells _ cs _ false false) => (match t.readL n (cut cs off (n * t.size)) with
      | some ds => .must (Nat.ble (off + n * t.size) cs.length) (.ret (some (.lst false t ds, H.drop i)))
      | none => .ret none)
    | _ => .ret none)
  | _, v => .ret (some (v, H))
def frzAll : List Ty → List AV → AHeap → Tst (Option (List AV × AHeap))
  | t :: ts, v :: vs, H => (frzOne t v H).bind fun r => match r with
    | some (v1, H1) => (frzAll ts vs H1).bind fun r2 => match r2 with
      | some (vs1, H2) => .ret (some (v1 :: vs1, H2))
      | none => .ret none
    | none => .ret none
  | _, vs, H => .ret (some (vs, H))
def gctrV (c : Ctr) (args : List AV) (H : AHeap) : Tst VR := (frzAll c.ps args H).bind fun r => match r with
  | some (args1, H1) => ctrV c args1 H1
  | none => .ret .no
def gctrs (l : List Ctr) (SV : VCaller) : VCaller := fun f args H => match l with
  | [] => SV f args H
  | c :: l => match Nat.beq f c.f with | true => gctrV c args H | false => gctrs l SV f args H
section
variable {P : Program} {B : Nat} {ρ : Env} {H : AHeap} {w : World}
theorem freeze_blk (hH : HDen P B ρ H w) {i b c : Nat} {k : ABlk} {zs : Array Value} {e : TypeId} {fr : Nat × Nat} (hi : H.get i = some k) (hro : k.isRo = false) (hr : ρ i = some (b, c)) (hz : w.heap[b]? = some (.cells zs e fr)) :
    ∃ ρ1 : Env, ρ1.fz b = some zs ∧ (∀ j, ρ1 j = ρ j) ∧ Le ρ ρ1 ∧ HDen P B ρ1 (H.drop i) w ∧ Stp ρ H w ρ1 (H.drop i) w := by
  have hnf : ρ.fz b = none := by
    cases hz' : ρ.fz b with
    | none => rfl
    | some A =>
      have := (hH.fz b A hz').2 i k c hi hr
      rw [hro] at this; cases this
  have hle : Le ρ ⟨ρ.at', fun q => if q = b then some zs else ρ.fz q⟩ := ⟨fun _ _ h => h, fun q A h => by
    show (if q = b then some zs else ρ.fz q) = some A
    by_cases hq : q = b
    · subst hq; rw [hnf] at h; cases h
    · rw [if_neg hq]; exact h⟩
  have key : ∀ j kk, (H.drop i).get j = some kk → j ≠ i ∧ H.get j = some kk := fun j kk h => by
    rw [AHeap.get_drop] at h
    split at h
    · cases h
    · rename_i h2; exact ⟨fun h => h2 h.symm, h⟩
  refine ⟨⟨ρ.at', fun q => if q = b then some zs else ρ.fz q⟩, if_pos rfl, fun _ => rfl, hle, ⟨fun j kk h => ?_, fun i1 i2 k1 k2 bb c1 c2 g1 g2 g3 g4 => hH.inj i1 i2 k1 k2 bb c1 c2 (key _ _ g1).2 (key _ _ g2).2 g3 g4, fun j kk h => hH.lt j kk (key j kk h).2, hH.base, fun bb A h => ?_⟩,
    ⟨hle, fun _ _ => rfl, Nat.le_refl _, Nat.le_refl _, rfl, rfl, rfl, fun _ _ _ => rfl, fun q _ ⟨j, kk, cj, h1, h2, h3⟩ => ⟨j, kk, cj, (key j kk h1).2, h2, h3⟩, fun q _ ⟨j, kk, cj, h1, h3⟩ => ⟨j, kk, cj, (key j kk h1).2, h3⟩, fun bb A h => ?_⟩⟩
  · obtain ⟨bj, cj, o, e1, e2, e3, e4⟩ := hH.blk j kk (key j kk h).2
    exact ⟨bj, cj, o, e1, e2, e3.mono hle, e4⟩
  · have h : (if bb = b then some zs else ρ.fz bb) = some A := h
    by_cases hq : bb = b
    · subst hq
      rw [if_pos rfl] at h
      cases h
      exact ⟨⟨_, _, hz⟩, fun j kk c' g1 g2 => absurd (hH.inj j i kk k bb c' c (key j kk g1).2 hi g2 hr) (key j kk g1).1⟩
    · rw [if_neg hq] at h
      exact ⟨(hH.fz bb A h).1, fun j kk c' g1 g2 => (hH.fz bb A h).2 j kk c' (key j kk g1).2 g2⟩
  · have h : (if bb = b then some zs else ρ.fz bb) = some A := h
    by_cases hq : bb = b
    · subst hq; exact .inr (.inr ⟨i, k, c, hi, hro, hr⟩)
    · rw [if_neg hq] at h; exact .inl h
theorem frzOne_ok (hH : HDen P B ρ H w) {ty : Ty} {v v1 : AV} {H1 : AHeap} {x : Value} (h : (frzOne ty v H).gr = some (some (v1, H1))) (hd : Den ρ v x) : ∃ ρ1 : Env, Le ρ ρ1 ∧ HDen P B ρ1 H1 w ∧ Stp ρ H w ρ1 H1 w ∧ Den ρ1 v1 x := by
  unfold frzOne at h
  split at h
  · rename_i t e u i k len cap
    split at h
    · rename_i hu
      have hu := of_decide_eq_true hu
      subst hu
      cases hm : (Nat.beq len 0 || ownHas e u (H.get i) (k + len - 1)) with
      | false => rw [hm] at h; cases h
      | true =>
        rw [hm] at h
        cases h
        rcases hd.osl_inv with ⟨rfl, a, rfl⟩ | ⟨b, c, kc, g1, g2, g3, rfl⟩
        · rw [List.take_zero]
          by_cases hg : ∃ kk, H.get i = some kk ∧ kk.isRo = false ∧ ∃ b c zs e fr, ρ i = some (b, c) ∧ w.heap[b]? = some (.cells zs e fr)
          · obtain ⟨kk, q1, q2, b, c, zs, e', fr, q3, q4⟩ := hg
            obtain ⟨ρ1, _, _, r1, r2, r3⟩ := freeze_blk hH q1 q2 q3 q4
            exact ⟨ρ1, r1, r2, r3, .lstNil fun e => by cases e⟩
          · -- the block is given up without being frozen
            have key : ∀ j kk, (H.drop i).get j = some kk → j ≠ i ∧ H.get j = some kk := fun j kk h => by
              rw [AHeap.get_drop] at h
              split at h
              · cases h
              · rename_i h2; exact ⟨fun h => h2 h.symm, h⟩
            exact ⟨ρ, Le.refl _, ⟨fun j kk h => hH.blk j kk (key j kk h).2, fun i1 i2 k1 k2 bb c1 c2 g1 g2 g3 g4 => hH.inj i1 i2 k1 k2 bb c1 c2 (key _ _ g1).2 (key _ _ g2).2 g3 g4, fun j kk h => hH.lt j kk (key j kk h).2, hH.base, fun bb A h => ⟨(hH.fz bb A h).1, fun j kk c' g1 g2 => (hH.fz bb A h).2 j kk c' (key j kk g1).2 g2⟩⟩,
              ⟨Le.refl _, fun _ _ => rfl, Nat.le_refl _, Nat.le_refl _, rfl, rfl, rfl, fun _ _ _ => rfl, fun q _ ⟨j, kk, cj, h1, h2, h3⟩ => ⟨j, kk, cj, (key j kk h1).2, h2, h3⟩, fun q _ ⟨j, kk, cj, h1, h3⟩ => ⟨j, kk, cj, (key j kk h1).2, h3⟩, fun bb A h => .inl h⟩, .lstNil fun e => by cases e⟩
        · by_cases hl : len = 0
          · subst hl
            rw [List.take_zero]
            by_cases hg : ∃ kk, H.get i = some kk ∧ kk.isRo = false ∧ ∃ b c zs e fr, ρ i = some (b, c) ∧ w.heap[b]? = some (.cells zs e fr)
            · obtain ⟨kk, q1, q2, b, c, zs, e', fr, q3, q4⟩ := hg
              obtain ⟨ρ1, _, _, r1, r2, r3⟩ := freeze_blk hH q1 q2 q3 q4
              exact ⟨ρ1, r1, r2, r3, .lstNil fun e => by cases e⟩
            · have key : ∀ j kk, (H.drop i).get j = some kk → j ≠ i ∧ H.get j = some kk := fun j kk h => by
                rw [AHeap.get_drop] at h
                split at h
                · cases h
                · rename_i h2; exact ⟨fun h => h2 h.symm, h⟩
              exact ⟨ρ, Le.refl _, ⟨fun j kk h => hH.blk j kk (key j kk h).2, fun i1 i2 k1 k2 bb c1 c2 g1 g2 g3 g4 => hH.inj i1 i2 k1 k2 bb c1 c2 (key _ _ g1).2 (key _ _ g2).2 g3 g4, fun j kk h => hH.lt j kk (key j kk h).2, hH.base, fun bb A h => ⟨(hH.fz bb A h).1, fun j kk c' g1 g2 => (hH.fz bb A h).2 j kk c' (key j kk g1).2 g2⟩⟩,
                ⟨Le.refl _, fun _ _ => rfl, Nat.le_refl _, Nat.le_refl _, rfl, rfl, rfl, fun _ _ _ => rfl, fun q _ ⟨j, kk, cj, h1, h2, h3⟩ => ⟨j, kk, cj, (key j kk h1).2, h2, h3⟩, fun q _ ⟨j, kk, cj, h1, h3⟩ => ⟨j, kk, cj, (key j kk h1).2, h3⟩, fun bb A h => .inl h⟩, .lstNil fun e => by cases e⟩
          · rw [Bool.or_eq_true] at hm
            have hm := hm.resolve_left fun e => hl (Nat.eq_of_beq_eq_true e)
            obtain ⟨b1, b2⟩ := ownHas_some hm
            obtain ⟨zs, q1, q2, _⟩ := own_at hH b1 g1
            obtain ⟨ρ1, f1, _, r1, r2, r3⟩ := freeze_blk hH b1 rfl g1 q1
            refine ⟨ρ1, r1, r2, r3, ?_⟩
            generalize blkXs u (H.get i) = xs at b1 b2 q2 ⊢
            have hle2 : k + len ≤ xs.length := by omega
            have e1 : (xs.drop k).take len = (xs.take (k + len)).drop k := by rw [List.take_drop]
            have hpd := part_den (off := 0) (A := zs.toList) (l := k) (h := k + len) (by simpa using q2) (by omega) hle2
            rw [Nat.zero_add, ← e1] at hpd
            have hn : ((xs.drop k).take len).length = len := by simp; omega
            have hd2 := Den.lst (ρ := ρ1) (z := false) (t := u) (xs := (xs.drop k).take len) (b := b) (off := k * u.size) (k := kc) (A := zs) f1 (by
              have e3 : (u.flat xs).length ≤ zs.toList.length := by
                have := q2.length
                simp at this ⊢; omega
              rw [u.flat_len] at e3 ⊢
              rw [hn, ← Nat.add_mul]
              have := Nat.le_trans (Nat.mul_le_mul_right u.size hle2) e3
              simpa using this) rfl (hpd.mono r1) (by omega) (fun e => by cases e)
            rwa [hn] at hd2
    · cases h
  · rename_i t i off n cap
    split at h
    · rename_i e cs x hg
      split at h
      · rename_i ds hrd
        cases hm : Nat.ble (off + n * t.size) cs.length with
        | false => rw [hm] at h; cases h
        | true =>
          rw [hm] at h
          cases h
          have hle := Nat.le_of_ble_eq_true hm
          obtain ⟨b, c, k, g1, _, g3, rfl⟩ := hd.slice_inv
          obtain ⟨zs, fz', q1, _, q3, _, _, q6⟩ := cells_at hH hg g1
          obtain ⟨ρ1, f1, _, r1, r2, r3⟩ := freeze_blk hH hg rfl g1 q1
          refine ⟨ρ1, r1, r2, r3, ?_⟩
          have hcut := (q3.drop off).take (n * t.size)
          obtain ⟨hfd, hn⟩ := Ty.readL_den hrd hcut
          subst hn
          have hfl := t.flat_len ds
          have e2 : ((zs.toList.take cs.length).drop off).take (ds.length * t.size) = (zs.toList.drop off).take (t.flat ds).length := by
            rw [hfl, List.drop_take, List.take_take, Nat.min_eq_left (by omega)]
          rw [e2] at hfd
          exact .lst f1 (by rw [hfl]; omega) rfl (hfd.mono r1) g3 fun e => by cases e
      · cases h
    · cases h
  · cases h
    exact ⟨ρ, Le.refl _, hH, Stp.refl _ _ _, hd⟩
theorem frzAll_ok : ∀ {ts : List Ty} {vs vs1 : List AV} {ρ : Env} {H H1 : AHeap} {xs : List Value}, HDen P B ρ H w → (frzAll ts vs H).gr = some (some (vs1, H1)) → Dens ρ vs xs → ∃ ρ1 : Env, Le ρ ρ1 ∧ HDen P B ρ1 H1 w ∧ Stp ρ H w ρ1 H1 w ∧ Dens ρ1 vs1 xs
  | [], vs, vs1, ρ, H, H1, xs, hH, h, hd => by
    cases h; exact ⟨ρ, Le.refl _, hH, Stp.refl _ _ _, hd⟩
  | t :: ts, [], vs1, ρ, H, H1, xs, hH, h, hd => by
    cases h; exact ⟨ρ, Le.refl _, hH, Stp.refl _ _ _, hd⟩
  | t :: ts, v :: vs, vs1, ρ, H, H1, _, hH, h, .cons d1 d2 => by
    unfold frzAll at h
    rw [Tst.gr_bind] at h
    cases h1 : (frzOne t v H).gr with
    | none => rw [h1] at h; cases h
    | some r =>
      rw [h1] at h
      cases r with
      | none => cases h
      | some r =>
        obtain ⟨v1, H2⟩ := r
        simp only [Option.bind_some] at h
        rw [Tst.gr_bind] at h
        cases h2 : (frzAll ts vs H2).gr with
        | none => rw [h2] at h; cases h
        | some r2 =>
          rw [h2] at h
          cases r2 with
          | none => cases h
          | some r2 =>
            obtain ⟨vs2, H3⟩ := r2
            cases h
            obtain ⟨ρ1, l1, a1, s1, e1⟩ := frzOne_ok hH h1 d1
            obtain ⟨ρ2, l2, a2, s2, e2⟩ := frzAll_ok a1 h2 (d2.mono l1)
            exact ⟨ρ2, l1.trans l2, a2, s1.trans s2, .cons (e1.mono l2) e2⟩
theorem frzOne_next {ty : Ty} {v v1 : AV} {H1 : AHeap} (h : (frzOne ty v H).gr = some (some (v1, H1))) : H1.next = H.next := by
  unfold frzOne at h
  split at h
  · split at h
    · rename_i e u i k len _ _ _
      cases hm : (Nat.beq len 0 || ownHas e _ (H.get i) (k + len - 1)) with
      | false => rw [hm] at h; cases h
      | true => rw [hm] at h; cases h; rfl
    · cases h
  · split at h
    · split at h
      · unfold Tst.gr at h
        generalize Nat.ble _ _ = bb at h
        cases bb with
        | false => cases h
        | true => cases h; rfl
      · cases h
    · cases h
  · cases h; rfl
theorem frzAll_next : ∀ {ts : List Ty} {vs vs1 : List AV} {H H1 : AHeap}, (frzAll ts vs H).gr = some (some (vs1, H1)) → H1.next = H.next
  | [], vs, vs1, H, H1, h => by cases h; rfl
  | t :: ts, [], vs1, H, H1, h => by cases h; rfl
  | t :: ts, v :: vs, vs1, H, H1, h => by
    unfold frzAll at h
    rw [Tst.gr_bind] at h
    cases h1 : (frzOne t v H).gr with
    | none => rw [h1] at h; cases h
    | some r =>
      rw [h1] at h
      cases r with
      | none => cases h
      | some r =>
        obtain ⟨v1, H2⟩ := r
        simp only [Option.bind_some] at h
        rw [Tst.gr_bind] at h
        cases h2 : (frzAll ts vs H2).gr with
        | none => rw [h2] at h; cases h
        | some r2 =>
          rw [h2] at h
          cases r2 with
          | none => cases h
          | some r2 =>
            obtain ⟨vs2, H3⟩ := r2
            cases h
            rw [frzAll_next h2, frzOne_next h1]
theorem gctrV_inv {c : Ctr} {args : List AV} {v : AV} {H' : AHeap} (h : (gctrV c args H).gr = some (.ok v H')) : ∃ args1, (frzAll c.ps args H).gr = some (some (args1, H')) ∧ (ctrV c args1 H').gr = some (.ok v H') := by
  unfold gctrV at h
  rw [Tst.gr_bind] at h
  cases h1 : (frzAll c.ps args H).gr with
  | none => rw [h1] at h; cases h
  | some r =>
    rw [h1] at h
    cases r with
    | none => cases h
    | some r =>
      obtain ⟨a1, H1⟩ := r
      have h : (ctrV c a1 H1).gr = some (.ok v H') := h
      have e := ctrV_same h
      subst e
      exact ⟨a1, rfl, h⟩
theorem gctrs_some {SV : VCaller} {f : FuncId} {args : List AV} {v : AV} {H' : AHeap} : ∀ {l : List Ctr}, (gctrs l SV f args H).gr = some (.ok v H') → (∃ c ∈ l, c.f = f ∧ (gctrV c args H).gr = some (.ok v H')) ∨ (SV f args H).gr = some (.ok v H')
  | [], h => .inr h
  | c :: l, h => by
    unfold gctrs at h
    cases hb : Nat.beq f c.f with
    | true => simp only [hb] at h; exact .inl ⟨c, List.mem_cons_self, (Nat.eq_of_beq_eq_true hb).symm, h⟩
    | false =>
      simp only [hb] at h
      rcases gctrs_some h with ⟨c', h1, h2⟩ | h1
      · exact .inl ⟨c', List.mem_cons_of_mem _ h1, h2⟩
      · exact .inr h1
theorem gctrs_ok {l : List Ctr} {SV : VCaller} (hl : ∀ c ∈ l, c.Ok P) (hS : CallOk P (gS SV)) : CallOk P (gS (gctrs l SV)) where
  mono f args H v H' h := by
    rcases gctrs_some (gS_some h) with ⟨c, _, _, h3⟩ | h3
    · obtain ⟨a1, g1, _⟩ := gctrV_inv h3
      rw [frzAll_next g1]; exact Nat.le_refl _
    · exact hS.mono f args H v H' (by unfold gS; rw [h3]; rfl)
  sim f args H v H' h B ρ xs w m hH hG hd hf := by
    rcases gctrs_some (gS_some h) with ⟨c, h1, rfl, h3⟩ | h3
    · obtain ⟨a1, g1, g2⟩ := gctrV_inv h3
      obtain ⟨ρ1, l1, a2, s1, e1⟩ := frzAll_ok hH g1 hd
      refine (ctrV_ok (hl c h1) g2 m a2 (hG.mono l1) e1).mono ?_
      rintro e w' ⟨x, ρ', rfl, q1, q2, q3⟩
      exact ⟨x, ρ', rfl, q1, q2, s1.trans q3⟩
    · exact hS.sim f args H v H' (by unfold gS; rw [h3]; rfl) B ρ xs w m hH hG hd hf
end
end
end Go.Proofs.YtjcbbabaabcdgaaGreatDoor.Sv
/- Package num: long division of words. -/
namespace Go.Proofs.YtjcbbabaabcdgaaGreatDoor
open Go.RowKit Sv
set_option maxRecDepth 100000
set_option linter.unusedVariables false
noncomputable section
noncomputable def BDvd : Code := (Tryz.f164.body).getD .skip
noncomputable def dvdCs : VCaller := octrs [oShUp] (ectrs [eStep] (gctrs [cTrim] (ctrs [cCmpW, cDiv64, cLz])))
abbrev dvT : List Nat := [1, 1, 0, 1, 0]
abbrev dvL1 : List Nat := [1, 1, 0, 1, 0, 1, 1, 0, 1, 0, 0]
abbrev dvL2 : List Nat := [1, 1, 1, 1, 1, 1, 1, 1, 0, 1, 0, 0]
abbrev dvL3 : List Nat := [1, 1, 1, 1, 1, 1, 1, 1, 1, 0, 1, 0, 0]
abbrev obF (j : Nat) (l : List Int) : AV := .osl 168 tU j 0 l.length .full
abbrev oeF (l : List Int) : Ent := .blk (.own 168 tU l)
def SV0 (a b : List Int) : St := { n := 137, sl := [(0, lu a), (1, lu b), (23, bv ((b.length : Int) == 1))], en := [], next := 64 }
def SV1 (a b q : List Int) (r : Int) (k : Nat) : St := { n := 137, sl := [(0, lu a), (1, lu b), (6, obU 64 q), (7, uv r), (8, iv ((k : Int) - 1))], en := [(64, oeU q)], next := 65 }
def SV1' (a b q : List Int) (r : Int) (k : Nat) : St := { n := 137, sl := [(0, lu a), (1, lu b), (6, obU 64 q), (7, uv r), (8, iv ((k : Int) - 1 - 1))], en := [(64, oeU q)], next := 65 }
def SV2 (a v u q : List Int) (s : Int) (k : Nat) : St := { n := 137, sl := [(0, lu a), (9, iv s), (10, lu v), (11, obF 64 u), (12, iv v.length), (13, obU 65 q), (14, iv ((k : Int) - 1))], en := [(64, oeF u), (65, oeU q)], next := 66 }
def SV2' (a v u q : List Int) (s : Int) (k : Nat) : St := { n := 137, sl := [(0, lu a), (9, iv s), (10, lu v), (11, obF 64 u), (12, iv v.length), (13, obU 65 q), (14, iv ((k : Int) - 1 - 1))], en := [(64, oeF u), (65, oeU q)], next := 66 }
def SV3 (n : Nat) (u q : List Int) (s : Int) (i : Nat) : St := { n := 137, sl := [(9, iv s), (11, obF 64 u), (12, iv n), (13, obU 65 q), (96, iv n), (97, iv i)], en := [(64, oeF u), (65, oeU q)], next := 66 }
abbrev s65 : Sv.Ren := [(64, 64, none), (65, 65, none)]
def SVa (a v : List Int) (s : Int) : St := { n := 137, sl := [(0, lu a), (9, iv s), (10, lu v)], en := [], next := 64 }
theorem dz_lt (a b : List Int) (h1 : (okC2 a b) = true) (h2 : cmpV (vw a) (vw b) < 0) :
    Tst.path (vrun0 Tryz.prog dvdCs (fl BDvd []) 3 137 [lu a, lu b]) [true] (toRet Tryz.prog Tryz.f164 false (.tuple [lu [], lu a])) :=
  mp (an h1 (an (decide_eq_true h2) (an (rr nilI) (an (rr a) trivial))))
theorem dz_go (a b : List Int) (h1 : (okC2 a b) = true) (h2 : ¬cmpV (vw a) (vw b) < 0) :
    Tst.path (vrun0 Tryz.prog dvdCs (fl BDvd []) 4 137 [lu a, lu b]) [false] (toSt Tryz.prog 137 .normal [] (SV0 a b)) :=
  mp (an h1 (an (decide_eq_false h2) (an (rr a) (an (rr b) (an (rr ((↑b.length : Int) == 1)) trivial)))))
theorem p1_start (a b : List Int) (h1 : a.length ≤ 1000000) (h2 : -9223372036854775808 ≤ (↑a.length : Int) - 1 ∧ (↑a.length : Int) - 1 ≤ 9223372036854775807) (h3 : a.length = (zerW a.length).length) (h4 : (capOf (zerW a.length).length) = (capOf a.length)) (h5 : (List.flatten (List.replicate a.length (List.map AV.raw (Array.toList #[Value.int .u64 (0 : Int)])))) = (List.flatMap (fun x => [AV.raw (Value.int .u64 x)]) (zerW a.length))) :
    Tst.path (vrun Tryz.prog dvdCs (fl BDvd dvT) 3 (SV0 a b)) [] (toSt Tryz.prog 137 .normal [(64, 64, some a.length)] (SV1 a b (zerW a.length) 0 a.length)) :=
  mp (an (show (decide ((0 : Int) ≤ (↑a.length : Int))) = true from decide_eq_true (by omega)) (an (show (decide ((0 : Int) ≤ (↑a.length : Int))) = true from decide_eq_true (by omega)) (an (show (decide (a.length ≤ a.length)) = true from decide_eq_true (by omega)) (an (show (bounded a.length (8 : Nat)) = true from bounded_of h1 (by omega)) (an (fits_i64 h2) (an (rr a) (an (rr b) (an (an h3 (an (rr (Cap.known a.length)) h4)) (an (rr ((0 : Int))) (an (rr ((↑a.length : Int) - 1)) (an (an h5 h3) trivial)))))))))))
theorem p1_go (a b q : List Int) (r : Int) (k : Nat) (h1 : (↑k : Int) - 1 ≥ 0) (h2 : (0 : Int) ≤ (↑k : Int) - 1) (h3 : Int.toNat ((↑k : Int) - 1) < a.length) (h4 : Int.toNat (0 : Int) < b.length) (h5 : (okD r (List.getD a (Int.toNat ((↑k : Int) - 1)) (0 : Int)) (List.getD b (Int.toNat (0 : Int)) (0 : Int))) = true) (h6 : Int.toNat ((↑k : Int) - 1) < q.length) (h7 : -9223372036854775808 ≤ (↑k : Int) - 1 - 1 ∧ (↑k : Int) - 1 - 1 ≤ 9223372036854775807) (h8 : q.length = (List.set q (Int.toNat ((↑k : Int) - 1)) (div64Q r (List.getD a (Int.toNat ((↑k : Int) - 1)) (0 : Int)) (List.getD b (0 : Nat) (0 : Int)))).length) (h9 : (capOf q.length) = (capOf (List.set q (Int.toNat ((↑k : Int) - 1)) (div64Q r (List.getD a (Int.toNat ((↑k : Int) - 1)) (0 : Int)) (List.getD b (0 : Nat) (0 : Int)))).length)) (h10 : (div64R r (List.getD a (Int.toNat ((↑k : Int) - 1)) (0 : Int)) (List.getD b (Int.toNat (0 : Int)) (0 : Int))) = (div64R r (List.getD a (Int.toNat ((↑k : Int) - 1)) (0 : Int)) (List.getD b (0 : Nat) (0 : Int)))) (h11 : (List.set q (Int.toNat ((↑k : Int) - 1)) (div64Q r (List.getD a (Int.toNat ((↑k : Int) - 1)) (0 : Int)) (List.getD b (Int.toNat (0 : Int)) (0 : Int)))) = (List.set q (Int.toNat ((↑k : Int) - 1)) (div64Q r (List.getD a (Int.toNat ((↑k : Int) - 1)) (0 : Int)) (List.getD b (0 : Nat) (0 : Int))))) :
    Tst.path (vall Tryz.prog dvdCs (fl BDvd dvL1) (SV1 a b q r k)) [true] (toSt Tryz.prog 137 .normal s64 (SV1' a b (q.set ((k : Int) - 1).toNat (div64Q r (a.getD ((k : Int) - 1).toNat 0) (b.getD 0 0))) (div64R r (a.getD ((k : Int) - 1).toNat 0) (b.getD 0 0)) k)) :=
  mp (an (decide_eq_true h1) (an (decide_eq_true h2) (an (decide_eq_true h3) (an (sr (AV.raw (Value.int .u64 (List.getD a (Int.toNat ((↑k : Int) - 1)) (0 : Int))))) (an rt (an (decide_eq_true h4) (an (sr (AV.raw (Value.int .u64 (List.getD b (Int.toNat (0 : Int)) (0 : Int))))) (an h5 (an (decide_eq_true h2) (an (decide_eq_true h6) (an (show (ownHas 168 tU (optOwn (nat_lit 168) tU q) ((0 : Nat) + Int.toNat ((↑k : Int) - 1))) = true from (by simp only [Nat.zero_add] <;> exact (show (ownHas 168 tU (optOwn (nat_lit 168) tU q) (Int.toNat ((↑k : Int) - 1))) = true from (by rw [ownHas_optOwn]; exact decide_eq_true h6)))) (an (fits_i64 h7) (an (rr a) (an (rr b) (an (an (rr ((0 : Nat))) (an h8 h9)) (an h10 (an (rr ((↑k : Int) - 1 - 1)) (an (show (List.set (blkXs tU (optOwn (nat_lit 168) tU q)) ((0 : Nat) + Int.toNat ((↑k : Int) - 1)) (div64Q r (List.getD a (Int.toNat ((↑k : Int) - 1)) (0 : Int)) (List.getD b (Int.toNat (0 : Int)) (0 : Int)))) = (List.set q (Int.toNat ((↑k : Int) - 1)) (div64Q r (List.getD a (Int.toNat ((↑k : Int) - 1)) (0 : Int)) (List.getD b (0 : Nat) (0 : Int)))) from (by simp only [blkXs_optOwn, Nat.zero_add] <;> exact h11)) trivial))))))))))))))))))
theorem p1_end (a b q : List Int) (r : Int) (k : Nat) (h1 : ¬(↑k : Int) - 1 ≥ 0) :
    Tst.path (vall Tryz.prog dvdCs (fl BDvd dvL1) (SV1 a b q r k)) [false] (toSt Tryz.prog 137 (.exit 0) s64 (SV1 a b q r k)) :=
  mp (an (decide_eq_false h1) (an (rr a) (an (rr b) (an (an (rr ((0 : Nat))) (an (rr q.length) (rr (capOf q.length)))) (an (rr r) (an (rr ((↑k : Int) - 1)) (an (show (fitOpt Tryz.prog none (optOwn (nat_lit 168) tU q) (nat_lit 168) tU q) from (fitOpt_refl _ _ _ _)) trivial)))))))
theorem p1_ret (a b q : List Int) (r : Int) (k : Nat) (h1 : (Nat.beq q.length (0 : Nat) || ownHas 168 tU (optOwn (nat_lit 168) tU q) (q.length - (1 : Nat))) = true) (h2 : (List.take q.length (List.drop (0 : Nat) q)).length ≤ (1000000 : Nat)) (h3 : (1 : Nat) * (1 : Nat) ≤ (AV.raw (Value.int .u64 r) :: List.append._f [] PUnit.unit (List.flatten._f [] PUnit.unit)).length) (h4 : List.length [r] ≤ (1000000 : Nat)) (h5 : (trW (List.take q.length (List.drop (0 : Nat) q))) = (trW q)) :
    Tst.path (vall Tryz.prog dvdCs (List.drop 4 (fl BDvd dvT)) (SV1 a b q r k)) [] (toRet Tryz.prog Tryz.f164 false (.tuple [lu (trW q), lu (trW [r])])) :=
  mp (an (show (Nat.beq q.length (0 : Nat) || ownHas 168 tU (optOwn (nat_lit 168) tU q) ((0 : Nat) + q.length - (1 : Nat))) = true from (by simp only [Nat.zero_add] <;> exact (show (Nat.beq q.length (0 : Nat) || ownHas 168 tU (optOwn (nat_lit 168) tU q) (q.length - (1 : Nat))) = true from h1))) (an (show (decide ((List.take q.length (List.drop (0 : Nat) (blkXs tU (optOwn (nat_lit 168) tU q)))).length ≤ (1000000 : Nat))) = true from (by simp only [blkXs_optOwn] <;> exact (show (decide ((List.take q.length (List.drop (0 : Nat) q)).length ≤ (1000000 : Nat))) = true from decide_eq_true h2))) (an (show (Nat.ble ((0 : Nat) + (1 : Nat) * (1 : Nat)) (AV.raw (Value.int .u64 r) :: List.append._f [] PUnit.unit (List.flatten._f [] PUnit.unit)).length) = true from (by simp only [Nat.zero_add] <;> exact (show (Nat.ble ((1 : Nat) * (1 : Nat)) (AV.raw (Value.int .u64 r) :: List.append._f [] PUnit.unit (List.flatten._f [] PUnit.unit)).length) = true from Nat.ble_eq_true_of_le h3))) (an (decide_eq_true h4) (an (show (trW (List.take q.length (List.drop (0 : Nat) (blkXs tU (optOwn (nat_lit 168) tU q))))) = (trW q) from (by simp only [blkXs_optOwn] <;> exact h5)) (an (rr (trW [r])) trivial))))))
theorem p2_skip (a b : List Int) (h1 : ¬(↑b.length : Int) = 1) :
    Tst.path (vrun Tryz.prog dvdCs (List.drop 4 (fl BDvd [])) 1 (SV0 a b)) [false] (toSt Tryz.prog 137 .normal [] (SV0 a b)) :=
  mp (an (beq_eq_false_iff_ne.mpr h1) (an (rr a) (an (rr b) (an (rr ((↑b.length : Int) == 1)) trivial))))
theorem p2_a (a b v : List Int) (s : Int) (h1 : -9223372036854775808 ≤ (↑b.length : Int) - 1 ∧ (↑b.length : Int) - 1 ≤ 9223372036854775807) (h2 : (0 : Int) ≤ (↑b.length : Int) - 1) (h3 : Int.toNat ((↑b.length : Int) - 1) < b.length) (h4 : (okU (List.getD b (Int.toNat ((↑b.length : Int) - 1)) (0 : Int))) = true) (h5 : (okS b (lzI (List.getD b (Int.toNat ((↑b.length : Int) - 1)) (0 : Int)))) = true) (h6 : (Nat.beq (shW b (lzI (List.getD b (Int.toNat ((↑b.length : Int) - 1)) (0 : Int)))).length (0 : Nat) || ownHas (OCtr.e oShUp) tU (some (ABlk.own 168 (.int .u64) (shW b (lzI (List.getD b (Int.toNat ((↑b.length : Int) - 1)) (0 : Int)))))) ((shW b (lzI (List.getD b (Int.toNat ((↑b.length : Int) - 1)) (0 : Int)))).length - (1 : Nat))) = true) (h7 : (List.take (shW b (lzI (List.getD b (Int.toNat ((↑b.length : Int) - 1)) (0 : Int)))).length (List.drop (0 : Nat) (shW b (lzI (List.getD b (Int.toNat ((↑b.length : Int) - 1)) (0 : Int)))))).length ≤ (1000000 : Nat)) (h8 : (lzI (List.getD b (Int.toNat ((↑b.length : Int) - 1)) (0 : Int))) = (s)) (h9 : (trW (List.take (shW b (lzI (List.getD b (Int.toNat ((↑b.length : Int) - 1)) (0 : Int)))).length (List.drop (0 : Nat) (shW b (lzI (List.getD b (Int.toNat ((↑b.length : Int) - 1)) (0 : Int))))))) = (v)) :
    Tst.path (vrun Tryz.prog dvdCs (List.drop 5 (fl BDvd [])) 2 (SV0 a b)) [] (toSt Tryz.prog 137 .normal [] (SVa a v s)) :=
  mp (an (fits_i64 h1) (an (decide_eq_true h2) (an (decide_eq_true h3) (an h4 (an h5 (an (show (Nat.beq (shW b (lzI (List.getD b (Int.toNat ((↑b.length : Int) - 1)) (0 : Int)))).length (0 : Nat) || ownHas (OCtr.e oShUp) tU (some (ABlk.own 168 (.int .u64) (shW b (lzI (List.getD b (Int.toNat ((↑b.length : Int) - 1)) (0 : Int)))))) ((0 : Nat) + (shW b (lzI (List.getD b (Int.toNat ((↑b.length : Int) - 1)) (0 : Int)))).length - (1 : Nat))) = true from (by simp only [Nat.zero_add] <;> exact (show (Nat.beq (shW b (lzI (List.getD b (Int.toNat ((↑b.length : Int) - 1)) (0 : Int)))).length (0 : Nat) || ownHas (OCtr.e oShUp) tU (some (ABlk.own 168 (.int .u64) (shW b (lzI (List.getD b (Int.toNat ((↑b.length : Int) - 1)) (0 : Int)))))) ((shW b (lzI (List.getD b (Int.toNat ((↑b.length : Int) - 1)) (0 : Int)))).length - (1 : Nat))) = true from h6))) (an (decide_eq_true h7) (an (rr a) (an h8 (an h9 trivial))))))))))
theorem p2_b (a v : List Int) (s : Int) (m : Nat) (h1 : (okS a s) = true) (h2 : -9223372036854775808 ≤ (↑a.length : Int) - (↑v.length : Int) ∧ (↑a.length : Int) - (↑v.length : Int) ≤ 9223372036854775807) (h3 : -9223372036854775808 ≤ (↑a.length : Int) - (↑v.length : Int) + 1 ∧ (↑a.length : Int) - (↑v.length : Int) + 1 ≤ 9223372036854775807) (h4 : (0 : Int) ≤ (↑a.length : Int) - (↑v.length : Int) + 1) (h5 : Int.toNat ((↑a.length : Int) - (↑v.length : Int) + 1) ≤ 1000000) (h6 : (shW a s).length = (shW a s).length) (h7 : (Int.toNat ((↑a.length : Int) - (↑v.length : Int) + 1)) = (zerW m).length) (h8 : (Cap.known (Int.toNat ((↑a.length : Int) - (↑v.length : Int) + 1))) = (Cap.known m)) (h9 : (capOf (zerW m).length) = (capOf m)) (h10 : ((↑a.length : Int) - (↑v.length : Int)) = ((↑m : Int) - 1)) (h11 : (List.flatten (List.replicate (Int.toNat ((↑a.length : Int) - (↑v.length : Int) + 1)) (List.map AV.raw (Array.toList #[Value.int .u64 (0 : Int)])))) = (List.flatMap (fun x => [AV.raw (Value.int .u64 x)]) (zerW m))) (h12 : (m) = (zerW m).length) :
    Tst.path (vrun Tryz.prog dvdCs (List.drop 7 (fl BDvd [])) 4 (SVa a v s)) [] (toSt Tryz.prog 137 .normal [(64, 64, none), (65, 65, some m)] (SV2 a v (shW a s) (zerW m) s m)) :=
  mp (an h1 (an (fits_i64 h2) (an (fits_i64 h3) (an (decide_eq_true h4) (an (decide_eq_true h4) (an (show (decide (Int.toNat ((↑a.length : Int) - (↑v.length : Int) + 1) ≤ Int.toNat ((↑a.length : Int) - (↑v.length : Int) + 1))) = true from decide_eq_true (by omega)) (an (show (bounded (Int.toNat ((↑a.length : Int) - (↑v.length : Int) + 1)) (8 : Nat)) = true from bounded_of h5 (by omega)) (an (fits_i64 h2) (an (rr a) (an (rr s) (an (rr v) (an (an (rr ((0 : Nat))) (an h6 (rr (Cap.full)))) (an (rr ((↑v.length : Int))) (an (an h7 (an h8 h9)) (an h10 (an (rr (shW a s)) (an (an h11 h12) trivial)))))))))))))))))
theorem p2_z (a v u q : List Int) (s : Int) (k : Nat) (h1 : (↑k : Int) - 1 ≥ 0) (h2 : -9223372036854775808 ≤ (↑k : Int) - 1 + (↑v.length : Int) ∧ (↑k : Int) - 1 + (↑v.length : Int) ≤ 9223372036854775807) (h3 : -9223372036854775808 ≤ (↑k : Int) - 1 + (↑v.length : Int) + 1 ∧ (↑k : Int) - 1 + (↑v.length : Int) + 1 ≤ 9223372036854775807) (h4 : (0 : Int) ≤ (↑k : Int) - 1) (h5 : Int.toNat ((↑k : Int) - 1 + (↑v.length : Int) + 1) ≤ u.length) (h6 : Int.toNat ((↑k : Int) - 1) = (0 : Nat)) (h7 : (ownHas (ECtr.e eStep) (ECtr.t eStep) (some (ABlk.own 168 (.int .u64) u)) (Int.toNat ((↑k : Int) - 1 + (↑v.length : Int) + 1) - (1 : Nat)) && Nat.ble (1 : Nat) (Int.toNat ((↑k : Int) - 1 + (↑v.length : Int) + 1))) = true) (h8 : (stPre u (0 : Nat) (Int.toNat ((↑k : Int) - 1 + (↑v.length : Int) + 1)) v) = true) (h9 : Int.toNat ((↑k : Int) - 1) < q.length) (h10 : -9223372036854775808 ≤ (↑k : Int) - 1 - 1 ∧ (↑k : Int) - 1 - 1 ≤ 9223372036854775807) (h11 : u.length = (stOut u (0 : Nat) (Int.toNat ((↑k : Int) - 1 + (↑v.length : Int) + 1)) v).length) (h12 : q.length = (List.set q (Int.toNat ((↑k : Int) - 1)) (stQ u (0 : Nat) (Int.toNat ((↑k : Int) - 1 + (↑v.length : Int) + 1)) v)).length) (h13 : (capOf q.length) = (capOf (List.set q (Int.toNat ((↑k : Int) - 1)) (stQ u (0 : Nat) (Int.toNat ((↑k : Int) - 1 + (↑v.length : Int) + 1)) v)).length)) :
    Tst.path (vall Tryz.prog dvdCs (fl BDvd dvL2) (SV2 a v u q s k)) [true, true] (toSt Tryz.prog 137 .normal s65 (SV2' a v (stOut u 0 (((k : Int) - 1 + v.length + 1).toNat) v) (q.set ((k : Int) - 1).toNat (stQ u 0 (((k : Int) - 1 + v.length + 1).toNat) v)) s k)) :=
  mp (an (decide_eq_true h1) (an (fits_i64 h2) (an (fits_i64 h3) (an (show (decide ((0 : Int) ≤ (↑k : Int) - 1 + (↑v.length : Int) + 1)) = true from decide_eq_true (by omega)) (an (decide_eq_true h4) (an (show (decide (Int.toNat ((↑k : Int) - 1) ≤ Int.toNat ((↑k : Int) - 1 + (↑v.length : Int) + 1))) = true from decide_eq_true (by omega)) (an (decide_eq_true h5) (an (beq_of h6) (an (show (ownHas (ECtr.e eStep) (ECtr.t eStep) (some (ABlk.own 168 (.int .u64) u)) ((0 : Nat) + Int.toNat ((↑k : Int) - 1 + (↑v.length : Int) + 1) - (1 : Nat)) && Nat.ble (1 : Nat) (Int.toNat ((↑k : Int) - 1 + (↑v.length : Int) + 1))) = true from (by simp only [Nat.zero_add] <;> exact (show (ownHas (ECtr.e eStep) (ECtr.t eStep) (some (ABlk.own 168 (.int .u64) u)) (Int.toNat ((↑k : Int) - 1 + (↑v.length : Int) + 1) - (1 : Nat)) && Nat.ble (1 : Nat) (Int.toNat ((↑k : Int) - 1 + (↑v.length : Int) + 1))) = true from h7))) (an h8 (an (decide_eq_true h4) (an (decide_eq_true h9) (an (show (ownHas 168 tU (optOwn (nat_lit 168) tU q) ((0 : Nat) + Int.toNat ((↑k : Int) - 1))) = true from (by simp only [Nat.zero_add] <;> exact (show (ownHas 168 tU (optOwn (nat_lit 168) tU q) (Int.toNat ((↑k : Int) - 1))) = true from (by rw [ownHas_optOwn]; exact decide_eq_true h9)))) (an (fits_i64 h10) (an (rr a) (an (rr s) (an (rr v) (an (an (rr ((0 : Nat))) (an h11 (rr (Cap.full)))) (an (rr ((↑v.length : Int))) (an (an (rr ((0 : Nat))) (an h12 h13)) (an (rr ((↑k : Int) - 1 - 1)) (an (rr (stOut u (0 : Nat) (Int.toNat ((↑k : Int) - 1 + (↑v.length : Int) + 1)) v)) (an (show (List.set (blkXs tU (optOwn (nat_lit 168) tU q)) ((0 : Nat) + Int.toNat ((↑k : Int) - 1)) (stQ u (0 : Nat) (Int.toNat ((↑k : Int) - 1 + (↑v.length : Int) + 1)) v)) = (List.set q (Int.toNat ((↑k : Int) - 1)) (stQ u (0 : Nat) (Int.toNat ((↑k : Int) - 1 + (↑v.length : Int) + 1)) v)) from (by simp only [blkXs_optOwn, Nat.zero_add] <;> rfl)) trivial)))))))))))))))))))))))
theorem p2_s (a v u q : List Int) (s : Int) (k : Nat) (h1 : (↑k : Int) - 1 ≥ 0) (h2 : -9223372036854775808 ≤ (↑k : Int) - 1 + (↑v.length : Int) ∧ (↑k : Int) - 1 + (↑v.length : Int) ≤ 9223372036854775807) (h3 : -9223372036854775808 ≤ (↑k : Int) - 1 + (↑v.length : Int) + 1 ∧ (↑k : Int) - 1 + (↑v.length : Int) + 1 ≤ 9223372036854775807) (h4 : (0 : Int) ≤ (↑k : Int) - 1) (h5 : Int.toNat ((↑k : Int) - 1 + (↑v.length : Int) + 1) ≤ u.length) (h6 : (Nat.beq (Int.toNat ((↑k : Int) - 1)) (0 : Nat)) = false) (h7 : Int.toNat ((↑k : Int) - 1) < Int.toNat ((↑k : Int) - 1 + (↑v.length : Int) + 1)) (h8 : (ownHas (ECtr.e eStep) (ECtr.t eStep) (some (ABlk.own 168 (.int .u64) u)) (Int.toNat ((↑k : Int) - 1) + (Int.toNat ((↑k : Int) - 1 + (↑v.length : Int) + 1) - Int.toNat ((↑k : Int) - 1)) - (1 : Nat)) && Nat.ble (1 : Nat) (Int.toNat ((↑k : Int) - 1 + (↑v.length : Int) + 1) - Int.toNat ((↑k : Int) - 1))) = true) (h9 : (stPre u (Int.toNat ((↑k : Int) - 1)) (Int.toNat ((↑k : Int) - 1 + (↑v.length : Int) + 1) - Int.toNat ((↑k : Int) - 1)) v) = true) (h10 : Int.toNat ((↑k : Int) - 1) < q.length) (h11 : -9223372036854775808 ≤ (↑k : Int) - 1 - 1 ∧ (↑k : Int) - 1 - 1 ≤ 9223372036854775807) (h12 : u.length = (stOut u (Int.toNat ((↑k : Int) - 1)) (Int.toNat ((↑k : Int) - 1 + (↑v.length : Int) + 1) - Int.toNat ((↑k : Int) - 1)) v).length) (h13 : q.length = (List.set q (Int.toNat ((↑k : Int) - 1)) (stQ u (Int.toNat ((↑k : Int) - 1)) (Int.toNat ((↑k : Int) - 1 + (↑v.length : Int) + 1) - Int.toNat ((↑k : Int) - 1)) v)).length) (h14 : (capOf q.length) = (capOf (List.set q (Int.toNat ((↑k : Int) - 1)) (stQ u (Int.toNat ((↑k : Int) - 1)) (Int.toNat ((↑k : Int) - 1 + (↑v.length : Int) + 1) - Int.toNat ((↑k : Int) - 1)) v)).length)) :
    Tst.path (vall Tryz.prog dvdCs (fl BDvd dvL2) (SV2 a v u q s k)) [true, false, true] (toSt Tryz.prog 137 .normal s65 (SV2' a v (stOut u ((k : Int) - 1).toNat ((((k : Int) - 1 + v.length + 1).toNat) - ((k : Int) - 1).toNat) v) (q.set ((k : Int) - 1).toNat (stQ u ((k : Int) - 1).toNat ((((k : Int) - 1 + v.length + 1).toNat) - ((k : Int) - 1).toNat) v)) s k)) :=
  mp (an (decide_eq_true h1) (an (fits_i64 h2) (an (fits_i64 h3) (an (show (decide ((0 : Int) ≤ (↑k : Int) - 1 + (↑v.length : Int) + 1)) = true from decide_eq_true (by omega)) (an (decide_eq_true h4) (an (show (decide (Int.toNat ((↑k : Int) - 1) ≤ Int.toNat ((↑k : Int) - 1 + (↑v.length : Int) + 1))) = true from decide_eq_true (by omega)) (an (decide_eq_true h5) (an h6 (an (decide_eq_true h7) (an (show (ownHas (ECtr.e eStep) (ECtr.t eStep) (some (ABlk.own 168 (.int .u64) u)) ((0 : Nat) + Int.toNat ((↑k : Int) - 1) + (Int.toNat ((↑k : Int) - 1 + (↑v.length : Int) + 1) - Int.toNat ((↑k : Int) - 1)) - (1 : Nat)) && Nat.ble (1 : Nat) (Int.toNat ((↑k : Int) - 1 + (↑v.length : Int) + 1) - Int.toNat ((↑k : Int) - 1))) = true from (by simp only [Nat.zero_add] <;> exact (show (ownHas (ECtr.e eStep) (ECtr.t eStep) (some (ABlk.own 168 (.int .u64) u)) (Int.toNat ((↑k : Int) - 1) + (Int.toNat ((↑k : Int) - 1 + (↑v.length : Int) + 1) - Int.toNat ((↑k : Int) - 1)) - (1 : Nat)) && Nat.ble (1 : Nat) (Int.toNat ((↑k : Int) - 1 + (↑v.length : Int) + 1) - Int.toNat ((↑k : Int) - 1))) = true from h8))) (an (show (stPre u ((0 : Nat) + Int.toNat ((↑k : Int) - 1)) (Int.toNat ((↑k : Int) - 1 + (↑v.length : Int) + 1) - Int.toNat ((↑k : Int) - 1)) v) = true from (by simp only [Nat.zero_add] <;> exact (show (stPre u (Int.toNat ((↑k : Int) - 1)) (Int.toNat ((↑k : Int) - 1 + (↑v.length : Int) + 1) - Int.toNat ((↑k : Int) - 1)) v) = true from h9))) (an (decide_eq_true h4) (an (decide_eq_true h10) (an (show (ownHas 168 tU (optOwn (nat_lit 168) tU q) ((0 : Nat) + Int.toNat ((↑k : Int) - 1))) = true from (by simp only [Nat.zero_add] <;> exact (show (ownHas 168 tU (optOwn (nat_lit 168) tU q) (Int.toNat ((↑k : Int) - 1))) = true from (by rw [ownHas_optOwn]; exact decide_eq_true h10)))) (an (fits_i64 h11) (an (rr a) (an (rr s) (an (rr v) (an (an (rr ((0 : Nat))) (an h12 (rr (Cap.full)))) (an (rr ((↑v.length : Int))) (an (an (rr ((0 : Nat))) (an h13 h14)) (an (rr ((↑k : Int) - 1 - 1)) (an (show (stOut u ((0 : Nat) + Int.toNat ((↑k : Int) - 1)) (Int.toNat ((↑k : Int) - 1 + (↑v.length : Int) + 1) - Int.toNat ((↑k : Int) - 1)) v) = (stOut u (Int.toNat ((↑k : Int) - 1)) (Int.toNat ((↑k : Int) - 1 + (↑v.length : Int) + 1) - Int.toNat ((↑k : Int) - 1)) v) from (by simp only [Nat.zero_add])) (an (show (List.set (blkXs tU (optOwn (nat_lit 168) tU q)) ((0 : Nat) + Int.toNat ((↑k : Int) - 1)) (stQ u ((0 : Nat) + Int.toNat ((↑k : Int) - 1)) (Int.toNat ((↑k : Int) - 1 + (↑v.length : Int) + 1) - Int.toNat ((↑k : Int) - 1)) v)) = (List.set q (Int.toNat ((↑k : Int) - 1)) (stQ u (Int.toNat ((↑k : Int) - 1)) (Int.toNat ((↑k : Int) - 1 + (↑v.length : Int) + 1) - Int.toNat ((↑k : Int) - 1)) v)) from (by simp only [blkXs_optOwn, Nat.zero_add] <;> rfl)) trivial))))))))))))))))))))))))
theorem p2_end (a v u q : List Int) (s : Int) (k : Nat) (h1 : ¬(↑k : Int) - 1 ≥ 0) :
    Tst.path (vall Tryz.prog dvdCs (fl BDvd dvL2) (SV2 a v u q s k)) [false] (toSt Tryz.prog 137 (.exit 2) s65 (SV2 a v u q s k)) :=
  mp (an (decide_eq_false h1) (an (rr a) (an (rr s) (an (rr v) (an (an (rr ((0 : Nat))) (an (rr u.length) (rr (Cap.full)))) (an (rr ((↑v.length : Int))) (an (an (rr ((0 : Nat))) (an (rr q.length) (rr (capOf q.length)))) (an (rr ((↑k : Int) - 1)) (an (rr u) (an (show (fitOpt Tryz.prog none (optOwn (nat_lit 168) tU q) (nat_lit 168) tU q) from (fitOpt_refl _ _ _ _)) trivial))))))))))
theorem p3_start (a v u q : List Int) (s : Int) (k : Nat)  :
    Tst.path (vrun Tryz.prog dvdCs (List.drop 12 (fl BDvd [])) 1 (SV2 a v u q s k)) [] (toSt Tryz.prog 137 .normal s65 (SV3 v.length u q s 0)) :=
  mp (an (rr s) (an (an (rr ((0 : Nat))) (an (rr u.length) (rr (Cap.full)))) (an (rr ((↑v.length : Int))) (an (an (rr ((0 : Nat))) (an (rr q.length) (rr (capOf q.length)))) (an (rr ((↑v.length : Int))) (an (rr ((0 : Int))) (an (rr u) (an (show (fitOpt Tryz.prog none (optOwn (nat_lit 168) tU q) (nat_lit 168) tU q) from (fitOpt_refl _ _ _ _)) trivial))))))))
theorem p3_two (n : Nat) (u q : List Int) (s : Int) (i : Nat) (h1 : (↑i : Int) < (↑n : Int)) (h2 : i < u.length) (h3 : (ownHas 168 tU (some (ABlk.own 168 (.int .u64) u)) i) = true) (h4 : (0 : Int) ≤ s) (h5 : s > 0) (h6 : -9223372036854775808 ≤ (↑i : Int) + 1 ∧ (↑i : Int) + 1 ≤ 9223372036854775807) (h7 : (↑i : Int) + 1 < (↑u.length : Int)) (h8 : (ownHas 168 tU (some (ABlk.own 168 (.int .u64) (List.set u i (Int.fdiv (List.getD u i (0 : Int)) ((2 : Int) ^ min (Int.toNat s) (64 : Nat)))))) i) = true) (h9 : Int.toNat ((↑i : Int) + 1) < u.length) (h10 : (ownHas 168 tU (some (ABlk.own 168 (.int .u64) (List.set u i (Int.fdiv (List.getD u i (0 : Int)) ((2 : Int) ^ min (Int.toNat s) (64 : Nat)))))) (Int.toNat ((↑i : Int) + 1))) = true) (h11 : -9223372036854775808 ≤ 64 - s ∧ (64 : Int) - s ≤ 9223372036854775807) (h12 : (0 : Int) ≤ 64 - s) (h13 : u.length = (List.set (List.set u i (shrU (List.getD u i (0 : Int)) s)) i (orU (List.getD (List.set u i (shrU (List.getD u i (0 : Int)) s)) i (0 : Int)) (shlU (List.getD (List.set u i (shrU (List.getD u i (0 : Int)) s)) (i + (1 : Nat)) (0 : Int)) ((64 : Int) - s)))).length) (h14 : (List.set (List.set u i (Int.fdiv (List.getD u i (0 : Int)) ((2 : Int) ^ min (Int.toNat s) (64 : Nat)))) i (IntKind.wrap IntKind.u64 (↑(BitVec.toNat (BitVec.ofInt (64 : Nat) (List.getD (List.set u i (Int.fdiv (List.getD u i (0 : Int)) ((2 : Int) ^ min (Int.toNat s) (64 : Nat)))) i (0 : Int)) ||| BitVec.ofInt (64 : Nat) (IntKind.wrap IntKind.u64 (List.getD (List.set u i (Int.fdiv (List.getD u i (0 : Int)) ((2 : Int) ^ min (Int.toNat s) (64 : Nat)))) (Int.toNat ((↑i : Int) + 1)) (0 : Int) * (2 : Int) ^ min (Int.toNat ((64 : Int) - s)) (64 : Nat))))) : Int))) = (List.set (List.set u i (shrU (List.getD u i (0 : Int)) s)) i (orU (List.getD (List.set u i (shrU (List.getD u i (0 : Int)) s)) i (0 : Int)) (shlU (List.getD (List.set u i (shrU (List.getD u i (0 : Int)) s)) (i + (1 : Nat)) (0 : Int)) ((64 : Int) - s))))) :
    Tst.path (vall Tryz.prog dvdCs (fl BDvd dvL3) (SV3 n u q s i)) [true, true, true, true, true, true, true, true] (toSt Tryz.prog 137 .normal s65 (SV3 n ((u.set i (shrU (u.getD i 0) s)).set i (orU ((u.set i (shrU (u.getD i 0) s)).getD i 0) (shlU ((u.set i (shrU (u.getD i 0) s)).getD (i + 1) 0) (64 - s)))) q s (i + 1))) :=
  mp (an (decide_eq_true h1) (an (show (decide ((0 : Int) ≤ (↑i : Int))) = true from decide_eq_true (by omega)) (an (decide_eq_true h2) (an (show (ownHas 168 tU (some (ABlk.own 168 (.int .u64) u)) ((0 : Nat) + i)) = true from (by simp only [Nat.zero_add] <;> exact (show (ownHas 168 tU (some (ABlk.own 168 (.int .u64) u)) i) = true from h3))) (an (decide_eq_true h4) (an (show (decide ((0 : Int) ≤ (↑i : Int))) = true from decide_eq_true (by omega)) (an (decide_eq_true h2) (an (show (ownHas 168 tU (some (ABlk.own 168 (.int .u64) u)) ((0 : Nat) + i)) = true from (by simp only [Nat.zero_add] <;> exact (show (ownHas 168 tU (some (ABlk.own 168 (.int .u64) u)) i) = true from h3))) (an (bT (decide_eq_true h5)) (an (bT (decide_eq_true h5)) (an (fits_i64 h6) (an (bT (decide_eq_true h5)) (an (bT (decide_eq_true h5)) (an (bT (decide_eq_true h5)) (an (decide_eq_true h5) (an (decide_eq_true h7) (an (show (decide ((0 : Int) ≤ (↑i : Int))) = true from decide_eq_true (by omega)) (an (decide_eq_true h2) (an (show (ownHas 168 tU (some (ABlk.own 168 (.int .u64) (List.set u ((0 : Nat) + i) (Int.fdiv (List.getD u ((0 : Nat) + i) (0 : Int)) ((2 : Int) ^ min (Int.toNat s) (64 : Nat)))))) ((0 : Nat) + i)) = true from (by simp only [Nat.zero_add] <;> exact (show (ownHas 168 tU (some (ABlk.own 168 (.int .u64) (List.set u i (Int.fdiv (List.getD u i (0 : Int)) ((2 : Int) ^ min (Int.toNat s) (64 : Nat)))))) i) = true from h8))) (an (show (ownHas 168 tU (some (ABlk.own 168 (.int .u64) (List.set u ((0 : Nat) + i) (Int.fdiv (List.getD u ((0 : Nat) + i) (0 : Int)) ((2 : Int) ^ min (Int.toNat s) (64 : Nat)))))) ((0 : Nat) + i)) = true from (by simp only [Nat.zero_add] <;> exact (show (ownHas 168 tU (some (ABlk.own 168 (.int .u64) (List.set u i (Int.fdiv (List.getD u i (0 : Int)) ((2 : Int) ^ min (Int.toNat s) (64 : Nat)))))) i) = true from h8))) (an (sr (AV.raw (Value.int .u64 (List.getD (List.set u ((0 : Nat) + i) (Int.fdiv (List.getD u ((0 : Nat) + i) (0 : Int)) ((2 : Int) ^ min (Int.toNat s) (64 : Nat)))) ((0 : Nat) + i) (0 : Int))))) (an (fits_i64 h6) (an (show (decide ((0 : Int) ≤ (↑i : Int) + 1)) = true from decide_eq_true (by omega)) (an (decide_eq_true h9) (an (show (ownHas 168 tU (some (ABlk.own 168 (.int .u64) (List.set u ((0 : Nat) + i) (Int.fdiv (List.getD u ((0 : Nat) + i) (0 : Int)) ((2 : Int) ^ min (Int.toNat s) (64 : Nat)))))) ((0 : Nat) + Int.toNat ((↑i : Int) + 1))) = true from (by simp only [Nat.zero_add] <;> exact (show (ownHas 168 tU (some (ABlk.own 168 (.int .u64) (List.set u i (Int.fdiv (List.getD u i (0 : Int)) ((2 : Int) ^ min (Int.toNat s) (64 : Nat)))))) (Int.toNat ((↑i : Int) + 1))) = true from h10))) (an (show (ownHas 168 tU (some (ABlk.own 168 (.int .u64) (List.set u ((0 : Nat) + i) (Int.fdiv (List.getD u ((0 : Nat) + i) (0 : Int)) ((2 : Int) ^ min (Int.toNat s) (64 : Nat)))))) ((0 : Nat) + Int.toNat ((↑i : Int) + 1))) = true from (by simp only [Nat.zero_add] <;> exact (show (ownHas 168 tU (some (ABlk.own 168 (.int .u64) (List.set u i (Int.fdiv (List.getD u i (0 : Int)) ((2 : Int) ^ min (Int.toNat s) (64 : Nat)))))) (Int.toNat ((↑i : Int) + 1))) = true from h10))) (an (sr (AV.raw (Value.int .u64 (List.getD (List.set u ((0 : Nat) + i) (Int.fdiv (List.getD u ((0 : Nat) + i) (0 : Int)) ((2 : Int) ^ min (Int.toNat s) (64 : Nat)))) ((0 : Nat) + Int.toNat ((↑i : Int) + 1)) (0 : Int))))) (an (fits_i64 h11) (an (decide_eq_true h12) (an (show (decide ((0 : Int) ≤ (↑i : Int))) = true from decide_eq_true (by omega)) (an (decide_eq_true h2) (an (show (ownHas 168 tU (some (ABlk.own 168 (.int .u64) (List.set u ((0 : Nat) + i) (Int.fdiv (List.getD u ((0 : Nat) + i) (0 : Int)) ((2 : Int) ^ min (Int.toNat s) (64 : Nat)))))) ((0 : Nat) + i)) = true from (by simp only [Nat.zero_add] <;> exact (show (ownHas 168 tU (some (ABlk.own 168 (.int .u64) (List.set u i (Int.fdiv (List.getD u i (0 : Int)) ((2 : Int) ^ min (Int.toNat s) (64 : Nat)))))) i) = true from h8))) (an (fits_i64 h6) (an (rr s) (an (an (rr ((0 : Nat))) (an h13 (rr (Cap.full)))) (an (rr ((↑n : Int))) (an (an (rr ((0 : Nat))) (an (rr q.length) (rr (capOf q.length)))) (an (rr ((↑n : Int))) (an (show ((↑i : Int) + 1) = ((↑(i + (1 : Nat)) : Int)) from (by omega)) (an (show (List.set (List.set u ((0 : Nat) + i) (Int.fdiv (List.getD u ((0 : Nat) + i) (0 : Int)) ((2 : Int) ^ min (Int.toNat s) (64 : Nat)))) ((0 : Nat) + i) (IntKind.wrap IntKind.u64 (↑(BitVec.toNat (BitVec.ofInt (64 : Nat) (List.getD (List.set u ((0 : Nat) + i) (Int.fdiv (List.getD u ((0 : Nat) + i) (0 : Int)) ((2 : Int) ^ min (Int.toNat s) (64 : Nat)))) ((0 : Nat) + i) (0 : Int)) ||| BitVec.ofInt (64 : Nat) (IntKind.wrap IntKind.u64 (List.getD (List.set u ((0 : Nat) + i) (Int.fdiv (List.getD u ((0 : Nat) + i) (0 : Int)) ((2 : Int) ^ min (Int.toNat s) (64 : Nat)))) ((0 : Nat) + Int.toNat ((↑i : Int) + 1)) (0 : Int) * (2 : Int) ^ min (Int.toNat ((64 : Int) - s)) (64 : Nat))))) : Int))) = (List.set (List.set u i (shrU (List.getD u i (0 : Int)) s)) i (orU (List.getD (List.set u i (shrU (List.getD u i (0 : Int)) s)) i (0 : Int)) (shlU (List.getD (List.set u i (shrU (List.getD u i (0 : Int)) s)) (i + (1 : Nat)) (0 : Int)) ((64 : Int) - s)))) from (by simp only [Nat.zero_add] <;> exact h14)) (an (show (fitOpt Tryz.prog none (optOwn (nat_lit 168) tU q) (nat_lit 168) tU q) from (fitOpt_refl _ _ _ _)) trivial)))))))))))))))))))))))))))))))))))))))))
theorem p3_one (n : Nat) (u q : List Int) (s : Int) (i : Nat) (h1 : (↑i : Int) < (↑n : Int)) (h2 : i < u.length) (h3 : (ownHas 168 tU (some (ABlk.own 168 (.int .u64) u)) i) = true) (h4 : (0 : Int) ≤ s) (h5 : ¬s > 0) (h6 : -9223372036854775808 ≤ (↑i : Int) + 1 ∧ (↑i : Int) + 1 ≤ 9223372036854775807) (h7 : u.length = (List.set u i (shrU (List.getD u i (0 : Int)) s)).length) (h8 : (List.set u i (Int.fdiv (List.getD u i (0 : Int)) ((2 : Int) ^ min (Int.toNat s) (64 : Nat)))) = (List.set u i (shrU (List.getD u i (0 : Int)) s))) :
    Tst.path (vall Tryz.prog dvdCs (fl BDvd dvL3) (SV3 n u q s i)) [true, false, false, false, false, false, false, false] (toSt Tryz.prog 137 .normal s65 (SV3 n (u.set i (shrU (u.getD i 0) s)) q s (i + 1))) :=
  mp (an (decide_eq_true h1) (an (show (decide ((0 : Int) ≤ (↑i : Int))) = true from decide_eq_true (by omega)) (an (decide_eq_true h2) (an (show (ownHas 168 tU (some (ABlk.own 168 (.int .u64) u)) ((0 : Nat) + i)) = true from (by simp only [Nat.zero_add] <;> exact (show (ownHas 168 tU (some (ABlk.own 168 (.int .u64) u)) i) = true from h3))) (an (decide_eq_true h4) (an (show (decide ((0 : Int) ≤ (↑i : Int))) = true from decide_eq_true (by omega)) (an (decide_eq_true h2) (an (show (ownHas 168 tU (some (ABlk.own 168 (.int .u64) u)) ((0 : Nat) + i)) = true from (by simp only [Nat.zero_add] <;> exact (show (ownHas 168 tU (some (ABlk.own 168 (.int .u64) u)) i) = true from h3))) (an (bT (decide_eq_false h5)) (an (bT (decide_eq_false h5)) (an (bT (decide_eq_false h5)) (an (bT (decide_eq_false h5)) (an (bT (decide_eq_false h5)) (an (decide_eq_false h5) (an rf (an (fits_i64 h6) (an (rr s) (an (an (rr ((0 : Nat))) (an h7 (rr (Cap.full)))) (an (rr ((↑n : Int))) (an (an (rr ((0 : Nat))) (an (rr q.length) (rr (capOf q.length)))) (an (rr ((↑n : Int))) (an (show ((↑i : Int) + 1) = ((↑(i + (1 : Nat)) : Int)) from (by omega)) (an (show (List.set u ((0 : Nat) + i) (Int.fdiv (List.getD u ((0 : Nat) + i) (0 : Int)) ((2 : Int) ^ min (Int.toNat s) (64 : Nat)))) = (List.set u i (shrU (List.getD u i (0 : Int)) s)) from (by simp only [Nat.zero_add] <;> exact h8)) (an (show (fitOpt Tryz.prog none (optOwn (nat_lit 168) tU q) (nat_lit 168) tU q) from (fitOpt_refl _ _ _ _)) trivial))))))))))))))))))))))))
theorem p3_end (n : Nat) (u q : List Int) (s : Int) (i : Nat) (h1 : ¬(↑i : Int) < (↑n : Int)) :
    Tst.path (vall Tryz.prog dvdCs (fl BDvd dvL3) (SV3 n u q s i)) [false] (toSt Tryz.prog 137 (.exit 4) s65 (SV3 n u q s i)) :=
  mp (an (decide_eq_false h1) (an (rr s) (an (an (rr ((0 : Nat))) (an (rr u.length) (rr (Cap.full)))) (an (rr ((↑n : Int))) (an (an (rr ((0 : Nat))) (an (rr q.length) (rr (capOf q.length)))) (an (rr ((↑n : Int))) (an (rr ((↑i : Int))) (an (rr u) (an (show (fitOpt Tryz.prog none (optOwn (nat_lit 168) tU q) (nat_lit 168) tU q) from (fitOpt_refl _ _ _ _)) trivial)))))))))
theorem p4_ret (n : Nat) (u q : List Int) (s : Int) (i : Nat) (h1 : (Nat.beq q.length (0 : Nat) || ownHas 168 tU (optOwn (nat_lit 168) tU q) (q.length - (1 : Nat))) = true) (h2 : (List.take q.length (List.drop (0 : Nat) q)).length ≤ (1000000 : Nat)) (h3 : n ≤ u.length) (h4 : (Nat.beq n (0 : Nat) || ownHas 168 tU (some (ABlk.own 168 (.int .u64) u)) (n - (1 : Nat))) = true) (h5 : (List.take n (List.drop (0 : Nat) u)).length ≤ (1000000 : Nat)) (h6 : (trW (List.take q.length (List.drop (0 : Nat) q))) = (trW q)) (h7 : (trW (List.take n (List.drop (0 : Nat) u))) = (trW (List.take n u))) :
    Tst.path (vall Tryz.prog dvdCs (List.drop 14 (fl BDvd [])) (SV3 n u q s i)) [true] (toRet Tryz.prog Tryz.f164 false (.tuple [lu (trW q), lu (trW (u.take n))])) :=
  mp (an (show (Nat.beq q.length (0 : Nat) || ownHas 168 tU (optOwn (nat_lit 168) tU q) ((0 : Nat) + q.length - (1 : Nat))) = true from (by simp only [Nat.zero_add] <;> exact (show (Nat.beq q.length (0 : Nat) || ownHas 168 tU (optOwn (nat_lit 168) tU q) (q.length - (1 : Nat))) = true from h1))) (an (show (decide ((List.take q.length (List.drop (0 : Nat) (blkXs tU (optOwn (nat_lit 168) tU q)))).length ≤ (1000000 : Nat))) = true from (by simp only [blkXs_optOwn] <;> exact (show (decide ((List.take q.length (List.drop (0 : Nat) q)).length ≤ (1000000 : Nat))) = true from decide_eq_true h2))) (an (show (decide ((0 : Int) ≤ (↑n : Int))) = true from decide_eq_true (by omega)) (an (show (decide ((0 : Nat) ≤ n)) = true from decide_eq_true (by omega)) (an (decide_eq_true h3) (an rt (an (show (Nat.beq n (0 : Nat) || ownHas 168 tU (some (ABlk.own 168 (.int .u64) u)) ((0 : Nat) + n - (1 : Nat))) = true from (by simp only [Nat.zero_add] <;> exact (show (Nat.beq n (0 : Nat) || ownHas 168 tU (some (ABlk.own 168 (.int .u64) u)) (n - (1 : Nat))) = true from h4))) (an (decide_eq_true h5) (an (show (trW (List.take q.length (List.drop (0 : Nat) (blkXs tU (optOwn (nat_lit 168) tU q))))) = (trW q) from (by simp only [blkXs_optOwn] <;> exact h6)) (an h7 trivial))))))))))
end
end Go.Proofs.YtjcbbabaabcdgaaGreatDoor
/- Package num: long division of words: the walk. -/
namespace Go.Proofs.YtjcbbabaabcdgaaGreatDoor
open Go.RowKit Sv
set_option maxRecDepth 100000
set_option linter.unusedVariables false
noncomputable section
theorem goalL_cond {X : Ext} {P : Program} {w0 : World} {F : Sv.Env} {n : Nat} {T : Tr AV} {H : AHeap} {Q : Exit → Tr AV → AHeap → Prop} {l rest : List Code} {o : Operand} {x y : Code} (hl : l = .cond o x y :: rest) (hb : boolV (evT T o) = .mk true)
    (h : GoalLX X P w0 F n (flatC x) T H (onN (fun T H => GoalLX X P w0 F n rest T H Q) Q)) : GoalLX X P w0 F n l T H Q := by
  subst hl
  intro a w hs k
  obtain ⟨ρ, hAR, _⟩ := hs.ex
  have hc := evT_ok hAR.T hAR.G o
  rw [boolV_mk hb] at hc
  exact wpIn_cond hc.raw_eq (goal_flat h a w hs k)
theorem dvd_ok : CallOk Tryz.prog (gS dvdCs) := by
  refine octrs_ok (fun c hc => ?_) (ectrs_ok (fun c hc => ?_) (gctrs_ok (fun c hc => ?_) (ctrs_ok fun c hc => ?_)))
  · rw [List.mem_singleton.1 hc]; exact oShUp_ok
  · rw [List.mem_singleton.1 hc]; exact eStep_ok
  · rw [List.mem_singleton.1 hc]; exact cTrim_ok
  · simp only [List.mem_cons, List.not_mem_nil, or_false] at hc
    rcases hc with rfl | rfl | rfl
    · exact cCmpW_ok
    · exact cDiv64_ok
    · exact cLz_ok
def okDv (a b : List Int) : Bool := okC2 a b && (decide (1 ≤ b.length) && (decide (a.length ≤ 300000) && decide (b.length ≤ 300000)))
def dvQ (a b : List Int) : List Int := dgN 18446744073709551616 (vw a / vw b)
def dvR (a b : List Int) : List Int := dgN 18446744073709551616 (vw a % vw b)
noncomputable def cDvd : Ctr := { f := 164, ps := [.list false tU, .list false tU], rs := [.list false tU, .list false tU], fresh := false, pre := fun d => okDv d.1 d.2.1, fn := fun d => (dvQ d.1 d.2.1, (dvR d.1 d.2.1, ())) }
abbrev dvEnd (q r : List Int) : Exit → Tr AV → AHeap → Prop := retQ Tryz.prog false Tryz.f164 (.tuple [lu q, lu r])
theorem ev_opt {l : List Int} {k : Nat} (h : k = l.length) : (Nat.beq l.length 0 || ownHas 168 tU (optOwn 168 tU l) (k - 1)) = true := by
  subst h
  cases l with
  | nil => rfl
  | cons x r => rw [ownHas_optOwn]; simp
theorem one_run {a : List Int} {y : Int} (ha : Dg 18446744073709551616 a) (hy : 1 ≤ y ∧ y < 18446744073709551616) (hla : a.length ≤ 300000) (w : World) (F : Sv.Env) :
    GoalL Tryz.prog w F 137 (fl BDvd dvT) (SV0 a [y]).T (SV0 a [y]).H (fun e T H => e = .ret ∧ dvEnd (dvQ a [y]) (dvR a [y]) .ret T H) := by
  have hS := dvd_ok
  refine GoalL.st (s := SV0 a [y]) known mixed hS 3 _ (p1_start a [y] (by omega) (by omega) (zer_len _).symm (by rw [zer_len]) (zer_cells _)) (by kernel_rfl) ?_
  refine GoalL.loop (ι := { x : List Int × Int × Nat // x.2.2 ≤ a.length ∧ x.1.length = a.length ∧ Dg 18446744073709551616 x.1 ∧ (0 ≤ x.2.1 ∧ x.2.1 < y) ∧ vw (a.drop x.2.2) = vw (x.1.drop x.2.2) * y + x.2.1 }) (id := 0) (b := cat BDvd dvL1) (rest := List.drop 4 (fl BDvd dvT)) (by kernel_rfl) (fun x => SV1 a [y] x.1.1 x.1.2.1 x.1.2.2) (fun x => x.1.2.2)
    ⟨(zerW a.length, 0, a.length), Nat.le_refl _, zer_len _, zer_dg _, ⟨Int.le_refl 0, show (0 : Int) < y by omega⟩, by
      show vw (a.drop a.length) = vw ((zerW a.length).drop a.length) * y + 0
      rw [List.drop_length, List.drop_eq_nil_of_le (by rw [zer_len]; exact Nat.le_refl _)]; simp [vw, vl]⟩ (fun _ => rfl) ?_
  rintro ⟨⟨q, r, k⟩, hk, hq, hdq, hr, hv⟩
  have hk : k ≤ a.length := hk
  have hq : q.length = a.length := hq
  have hdq : Dg 18446744073709551616 q := hdq
  have hr : 0 ≤ r ∧ r < y := hr
  have hv : vw (a.drop k) = vw (q.drop k) * y + r := hv
  cases k with
  | zero =>
    refine GoalL.all (s := SV1 a [y] q r 0) known mixed hS _ (p1_end a [y] q r 0 (by omega)) (by kernel_rfl) ?_
    refine onN_exit (inB_exit ?_)
    rw [List.drop_zero, List.drop_zero] at hv
    have e1 : vw [y] = y := vw_one y
    obtain ⟨g1, g2⟩ := quot_of (U := vw a) (V := y) (t := vw q) (by omega) (by omega) (by omega)
    have e2 : dvQ a [y] = trW q := by unfold dvQ; rw [e1, g1, trW_dg hdq]
    have e3 : dvR a [y] = trW [r] := by
      unfold dvR
      rw [e1, g2, trW_dg (dg1 (by omega)), vw_one]
      congr 1; omega
    rw [e2, e3]
    have e4 : List.take q.length (List.drop 0 q) = q := by simp
    exact GoalL.allRet (s := SV1 a [y] q r 0) known mixed hS _ (p1_ret a [y] q r 0 (ev_opt rfl) (by rw [e4]; omega) (Nat.le_refl 1) (by simp) (by rw [e4])) fun T H h => ⟨rfl, h⟩
  | succ j =>
    have ej : (((j + 1 : Nat) : Int) - 1).toNat = j := by omega
    have haj := ha.get (by decide) j
    have hD : okD r (a.getD j 0) y = true := by
      unfold okD
      rw [okU_iff.2 haj, okU_iff.2 (by omega), decide_eq_true hr.1, decide_eq_true hr.2]; rfl
    have hdm := Int.emod_add_mul_ediv (r * 18446744073709551616 + a.getD j 0) y
    have hm0 := Int.emod_nonneg (r * 18446744073709551616 + a.getD j 0) (show y ≠ 0 by omega)
    have hm1 := Int.emod_lt_of_pos (r * 18446744073709551616 + a.getD j 0) (show 0 < y by omega)
    have hq0 : 0 ≤ (r * 18446744073709551616 + a.getD j 0) / y := Int.ediv_nonneg (by omega) (by omega)
    have hq1 : (r * 18446744073709551616 + a.getD j 0) / y < 18446744073709551616 := (Int.ediv_lt_iff_lt_mul (by omega)).2 (by
      have : (r + 1) * 18446744073709551616 ≤ y * 18446744073709551616 := Int.mul_le_mul_of_nonneg_right (by omega) (by decide)
      rw [Int.mul_comm _ y]; omega)
    refine GoalL.all (s := SV1 a [y] q r (j + 1)) known mixed hS _ (p1_go a [y] q r (j + 1) (by omega) (by omega) (by omega) (by simp) (by rw [ej]; exact hD) (by omega) (by omega) (by rw [List.length_set]) (by rw [List.length_set]) rfl rfl) (by kernel_rfl) ?_
    rw [ej]
    have e5 : (((j + 1 : Nat) : Int) - 1 - 1) = (j : Int) - 1 := by omega
    refine ⟨⟨(q.set j (div64Q r (a.getD j 0) y), div64R r (a.getD j 0) y, j), by show j ≤ _; omega, by show (q.set j _).length = _; rw [List.length_set]; exact hq, hdq.set ⟨hq0, hq1⟩, ⟨hm0, hm1⟩, ?_⟩, by show j < j + 1; omega, ?_, ?_⟩
    · show vw (a.drop j) = vw ((q.set j (div64Q r (a.getD j 0) y)).drop j) * y + div64R r (a.getD j 0) y
      unfold vw at hv ⊢
      rw [vl_drop (l := a) (by omega), vl_drop (l := q.set j _) (by rw [List.length_set]; omega), set_at (by omega), hv]
      have e6 : (q.set j (div64Q r (a.getD j 0) y)).drop (j + 1) = q.drop (j + 1) := by rw [List.drop_set]; rw [if_pos (by omega)]
      rw [e6]
      unfold div64Q div64R
      generalize vl 18446744073709551616 (q.drop (j + 1)) = z at *
      generalize (r * 18446744073709551616 + a.getD j 0) / y = d at *
      generalize (r * 18446744073709551616 + a.getD j 0) % y = e at *
      grind
    · show (SV1' a [y] _ _ (j + 1)).T = (SV1 a [y] _ _ j).T
      unfold SV1' SV1; rw [e5]; rfl
    · rfl
end
end Go.Proofs.YtjcbbabaabcdgaaGreatDoor
/- Package num: long division of words: the walk, with a divisor of two words and more. -/
namespace Go.Proofs.YtjcbbabaabcdgaaGreatDoor
open Go.RowKit Sv
set_option maxRecDepth 100000
set_option linter.unusedVariables false
noncomputable section
structure ShI (u : List Int) (s : Nat) (d : List Int) (i : Nat) : Prop where
  len : d.length = u.length
  dg : Dg 18446744073709551616 d
  same : ∀ j, i ≤ j → d.getD j 0 = u.getD j 0
  val : 2 ^ s * vw (d.take i) = vw (u.take i) + u.getD i 0 % 2 ^ s * 18446744073709551616 ^ i
theorem ShI.next {u d : List Int} {s i : Nat} (I : ShI u s d i) (hu : Dg 18446744073709551616 u) (hs : s ≤ 63) (hi : i + 1 < u.length) {x : Int} (hx : 0 ≤ x ∧ x < 18446744073709551616) (he : 2 ^ s * x = u.getD i 0 - u.getD i 0 % 2 ^ s + u.getD (i + 1) 0 % 2 ^ s * 18446744073709551616) :
    ShI u s (d.set i x) (i + 1) := by
  have hl := I.len
  refine ⟨by rw [List.length_set]; exact hl, I.dg.set hx, fun j hj => ?_, ?_⟩
  · rw [set_get, if_neg (by omega)]; exact I.same j (by omega)
  · have hv := I.val
    unfold vw at hv ⊢
    rw [vl_set_next (by omega), vl_take' u, Int.pow_succ]
    generalize vl 18446744073709551616 (d.take i) = a at *
    generalize vl 18446744073709551616 (u.take i) = b at *
    generalize (18446744073709551616 : Int) ^ i = P at *
    generalize (2 : Int) ^ s = S at *
    generalize u.getD (i + 1) 0 % S = r1 at *
    generalize u.getD i 0 % S = r0 at *
    generalize u.getD i 0 = u0 at *
    have e : P * (S * x) = P * (u0 - r0 + r1 * 18446744073709551616) := by rw [he]
    grind
theorem shr_digit {x y : Int} {s : Nat} (hs : 1 ≤ s ∧ s ≤ 63) (hx : 0 ≤ x ∧ x < 18446744073709551616) (hy : 0 ≤ y ∧ y < 18446744073709551616) :
    (0 ≤ orU (shrU x s) (shlU y (64 - (s : Int))) ∧ orU (shrU x s) (shlU y (64 - (s : Int))) < 18446744073709551616) ∧ 2 ^ s * orU (shrU x s) (shlU y (64 - (s : Int))) = x - x % 2 ^ s + y % 2 ^ s * 18446744073709551616 := by
  have e64 : (64 - (s : Int)) = ((64 - s : Nat) : Int) := by omega
  have hp : (0 : Int) < 2 ^ s := pow_pos' (by decide) _
  have hq : (0 : Int) < 2 ^ (64 - s) := pow_pos' (by decide) _
  have h64 : (2 : Int) ^ s * 2 ^ (64 - s) = 18446744073709551616 := by rw [← Int.pow_add, show s + (64 - s) = 64 by omega]; rfl
  have h1 : shrU x s = x / 2 ^ s := shr_eq (by omega) hx.1
  have h2 : shlU y (64 - (s : Int)) = 2 ^ (64 - s) * (y % 2 ^ s) := by
    rw [e64, shl_eq (by omega) hy, show 64 - (64 - s) = s by omega]
  have hd := Int.emod_add_mul_ediv x (2 ^ s)
  have a0 : 0 ≤ x / 2 ^ s := Int.ediv_nonneg hx.1 (Int.le_of_lt hp)
  have a1 : x / 2 ^ s < 2 ^ (64 - s) := Int.ediv_lt_of_lt_mul hp (by rw [Int.mul_comm, h64]; exact hx.2)
  have b0 := Int.emod_nonneg y (show (2 : Int) ^ s ≠ 0 by omega)
  have b1 := Int.emod_lt_of_pos y hp
  have c0 : 0 ≤ 2 ^ (64 - s) * (y % 2 ^ s) := Int.mul_nonneg (Int.le_of_lt hq) b0
  have c1 : 2 ^ (64 - s) * (y % 2 ^ s) + 2 ^ (64 - s) ≤ 18446744073709551616 := by
    have := Int.mul_le_mul_of_nonneg_left (show y % 2 ^ s + 1 ≤ 2 ^ s by omega) (Int.le_of_lt hq)
    rw [Int.mul_add, Int.mul_one, Int.mul_comm (2 ^ (64 - s)) (2 ^ s), h64] at this
    omega
  have e : orU (shrU x s) (shlU y (64 - (s : Int))) = x / 2 ^ s + 2 ^ (64 - s) * (y % 2 ^ s) := by
    rw [h1, h2]
    exact orU_add (s := 64 - s) (by omega) ⟨a0, a1⟩ b0 rfl (by omega)
  rw [e]
  refine ⟨by omega, ?_⟩
  rw [Int.mul_add, ← Int.mul_assoc, h64]
  generalize (2 : Int) ^ s * (x / 2 ^ s) = X at *
  rw [Int.mul_comm (18446744073709551616 : Int)]
  omega
theorem fin_run {u q : List Int} {n s : Nat} {R : Int} (hu : Dg 18446744073709551616 u) (hdq : Dg 18446744073709551616 q) (hs : s ≤ 63) (hn : n < u.length) (hn1 : 1 ≤ n) (hlu : u.length ≤ 400000) (hlq : q.length ≤ 400000) (hU : vw u = 2 ^ s * R) (hR : 0 ≤ R) (hlt : vw u < 18446744073709551616 ^ n) (w : World) (F : Sv.Env) :
    GoalL Tryz.prog w F 137 (List.drop 13 (fl BDvd [])) (SV3 n u q s 0).T (SV3 n u q s 0).H (dvEnd (trW q) (dgN 18446744073709551616 R)) := by
  have hS := dvd_ok
  have hp : (0 : Int) < 2 ^ s := pow_pos' (by decide) _
  have h64 : (2 : Int) ^ s * 2 ^ (64 - s) = 18446744073709551616 := by rw [← Int.pow_add, show s + (64 - s) = 64 by omega]; rfl
  have hu0 : u.getD 0 0 % 2 ^ s = 0 := by
    have h1 := vl_drop (b := 18446744073709551616) (l := u) (k := 0) (by omega)
    rw [List.drop_zero, Nat.zero_add] at h1
    have h2 : u.getD 0 0 = 2 ^ s * (R - 2 ^ (64 - s) * vw (u.drop 1)) := by
      have h3 : 2 ^ s * (2 ^ (64 - s) * vw (u.drop 1)) = 18446744073709551616 * vw (u.drop 1) := by rw [← Int.mul_assoc, h64]
      rw [Int.mul_sub, h3]
      unfold vw at hU ⊢
      omega
    rw [h2]
    exact Int.mul_emod_right _ _
  have hun : u.getD n 0 = 0 ∧ vw (u.take n) = vw u := by
    have h1 := vl_low (b := 18446744073709551616) (by decide) hu hlt
    have h2 := vl_take (b := 18446744073709551616) (l := u) (k := n) hn
    have h3 := vl_long (b := 18446744073709551616) (by decide) hu (n + 1)
    have h4 := hu.get (by decide) n
    have h5 := pow_pos' (b := 18446744073709551616) (by decide) n
    refine ⟨?_, h1⟩
    by_cases hz : u.getD n 0 = 0
    · exact hz
    · have := Int.mul_pos h5 (show 0 < u.getD n 0 by omega)
      omega
  refine GoalL.loop (ι := { x : List Int × Nat // x.2 ≤ n ∧ ShI u s x.1 x.2 }) (id := 4) (b := cat BDvd dvL3) (rest := List.drop 14 (fl BDvd [])) (by kernel_rfl) (fun x => SV3 n x.1.1 q s x.1.2) (fun x => n - x.1.2)
    ⟨(u, 0), Nat.zero_le _, ⟨rfl, hu, fun _ _ => rfl, by show 2 ^ s * vl _ ([] : List Int) = vl _ ([] : List Int) + u.getD 0 0 % 2 ^ s * _; rw [hu0]; simp [vl]⟩⟩ (fun _ => rfl) ?_
  rintro ⟨⟨d, i⟩, hi, I⟩
  have hi : i ≤ n := hi
  have I : ShI u s d i := I
  have hdl := I.len
  by_cases hlt2 : i < n
  · have hui := hu.get (by decide) i
    have hui1 := hu.get (by decide) (i + 1)
    have ho : ∀ l : List Int, l.length = u.length → ∀ j, j < u.length → ownHas 168 tU (some (.own 168 tU l)) j = true := fun l hl j hj => by rw [ownHas_own]; exact decide_eq_true (by omega)
    have ei : ((i : Int) + 1).toNat = i + 1 := by omega
    have sd := I.same i (Nat.le_refl _)
    have sd1 := I.same (i + 1) (by omega)
    by_cases hs0 : s = 0
    · subst hs0
      have e1 : shrU (d.getD i 0) (0 : Nat) = d.getD i 0 := by rw [shr_eq (by omega) (by rw [sd]; exact hui.1)]; simp
      have N := I.next hu (by omega) (by omega) (x := shrU (d.getD i 0) (0 : Nat)) (by rw [e1, sd]; exact hui) (by rw [e1, sd]; simp [Int.emod_one])
      exact GoalL.all (s := SV3 n d q (0 : Nat) i) (s' := SV3 n (d.set i (shrU (d.getD i 0) (0 : Nat))) q (0 : Nat) (i + 1)) known mixed hS _ (p3_one n d q _ i (by omega) (by omega) (ho d hdl i (by omega)) (by omega) (by omega) (by omega) (by rw [List.length_set]) rfl) (by kernel_rfl)
        ⟨⟨(_, i + 1), by show i + 1 ≤ n; omega, N⟩, by show n - (i + 1) < n - i; omega, rfl, rfl⟩
    · obtain ⟨g1, g2⟩ := shr_digit (s := s) (by omega) hui hui1
      have e1 : (d.set i (shrU (d.getD i 0) s)).getD i 0 = shrU (u.getD i 0) s := by rw [set_at (by omega), sd]
      have e2 : (d.set i (shrU (d.getD i 0) s)).getD (i + 1) 0 = u.getD (i + 1) 0 := by rw [set_get, if_neg (by omega), sd1]
      have e3 : (d.set i (shrU (d.getD i 0) s)).set i (orU (shrU (u.getD i 0) s) (shlU (u.getD (i + 1) 0) (64 - (s : Int)))) = d.set i (orU (shrU (u.getD i 0) s) (shlU (u.getD (i + 1) 0) (64 - (s : Int)))) := List.set_set ..
      have N := I.next hu hs (by omega) g1 g2
      have fin : ∃ j : { x : List Int × Nat // x.2 ≤ n ∧ ShI u s x.1 x.2 }, n - j.1.2 < n - i ∧
          (SV3 n ((d.set i (shrU (d.getD i 0) s)).set i (orU ((d.set i (shrU (d.getD i 0) s)).getD i 0) (shlU ((d.set i (shrU (d.getD i 0) s)).getD (i + 1) 0) (64 - s)))) q s (i + 1)).T = (SV3 n j.1.1 q s j.1.2).T ∧
          (SV3 n ((d.set i (shrU (d.getD i 0) s)).set i (orU ((d.set i (shrU (d.getD i 0) s)).getD i 0) (shlU ((d.set i (shrU (d.getD i 0) s)).getD (i + 1) 0) (64 - s)))) q s (i + 1)).H = (SV3 n j.1.1 q s j.1.2).H := by
        rw [e1, e2, e3]
        exact ⟨⟨(_, i + 1), by show i + 1 ≤ n; omega, N⟩, by show n - (i + 1) < n - i; omega, rfl, rfl⟩
      exact GoalL.all (s := SV3 n d q s i) known mixed hS _ (p3_two n d q s i (by omega) (by omega) (ho d hdl i (by omega)) (by omega) (by omega) (by omega) (by omega) (ho _ (by rw [List.length_set]; exact hdl) i (by omega)) (by omega) (by rw [ei]; exact ho _ (by rw [List.length_set]; exact hdl) (i + 1) (by omega)) (by omega) (by omega) (by simp) (by rw [ei]; rfl)) (by kernel_rfl) fin
  · refine GoalL.all (s := SV3 n d q s i) known mixed hS _ (p3_end n d q s i (by omega)) (by kernel_rfl) ?_
    refine onN_exit (inB_exit ?_)
    obtain rfl : i = n := by omega
    have hv := I.val
    rw [hun.1, hun.2, hU, Int.zero_emod, Int.zero_mul, Int.add_zero] at hv
    have hv2 : vw (d.take i) = R := Int.eq_of_mul_eq_mul_left (by omega) hv
    rw [← hv2, ← trW_dg (I.dg.take i)]
    have e4 : List.take q.length (List.drop 0 q) = q := by simp
    have e5 : List.take i (List.drop 0 d) = d.take i := by simp
    exact GoalL.allRet (s := SV3 i d q s i) known mixed hS _ (p4_ret i d q s i (ev_opt rfl) (by rw [e4]; omega) (by omega) (by
      rw [ownHas_own, decide_eq_true (show i - 1 < d.length by omega)]; simp) (by rw [e5, List.length_take]; omega) (by rw [e4]) (by rw [e5])) fun T H h => h
end
end Go.Proofs.YtjcbbabaabcdgaaGreatDoor
/- Package num: long division of words, as a known function. -/
namespace Go.Proofs.YtjcbbabaabcdgaaGreatDoor
open Go.RowKit Sv
set_option maxRecDepth 100000
set_option linter.unusedVariables false
noncomputable section
theorem main_run {a v : List Int} {s n m : Nat} {vb : Int} (ha : Dg 18446744073709551616 a) (hv : Dg 18446744073709551616 v) (hs : s ≤ 63) (hvn : v.length = n) (hn : 2 ≤ n) (hm : m + n = a.length + 1) (hm1 : 1 ≤ m) (hla : a.length ≤ 300000)
    (hV : vw v = vb * 2 ^ s) (hb0 : 0 < vb) (hbl : 18446744073709551616 ^ (n - 1) ≤ vb) (htop : 9223372036854775808 ≤ v.getD (n - 1) 0) (w : World) (F : Sv.Env) :
    GoalL Tryz.prog w F 137 (List.drop 11 (fl BDvd [])) (SV2 a v (shW a s) (zerW m) s m).T (SV2 a v (shW a s) (zerW m) s m).H (dvEnd (dgN 18446744073709551616 (vw a / vb)) (dgN 18446744073709551616 (vw a % vb))) := by
  have hS := dvd_ok
  have hp : (0 : Int) < 2 ^ s := pow_pos' (by decide) _
  have hp64 : (2 : Int) ^ s ≤ 2 ^ 63 := pow_le_pow' (by decide) hs
  have e63 : (2 : Int) ^ 63 = 9223372036854775808 := rfl
  have hV0 : 0 < vw v := by rw [hV]; exact Int.mul_pos hb0 hp
  have hVn : vw v < 18446744073709551616 ^ n := by rw [← hvn]; exact vl_lt (by decide) hv
  have hA0 : 0 ≤ vw a := vl_nn (by decide) ha
  have hA1 : vw a < 18446744073709551616 ^ a.length := vl_lt (by decide) ha
  have hAS : vw a * 2 ^ s < 18446744073709551616 ^ (a.length + 1) := by
    rw [Int.pow_succ]
    have h1 := Int.mul_le_mul_of_nonneg_left (show (2 : Int) ^ s ≤ 18446744073709551616 by omega) hA0
    have h2 := Int.mul_lt_mul_of_pos_right hA1 (show (0 : Int) < 18446744073709551616 by decide)
    omega
  have hu0 : vw (shW a s) = vw a * 2 ^ s := by
    unfold shW
    rw [Int.toNat_natCast]
    exact pad_vl (by decide) _ _ (Int.mul_nonneg hA0 (Int.le_of_lt hp)) hAS
  have hul : (shW a s).length = a.length + 1 := by unfold shW; exact pad_len _ _ _
  have hud : Dg 18446744073709551616 (shW a s) := by unfold shW; exact pad_dg (by decide) _ _
  have hzg : ∀ k, (zerW m).getD k 0 = 0 := fun k => by
    unfold zerW
    rw [List.getD_eq_getElem?_getD, List.getElem?_replicate]; split <;> rfl
  refine GoalL.loop (ι := { x : List Int × List Int × Nat // x.2.2 ≤ m ∧ x.1.length = a.length + 1 ∧ Dg 18446744073709551616 x.1 ∧ x.2.1.length = m ∧ Dg 18446744073709551616 x.2.1 ∧ vw (x.1.drop x.2.2) < vw v ∧ vw x.1 + vw v * vw x.2.1 = vw a * 2 ^ s ∧ ∀ j, j < x.2.2 → x.2.1.getD j 0 = 0 }) (id := 2) (b := cat BDvd dvL2) (rest := List.drop 12 (fl BDvd [])) (by kernel_rfl) (fun x => SV2 a v x.1.1 x.1.2.1 s x.1.2.2) (fun x => x.1.2.2)
    ⟨(shW a s, zerW m, m), Nat.le_refl _, hul, hud, zer_len _, zer_dg _, ?_, ?_, fun j _ => hzg j⟩ (fun _ => rfl) ?_
  · show vw ((shW a s).drop m) < vw v
    have h1 := vl_split 18446744073709551616 (shW a s) m (by omega)
    have h2 := vl_nn (b := 18446744073709551616) (by decide) (hud.take m)
    have h3 : 18446744073709551616 ^ m * vw ((shW a s).drop m) ≤ vw a * 2 ^ s := by rw [← hu0]; unfold vw; omega
    have h4 : vw a * 2 ^ s < 18446744073709551616 ^ m * vw v := by
      have e1 : (18446744073709551616 : Int) ^ a.length = 18446744073709551616 ^ m * 18446744073709551616 ^ (n - 1) := by rw [← Int.pow_add, show m + (n - 1) = a.length by omega]
      have c1 := Int.mul_lt_mul_of_pos_right hA1 hp
      have c2 := Int.mul_le_mul_of_nonneg_right hbl (Int.le_of_lt hp)
      have c3 := Int.mul_le_mul_of_nonneg_left c2 (Int.le_of_lt (pow_pos' (b := 18446744073709551616) (by decide) m))
      rw [← hV, ← Int.mul_assoc, ← e1] at c3
      omega
    exact Int.lt_of_mul_lt_mul_left (show 18446744073709551616 ^ m * vw ((shW a s).drop m) < 18446744073709551616 ^ m * vw v by omega) (Int.le_of_lt (pow_pos' (by decide) m))
  · show vw (shW a s) + vw v * vw (zerW m) = _
    have : vw (zerW m) = 0 := vl_rep _ m
    rw [this, hu0]; omega
  rintro ⟨⟨u, q, k⟩, hk, hl, hdu, hq, hdq, hlow, hval, hz⟩
  have hk : k ≤ m := hk
  have hl : u.length = a.length + 1 := hl
  have hdu : Dg 18446744073709551616 u := hdu
  have hq : q.length = m := hq
  have hdq : Dg 18446744073709551616 q := hdq
  have hlow : vw (u.drop k) < vw v := hlow
  have hval : vw u + vw v * vw q = vw a * 2 ^ s := hval
  have hz : ∀ j, j < k → q.getD j 0 = 0 := hz
  cases k with
  | zero =>
    refine GoalL.all (s := SV2 a v u q s 0) known mixed hS _ (p2_end a v u q s 0 (by omega)) (by kernel_rfl) ?_
    refine onN_exit (inB_exit ?_)
    rw [List.drop_zero] at hlow
    have hU0 : 0 ≤ vw u := vl_nn (by decide) hdu
    obtain ⟨g1, g2⟩ := div_end (A := vw a) (b := vb) (V := vw v) (S := 2 ^ s) (U := vw u) (q := vw q) hp hb0 hV hval hU0 hlow
    rw [g1, ← trW_dg hdq]
    refine GoalL.st (s := SV2 a v u q s 0) known mixed hS 1 _ (p3_start a v u q s 0) (by kernel_rfl) ?_
    rw [hvn]
    exact fin_run hdu hdq hs (by omega) (by omega) (by omega) (by omega) g2 (Int.emod_nonneg _ (by omega)) (Int.lt_trans hlow hVn) w F
  | succ j =>
    have ej : (((j + 1 : Nat) : Int) - 1).toNat = j := by omega
    have ew : (((j + 1 : Nat) : Int) - 1 + v.length + 1).toNat = j + (n + 1) := by omega
    have ed : j + (n + 1) - j = n + 1 := by omega
    have e5 : (((j + 1 : Nat) : Int) - 1 - 1) = (j : Int) - 1 := by omega
    obtain ⟨w1, w2, w3⟩ := win_val (b := 18446744073709551616) (by decide) hdu (j := j) (n := n) (V := vw v) (by omega) (Int.le_of_lt hVn) hlow
    have hwin : vw (winW u j (n + 1)) < 18446744073709551616 * vw v := by unfold winW vw; rw [← w1]; exact w2
    have hpre : stPre u j (n + 1) v = true := by
      unfold stPre
      rw [dgB_iff.2 hdu, dgB_iff.2 hv, decide_eq_true (show 2 ≤ v.length by omega), hvn, Nat.beq_refl, decide_eq_true (show n ≤ 1000000 by omega), decide_eq_true htop, decide_eq_true hwin]; rfl
    obtain ⟨n1, n2, n3, n4⟩ := win_next (b := 18446744073709551616) (by decide) hdu (j := j) (n := n) (V := vw v) (by omega) hV0 (Int.le_of_lt hVn) hlow (u' := stOut u j (n + 1) v) rfl
    have hWn : 0 ≤ vw (winW u j (n + 1)) := vl_nn (by decide) ((hdu.drop j).take _)
    have hQ0 : 0 ≤ stQ u j (n + 1) v := Int.ediv_nonneg hWn (Int.le_of_lt hV0)
    have hQ1 : stQ u j (n + 1) v < 18446744073709551616 := (Int.ediv_lt_iff_lt_mul hV0).2 hwin
    have fin : ∃ y : { x : List Int × List Int × Nat // x.2.2 ≤ m ∧ x.1.length = a.length + 1 ∧ Dg 18446744073709551616 x.1 ∧ x.2.1.length = m ∧ Dg 18446744073709551616 x.2.1 ∧ vw (x.1.drop x.2.2) < vw v ∧ vw x.1 + vw v * vw x.2.1 = vw a * 2 ^ s ∧ ∀ j, j < x.2.2 → x.2.1.getD j 0 = 0 }, y.1.2.2 < j + 1 ∧
        (SV2' a v (stOut u j (n + 1) v) (q.set j (stQ u j (n + 1) v)) s (j + 1)).T = (SV2 a v y.1.1 y.1.2.1 s y.1.2.2).T ∧ (SV2' a v (stOut u j (n + 1) v) (q.set j (stQ u j (n + 1) v)) s (j + 1)).H = (SV2 a v y.1.1 y.1.2.1 s y.1.2.2).H := by
      refine ⟨⟨(stOut u j (n + 1) v, q.set j (stQ u j (n + 1) v), j), by show j ≤ m; omega, by show (stOut u j (n + 1) v).length = _; omega, n2, by show (q.set j _).length = m; rw [List.length_set]; exact hq, hdq.set ⟨hQ0, hQ1⟩, n4, ?_, fun i hi => ?_⟩, Nat.lt_succ_self _, ?_, rfl⟩
      · show vw (stOut u j (n + 1) v) + vw v * vw (q.set j (stQ u j (n + 1) v)) = _
        have hset : vw (q.set j (stQ u j (n + 1) v)) = vw q + 18446744073709551616 ^ j * stQ u j (n + 1) v := by
          unfold vw
          rw [vl_set _ _ _ _ (by omega), hz j (Nat.lt_succ_self _), Int.sub_zero]
        have n3' : vw (stOut u j (n + 1) v) + 18446744073709551616 ^ j * stQ u j (n + 1) v * vw v = vw u := n3
        rw [hset, ← hval, ← n3']
        generalize vw (stOut u j (n + 1) v) = x1
        generalize stQ u j (n + 1) v = x2
        generalize (18446744073709551616 : Int) ^ j = x3
        generalize vw q = x4
        generalize vw v = x5
        grind
      · have hi : i < j := hi
        show (q.set j _).getD i 0 = 0
        rw [set_get, if_neg (by omega)]; exact hz i (by omega)
      · show (SV2' a v _ _ s (j + 1)).T = (SV2 a v _ _ s j).T
        unfold SV2' SV2; rw [e5]
    have hlen' : u.length = (stOut u j (n + 1) v).length := by omega
    have hown : ∀ i l, i < u.length → 1 ≤ l → (ownHas 168 tU (some (.own 168 tU u)) i && Nat.ble 1 l) = true := fun i l hi hl => by rw [ownHas_own, decide_eq_true hi, Nat.ble_eq_true_of_le hl]; rfl
    have ew0 : (((0 + 1 : Nat) : Int) - 1 + v.length + 1).toNat = n + 1 := by omega
    by_cases hj0 : j = 0
    · subst hj0
      refine GoalL.all (s := SV2 a v u q s 1) known mixed hS _ (p2_z a v u q s 1 (by omega) (by omega) (by omega) (by omega) (by rw [ew0]; omega) rfl (by rw [ew0]; exact hown _ _ (by omega) (by omega)) (by rw [ew0]; exact hpre) (by rw [ej]; omega) (by omega) (by rw [ew0]; exact hlen') (by rw [List.length_set]) (by rw [List.length_set])) (by kernel_rfl) ?_
      rw [ew0, ej]
      exact fin
    · refine GoalL.all (s := SV2 a v u q s (j + 1)) known mixed hS _ (p2_s a v u q s (j + 1) (by omega) (by omega) (by omega) (by omega) (by rw [ew]; omega) (by
        rw [ej]
        cases hb : Nat.beq j 0 with
        | false => rfl
        | true => exact absurd (Nat.eq_of_beq_eq_true hb) hj0) (by rw [ew, ej]; omega) (by
        rw [ew, ej, ed]; exact hown _ _ (by omega) (by omega)) (by rw [ew, ej, ed]; exact hpre) (by rw [ej]; omega) (by omega) (by rw [ew, ej, ed]; exact hlen') (by rw [List.length_set]) (by rw [List.length_set])) (by kernel_rfl) ?_
      rw [ew, ej, ed]
      exact fin
theorem dvd_holds (a b : List Int) (h : okDv a b = true) : Holds Tryz.prog false 164 [lu a, lu b] (.tuple [lu (dvQ a b), lu (dvR a b)]) := by
  have hS := dvd_ok
  unfold okDv okC2 at h
  simp only [Bool.and_eq_true, decide_eq_true_eq, dgB_iff, tmB_iff] at h
  obtain ⟨⟨⟨ha, hat⟩, ⟨hb, hbt⟩, hal⟩, hb1, hla, hlb⟩ := h
  have hC : okC2 a b = true := by
    unfold okC2
    rw [dgB_iff.2 ha, tmB_iff.2 hat, dgB_iff.2 hb, tmB_iff.2 hbt, decide_eq_true hal]; rfl
  have hA0 : 0 ≤ vw a := vl_nn (by decide) ha
  have hB0 : 0 ≤ vw b := vl_nn (by decide) hb
  refine holds_fl (c := BDvd) Tryz.func164 rfl rfl fun w F => ?_
  by_cases hlt : vw a < vw b
  · have e1 : dvQ a b = [] := by unfold dvQ; rw [Int.ediv_eq_zero_of_lt hA0 hlt]; exact dgN_zero (by decide)
    have e2 : dvR a b = a := by unfold dvR; rw [Int.emod_eq_of_lt hA0 hlt]; exact (dgN_uniq (by decide) ha hat rfl).symm
    rw [e1, e2]
    exact GoalL.ret known mixed hS 3 _ (dz_lt a b hC (by unfold cmpV; rw [if_pos hlt]; decide)) fun T H h => h
  · refine GoalL.to known mixed hS 4 _ (dz_go a b hC (by unfold cmpV; rw [if_neg hlt]; split <;> decide)) (by kernel_rfl) ?_
    obtain ⟨n, hn⟩ : ∃ n, b.length = n + 1 := ⟨b.length - 1, by omega⟩
    have hbn := hb.get (by decide) n
    have hbz := hbt n hn
    cases n with
    | zero =>
      obtain ⟨y, rfl⟩ : ∃ y, b = [y] := List.length_eq_one_iff.1 hn
      have hy : y ≠ 0 := hbz
      have hy2 : 0 ≤ y ∧ y < 18446744073709551616 := hbn
      refine goalL_cond (X := X0) (o := .tmp 23) (x := cat BDvd dvT) (y := .skip) (rest := List.drop 5 (fl BDvd [])) (by kernel_rfl) (by kernel_rfl) ?_
      refine GoalL.mono (fun e T H hq => ?_) (one_run ha (by omega) hla w F)
      obtain ⟨rfl, hq⟩ := hq
      exact hq
    | succ m =>
      refine GoalL.st (s := SV0 a b) known mixed hS 1 _ (p2_skip a b (by omega)) (by kernel_rfl) ?_
      obtain ⟨s, hs, hs63, hY0, hY1⟩ := lz_spec (x := b.getD (m + 1) 0) (by omega)
      have en : ((b.length : Int) - 1).toNat = m + 1 := by omega
      have hp : (0 : Int) < 2 ^ s := pow_pos' (by decide) _
      have hblast := vw_last (u := b) (n := m + 1) hn
      have hbt0 := vl_nn (b := 18446744073709551616) (by decide) (hb.take (m + 1))
      have hbt1 := vl_lt (b := 18446744073709551616) (by decide) (hb.take (m + 1))
      rw [List.length_take, Nat.min_eq_left (by omega)] at hbt1
      have hP := pow_pos' (b := 18446744073709551616) (by decide) (m + 1)
      have hbl : 18446744073709551616 ^ (m + 1) ≤ vw b := vl_ge (by decide) hb hbt hn
      -- the divisor, shifted up, has as many words
      have hyS : (b.getD (m + 1) 0 + 1) * 2 ^ s ≤ 18446744073709551616 := by
        have e64 : (18446744073709551616 : Int) = 2 ^ (64 - s) * 2 ^ s := by rw [← Int.pow_add, show 64 - s + s = 64 by omega]; rfl
        have h1 : b.getD (m + 1) 0 < 2 ^ (64 - s) := Int.lt_of_mul_lt_mul_right (show b.getD (m + 1) 0 * 2 ^ s < 2 ^ (64 - s) * 2 ^ s by rw [← e64]; exact hY1) (Int.le_of_lt hp)
        rw [e64]
        exact Int.mul_le_mul_of_nonneg_right (by omega) (Int.le_of_lt hp)
      have hVlt : vw b * 2 ^ s < 18446744073709551616 ^ (m + 2) := by
        have h1 : vw b < 18446744073709551616 ^ (m + 1) * (b.getD (m + 1) 0 + 1) := by rw [Int.mul_add, Int.mul_one]; unfold vw at *; omega
        have h2 := Int.mul_lt_mul_of_pos_right h1 hp
        have h3 := Int.mul_le_mul_of_nonneg_left hyS (Int.le_of_lt hP)
        rw [Int.mul_assoc] at h2
        rw [Int.pow_succ]
        omega
      have hshw : vw (shW b s) = vw b * 2 ^ s := by
        unfold shW
        rw [Int.toNat_natCast]
        refine pad_vl (by decide) _ _ (Int.mul_nonneg hB0 (Int.le_of_lt hp)) ?_
        have := pow_le_pow' (b := 18446744073709551616) (by decide) (show m + 2 ≤ b.length + 1 by omega)
        omega
      have hshd : Dg 18446744073709551616 (shW b s) := by unfold shW; exact pad_dg (by decide) _ _
      have hshl : (shW b s).length = m + 3 := by unfold shW; rw [pad_len]; omega
      have hv := trW_dg hshd
      rw [hshw] at hv
      have hV0 : 0 ≤ vw b * 2 ^ s := Int.mul_nonneg hB0 (Int.le_of_lt hp)
      obtain ⟨v1, v2, v3⟩ := dgN_spec (b := 18446744073709551616) (by decide) hV0
      have hvV : vw (trW (shW b s)) = vw b * 2 ^ s := by rw [hv]; exact v3
      have hvl : (trW (shW b s)).length = m + 2 := by
        have h1 := dgN_len (b := 18446744073709551616) (by decide) hV0 hVlt
        rw [← hv] at h1
        by_cases hc : m + 2 ≤ (trW (shW b s)).length
        · omega
        · have h2 := vl_lt (b := 18446744073709551616) (by decide) v1
          rw [← hv] at h2
          have h3 := pow_le_pow' (b := 18446744073709551616) (by decide) (show (trW (shW b s)).length ≤ m + 1 by omega)
          have h4 := Int.mul_le_mul_of_nonneg_left (show (1 : Int) ≤ 2 ^ s by omega) hB0
          unfold vw at hvV hbl h4
          omega
      have hvd : Dg 18446744073709551616 (trW (shW b s)) := by rw [hv]; exact v1
      have htop : 9223372036854775808 ≤ (trW (shW b s)).getD (m + 2 - 1) 0 := by
        have h1 := vw_last (u := trW (shW b s)) (n := m + 1) hvl
        have h2 := vl_lt (b := 18446744073709551616) (by decide) (hvd.take (m + 1))
        rw [List.length_take, Nat.min_eq_left (by omega)] at h2
        have h3 : 18446744073709551616 ^ (m + 1) * (b.getD (m + 1) 0 * 2 ^ s) ≤ vw b * 2 ^ s := by
          rw [← Int.mul_assoc]
          exact Int.mul_le_mul_of_nonneg_right (by unfold vw at *; omega) (Int.le_of_lt hp)
        have h4 := Int.mul_le_mul_of_nonneg_left hY0 (Int.le_of_lt hP)
        show _ ≤ (trW (shW b s)).getD (m + 1) 0
        rw [hvV] at h1
        have h5 : 18446744073709551616 ^ (m + 1) * 9223372036854775808 < 18446744073709551616 ^ (m + 1) * ((trW (shW b s)).getD (m + 1) 0 + 1) := by
          rw [Int.mul_add, Int.mul_one]
          unfold vw at *
          omega
        have := Int.lt_of_mul_lt_mul_left h5 (Int.le_of_lt hP)
        omega
      have hge : m + 2 ≤ a.length := by
        refine Nat.not_lt.1 fun hh => ?_
        exact hlt (vl_short (by decide) ha hb hbt (by omega))
      have hoS : ∀ l : List Int, Dg 18446744073709551616 l → l.length ≤ 300000 → okS l (s : Int) = true := fun l hl hll => by
        unfold okS
        rw [dgB_iff.2 hl, decide_eq_true (show l.length ≤ 400000 by omega), decide_eq_true (show (0 : Int) ≤ (s : Int) by omega), decide_eq_true (show (s : Int) < 64 by omega)]; rfl
      have ht : List.take (shW b s).length (List.drop 0 (shW b s)) = shW b s := by simp
      have hs' : lzI (b.getD ((b.length : Int) - 1).toNat 0) = (s : Int) := by rw [en]; exact hs
      refine GoalL.st (s := SV0 a b) known mixed hS 2 _ (p2_a a b (trW (shW b s)) s (by omega) (by omega) (by omega) (by rw [en]; exact okU_iff.2 hbn) (by rw [hs']; exact hoS b hb hlb) (by
        rw [hs']
        have : ownHas 168 tU (some (.own 168 tU (shW b s))) ((shW b s).length - 1) = true := by rw [ownHas_own]; exact decide_eq_true (by omega)
        rw [Bool.or_eq_true]; exact .inr this) (by rw [hs', ht]; omega) hs' (by rw [hs', ht])) (by kernel_rfl) ?_
      have em : ((a.length : Int) - (trW (shW b s)).length + 1).toNat = a.length - (m + 2) + 1 := by omega
      refine GoalL.st (s := SVa a (trW (shW b s)) s) known mixed hS 4 _ (p2_b a (trW (shW b s)) s (a.length - (m + 2) + 1) (hoS a ha hla) (by omega) (by omega) (by omega) (by rw [em]; omega) rfl (by rw [em, zer_len]) (by rw [em]) (by rw [zer_len]) (by omega) (by rw [em]; exact zer_cells _) (by rw [zer_len])) (by kernel_rfl) ?_
      exact main_run ha hvd hs63 hvl (by omega) (by omega) (by omega) hla hvV (by omega) (by rw [show m + 2 - 1 = m + 1 by omega]; exact hbl) htop w F
theorem cDvd_ok : cDvd.Ok Tryz.prog := fun ⟨a, b, _⟩ h => dvd_holds a b h
end
end Go.Proofs.YtjcbbabaabcdgaaGreatDoor
