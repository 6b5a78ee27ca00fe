/- integraphtop.TopPlays: the walk. -/
import Derived.Test.YtpibknhnhegebaaGreatDoorPlaysC
namespace Go.Proofs.YtpibknhnhegebaaGreatDoor
open Go.RowKit
attribute [local go_sem] nil_eql nil_neq

set_option maxHeartbeats 8000000 in
set_option maxRecDepth 100000 in
theorem plays_walk (l0 l1 s0 : Int) (A : Option Addr) (c : Nat) (xs : List Int) (w : World) (h0 : 0 ≤ l0) (h0' : l0 ≤ 255) (h1 : 0 ≤ l1) (h1' : l1 ≤ 255) (hs : -32768 ≤ s0) (hs' : s0 ≤ 32767)
    (hE : Env w) (hrow : Row w w.heap.size A (xs.map (Value.int .i64))) (hcap : xs.length ≤ c) (hlen : xs.length ≤ 140737488355328) :
    Calls Tryz.prog 7 #[.agg #[.int .u8 l0, .int .u8 l1], .int .i16 s0, .slice A xs.length c] w fun e w' => e = .returned (.bool true) ∧ Below w.heap.size w w' := by
  have hsum : IntKind.i64.wrap (l0 + l1) = l0 + l1 := IntWalk.i64_in _ (by omega)
  have i0 : (0 : Int) < 2 := by omega
  have i1 : (1 : Int) < 2 := by omega
  have H := Lib.hid hrow
  clear hrow
  by_cases h40 : xs.length ≤ 40
  · have hd : decide ((40 : Int) < (xs.length : Int)) = false := by simp; omega
    have hd2 : decide (40 < xs.length) = false := by simp; omega
    have HTP := Lib.hid (fun w' (hb : Below w.heap.size w w') => toothPositions_any A c w.heap.size xs w' hlen (H.out.below hb (Nat.le_refl _)))
    by_cases hok : okPos xs = true
    · rw [hok] at HTP
      have HOK := Lib.hid hok
      clear hok
      have hpos := (of_decide_eq_true HOK.out).2
      have HPOS := Lib.hid hpos
      clear hpos
      have HPa := Lib.hid (fun w' (hb : Below w.heap.size w w') => play_any A c w.heap.size l0 s0 xs w' (by omega) (H.out.below hb (Nat.le_refl _)) hb.size (by omega) (by omega) (by omega) (by omega) (fun x hx => by have := HPOS.out x hx; omega))
      have HPb := Lib.hid (fun w' (hb : Below w.heap.size w w') => play_any A c w.heap.size (l0 + l1) s0 xs w' (by omega) (H.out.below hb (Nat.le_refl _)) hb.size (by omega) (by omega) (by omega) (by omega) (fun x hx => by have := HPOS.out x hx; omega))
      go_enter Tryz.func7, Tryz.ntmps7
      go_wp2_with fail
      go_quiet (fail)
      go_wp2_with fail
      generalize hW1 : World.drewN (World.alloc w _) _ = W1
      have e1 : Below w.heap.size w W1 := by rw [← hW1]; exact (by repeat (first | with_reducible exact Below.refl _ _ | with_reducible assumption | with_reducible refine Below.setCell ?_ (by first | omega | (simp; done) | (simp; omega)) _ | with_reducible refine below_drewN ?_ _ | with_reducible refine Below.drew ?_ | with_reducible refine Below.alloc ?_ (by first | omega | (simp; done) | (simp; omega)) _ | with_reducible refine below_after ?_ (by assumption) (by first | omega | (simp; done) | (simp; omega))))
      clear hW1
      refine (HTP.out _ e1).mono ?_
      rintro e w' ⟨rfl, rfl⟩
      go_wp2_with fail
      refine (HPa.out _ e1).mono ?_
      rintro e w2 ⟨A2, c2, rfl, hr2, hb2⟩
      have e2 := below_after e1 hb2 (Nat.le_refl _)
      have HR2 := Lib.hid hr2
      have sz2 := hb2.size
      clear hr2 hb2 e1
      go_wp2_with fail
      refine (HPb.out _ e2).mono ?_
      rintro e w3 ⟨A3, c3, rfl, hr3, hb3⟩
      have e3 := below_after e2 hb3 (Nat.le_refl _)
      have HR2' := Lib.hid (HR2.out.below hb3 (Nat.le_refl _))
      have HR3 := Lib.hid hr3
      have sz3 := hb3.size
      clear hr3 hb3 e2
      have hl2 := Play.plays_len l0 s0 xs
      have hl3 := Play.plays_len (l0 + l1) s0 xs
      go_wp2_with fail
      have HRX := Lib.hid (H.out.below e3 (Nat.le_refl _))
      have hBB := e3.size
      obtain ⟨i0', hi', hz0, hz1, hz2⟩ := info_parts Tryz.info3
      clear HPa HPb HTP H hd hd2
      go_loopw [13, 14, 15, 16, 17, 18, 91] (fun v u mo le la ot i wr => PlaysRel l0 (l0 + l1) s0 xs w3 3 v u mo le la ot i wr) (fun _ _ _ _ _ _ i _ => xs.length - (intOf i).toNat)
      case atStart => exact ⟨0, 0, Nat.zero_le _, rfl, by omega, by omega, fun _ => rfl, World.ownsRow_nil _ _ _ _, World.ownsRow_nil _ _ _ _, Sep.nil, rfl, rfl, rfl, rfl, Below.refl _ _⟩
      case round =>
        obtain ⟨k, m, hk, rfl, hm1, hm2, hm3, hv, hu, hsep, rfl, rfl, rfl, rfl, eb⟩ := hrel
        have hsz := eb.size
        by_cases hlt : k < xs.length
        · obtain ⟨b, off, x, rfl, hbB, hx, hc⟩ := HRX.out.int k hlt
          have hp := Play.plays_el l0 h0 s0 xs k x hx
          have hq := Play.plays_el (l0 + l1) (by omega) s0 xs k x hx
          obtain ⟨b2, off2, p, rfl, hbB2, hp2, hc2⟩ := HR2'.out.int k (by rw [hl2]; exact hlt)
          obtain ⟨b3, off3, q, rfl, hbB3, hq2, hc3⟩ := HR3.out.int k (by rw [hl3]; exact hlt)
          rw [hp] at hp2
          rw [hq] at hq2
          have hp3 := Option.some.inj hp2
          have hq3 := Option.some.inj hq2
          have hmem := HPOS.out x (List.mem_of_getElem? hx)
          have htk : xs.take (k + 1) = xs.take k ++ [x] := by rw [List.take_add_one, hx]; rfl
          have hkl : (xs.take k).length = k := by rw [List.length_take]; omega
          have hall : ∀ z ∈ xs.take k, -100000 ≤ z ∧ z ≤ 100000 := fun z hz => HPOS.out z (List.mem_of_mem_take hz)
          have bla := Play.lastSeen_bd l0 s0 100000 h0 (xs.take k) hall (by omega) (by omega)
          have bot := Play.lastSeen_bd (l0 + l1) s0 100000 (by omega) (xs.take k) hall (by omega) (by omega)
          have bmo := Play.mv_bd l0 100000 h0 (by omega) (xs.take k) s0 hall (by omega) (by omega)
          have ble := Play.mv_bd (l0 + l1) 100000 (by omega) (by omega) (xs.take k) s0 hall (by omega) (by omega)
          rw [hkl] at bmo ble
          have bp1 := Play.see_le l0 (Play.lastSeen l0 s0 (xs.take k)) x
          have bp2 := Play.see_ge l0 (Play.lastSeen l0 s0 (xs.take k)) x h0
          have bq1 := Play.see_le (l0 + l1) (Play.lastSeen (l0 + l1) s0 (xs.take k)) x
          have bq2 := Play.see_ge (l0 + l1) (Play.lastSeen (l0 + l1) s0 (xs.take k)) x (by omega)
          have n1 := Play.mv_snoc l0 (xs.take k) s0 x
          have n2 := Play.mv_snoc (l0 + l1) (xs.take k) s0 x
          have n3 := Play.lastSeen_snoc l0 s0 (xs.take k) x
          have n4 := Play.lastSeen_snoc (l0 + l1) s0 (xs.take k) x
          have n5 := Play.upFrom_snoc (xs.take k) 0 x
          rw [hkl, Nat.zero_add] at n5
          rw [← htk, hp3] at n1 n3
          rw [← htk, hq3] at n2 n4
          rw [← htk] at n5
          rw [hp3] at bp1 bp2
          rw [hq3] at bq1 bq2
          have HN := Lib.hid (And.intro n1 (And.intro n2 (And.intro n3 (And.intro n4 n5))))
          have HX := Lib.hid (And.intro hx htk)
          have k1 := (eb.cell (p := ⟨b, off + k, none⟩) (by show b < _; omega)).trans hc
          have k2 := (eb.cell (p := ⟨b2, off2 + k, none⟩) (by show b2 < _; omega)).trans hc2
          have k3 := (eb.cell (p := ⟨b3, off3 + k, none⟩) (by show b3 < _; omega)).trans hc3
          have hki : (k : Int) < (xs.length : Int) := by omega
          clear hp hq hp2 hq2 hp3 hq3 n1 n2 n3 n4 n5 hx htk hc hc2 hc3 hkl hall
          generalize Play.lastSeen l0 s0 (xs.take k) = la at *
          generalize Play.lastSeen (l0 + l1) s0 (xs.take k) = ot at *
          generalize Play.mv l0 s0 (xs.take k) = mo at *
          generalize Play.mv (l0 + l1) s0 (xs.take k) = le at *
          have w1 : IntKind.i64.wrap (p - la) = p - la := IntWalk.i64_in _ (by omega)
          have w2' : IntKind.i64.wrap (la - p) = la - p := IntWalk.i64_in _ (by omega)
          have w3' : IntKind.i64.wrap (q - ot) = q - ot := IntWalk.i64_in _ (by omega)
          have w4 : IntKind.i64.wrap (ot - q) = ot - q := IntWalk.i64_in _ (by omega)
          have w5 : IntKind.i64.wrap (mo + max (p - la) (la - p)) = mo + max (p - la) (la - p) := IntWalk.i64_in _ (by omega)
          have w6 : IntKind.i64.wrap (le + max (q - ot) (ot - q)) = le + max (q - ot) (ot - q) := IntWalk.i64_in _ (by omega)
          rcases k with _ | j
          · simp only [Nat.add_zero] at k1 k2 k3
            have hki0 : (0 : Int) < (xs.length : Int) := by omega
            obtain rfl : m = 0 := hm3 rfl
            have HM := Lib.hid hm3
            clear hki hm1 hm2 hm3 HM
            go_wp2_with fail
            go_quiet (fail)
            go_wp2_with fail
            go_quiet (fail)
            generalize hWq : World.drewN (World.drewN wr _) _ = Wq
            have qv : Wq.ownsRow w3.heap.size 3 1 u13 0 ((Play.slow (xs.take 0)).map (Value.int .i64)) := by rw [← hWq]; exact hv
            have qu : Wq.ownsRow w3.heap.size 3 1 u14 0 ((Play.upFrom 0 (xs.take 0)).map (Value.int .i64)) := by rw [← hWq]; exact hu
            have qb : Below w3.heap.size w3 Wq := by rw [← hWq]; exact (by repeat (first | with_reducible exact Below.refl _ _ | with_reducible assumption | with_reducible refine Below.setCell ?_ (by first | omega | (simp; done) | (simp; omega)) _ | with_reducible refine below_drewN ?_ _ | with_reducible refine Below.drew ?_ | with_reducible refine Below.alloc ?_ (by first | omega | (simp; done) | (simp; omega)) _ | with_reducible refine below_after ?_ (by assumption) (by first | omega | (simp; done) | (simp; omega))))
            have qs := qb.size
            clear hWq hv hu eb k1 k2 k3 w1 w2' w3' w4 w5 w6
            go_wp2_with (at_builtin; refine wpList_append_own_at _ rfl (.tmp 186) (.tmp 188) 56 rfl w3.heap.size 3 i0' (.int .i64 0) 1 8 Tryz.underlying56 hi' hz0 hz1 hz2 rfl (by decide) _ _ _ rfl (qv.alloc _) ⟨_, 0, none⟩ 1 1 [.int .i64 (x)] rfl rfl (cell_one_new _ _ _) ?hone ?c3 ?c4 ?c5 ?_)
            case hone => intro u hu; simp at hu; subst hu; rfl
            case c3 => unfold maxLen; omega
            case c4 => omega
            case c5 => simp; omega
            intro v' W1 hown' hgrow _ hat
            obtain ⟨qu1, sep1⟩ := sep_step qu hsep hgrow hat
            have qb1 := below_grown qb qs qv hgrow
            have qs1 := qb1.size
            clear hgrow hat qv qu hsep qb qs
            go_wp2_with (at_builtin; refine wpList_append_own_at _ rfl (.tmp 190) (.tmp 195) 56 rfl w3.heap.size 3 i0' (.int .i64 0) 1 8 Tryz.underlying56 hi' hz0 hz1 hz2 rfl (by decide) _ _ _ rfl (qu1.alloc _) ⟨_, 0, none⟩ 1 1 [.int .i64 (x)] rfl rfl (cell_one_new _ _ _) ?hone ?c3 ?c4 ?c5 ?_)
            case hone => intro u hu; simp at hu; subst hu; rfl
            case c3 => unfold maxLen; omega
            case c4 => omega
            case c5 => simp; omega
            intro u' W2 hown2 hgrow hnn hat
            obtain ⟨qv2, sep2⟩ := sep_step hown' sep1.symm hgrow hat
            have qb2 := below_grown qb1 qs1 qu1 hgrow
            clear hgrow hat qu1 sep1 qb1 qs1 hnn
            go_wp2_with fail
            go_roundw
            case rel => exact plays_zero (by omega) HN.out HX.out qv2 hown2 sep2.symm qb2
            case measure => simp [intOf]; omega
          · obtain ⟨b4, off4, y, hA4, _, hy, hcy⟩ := HRX.out.int j (by omega)
            injection hA4 with hA4
            injection hA4 with e1' e2'
            subst e1'
            subst e2'
            have hmy := HPOS.out y (List.mem_of_getElem? hy)
            have hbt := Play.mid_between y x
            unfold Play.mid at hbt
            have htb : -100000 ≤ y + (x - y).tdiv 2 ∧ y + (x - y).tdiv 2 ≤ 100000 := by omega
            have htb2 : -200000 ≤ (x - y).tdiv 2 ∧ (x - y).tdiv 2 ≤ 200000 := by omega
            have ky := (eb.cell (p := ⟨b, off + j, none⟩) (by show b < _; omega)).trans hcy
            have HY := Lib.hid hy
            have hki0 : (j : Int) + 1 < (xs.length : Int) := by omega
            have hkj : (j : Int) < (xs.length : Int) := by omega
            obtain ⟨ht1, ht2⟩ := htb
            obtain ⟨ht3, ht4⟩ := htb2
            clear hki hm3 hy hcy hbt
            go_wp2_with fail
            go_quiet (fail)
            go_wp2_with fail
            go_quiet (fail)
            generalize hWq : World.drewN (World.drewN wr _) _ = Wq
            have qv : Wq.ownsRow w3.heap.size 3 1 u13 m ((Play.slow (xs.take (j + 1))).map (Value.int .i64)) := by rw [← hWq]; exact hv
            have qu : Wq.ownsRow w3.heap.size 3 1 u14 (j + 1) ((Play.upFrom 0 (xs.take (j + 1))).map (Value.int .i64)) := by rw [← hWq]; exact hu
            have qb : Below w3.heap.size w3 Wq := by rw [← hWq]; exact (by repeat (first | with_reducible exact Below.refl _ _ | with_reducible assumption | with_reducible refine Below.setCell ?_ (by first | omega | (simp; done) | (simp; omega)) _ | with_reducible refine below_drewN ?_ _ | with_reducible refine Below.drew ?_ | with_reducible refine Below.alloc ?_ (by first | omega | (simp; done) | (simp; omega)) _ | with_reducible refine below_after ?_ (by assumption) (by first | omega | (simp; done) | (simp; omega))))
            have qs := qb.size
            have ky2 : Wq.cell? ⟨b, off + j, none⟩ = some (.int .i64 y) := by rw [← hWq]; exact ky
            clear hWq hv hu eb k1 k2 k3 ky w1 w2' w3' w4 w5 w6
            go_wp2_with (at_builtin; refine wpList_append_own_at _ rfl (.tmp 177) (.tmp 184) 56 rfl w3.heap.size 3 i0' (.int .i64 0) 1 8 Tryz.underlying56 hi' hz0 hz1 hz2 rfl (by decide) _ _ _ rfl (qv.alloc _) ⟨_, 0, none⟩ 1 1 [.int .i64 (y + (x - y).tdiv 2)] rfl rfl (cell_one_new _ _ _) ?hone ?c3 ?c4 ?c5 ?_)
            case hone => intro u hu; simp at hu; subst hu; rfl
            case c3 => unfold maxLen; omega
            case c4 => omega
            case c5 => simp; omega
            intro v' W1 hown' hgrow _ hat
            obtain ⟨qu1, sep1⟩ := sep_step qu hsep hgrow hat
            have qb1 := below_grown qb qs qv hgrow
            have qs1 := qb1.size
            clear hgrow hat qv qu hsep qb qs ky2
            go_wp2_with (at_builtin; refine wpList_append_own_at _ rfl (.tmp 186) (.tmp 188) 56 rfl w3.heap.size 3 i0' (.int .i64 0) 1 8 Tryz.underlying56 hi' hz0 hz1 hz2 rfl (by decide) _ _ _ rfl (hown'.alloc _) ⟨_, 0, none⟩ 1 1 [.int .i64 (x)] rfl rfl (cell_one_new _ _ _) ?hone ?c3 ?c4 ?c5 ?_)
            case hone => intro u hu; simp at hu; subst hu; rfl
            case c3 => unfold maxLen; omega
            case c4 => omega
            case c5 => simp; omega
            intro v2 W2 hown2 hgrow hnn hat
            obtain ⟨qu2, sep2⟩ := sep_step qu1 sep1 hgrow hat
            have qb2 := below_grown qb1 qs1 hown' hgrow
            have qs2 := qb2.size
            clear hgrow hat qu1 hown' sep1 qb1 qs1 hnn
            go_wp2_with (at_builtin; refine wpList_append_own_at _ rfl (.tmp 190) (.tmp 195) 56 rfl w3.heap.size 3 i0' (.int .i64 0) 1 8 Tryz.underlying56 hi' hz0 hz1 hz2 rfl (by decide) _ _ _ rfl (qu2.alloc _) ⟨_, 0, none⟩ 1 1 [.int .i64 (x + ((j : Int) + 1) % 3)] rfl rfl (cell_one_new _ _ _) ?hone ?c3 ?c4 ?c5 ?_)
            case hone => intro u hu; simp at hu; subst hu; rfl
            case c3 => unfold maxLen; omega
            case c4 => omega
            case c5 => simp; omega
            intro u' W3 hown3 hgrow hnn hat
            obtain ⟨qv3, sep3⟩ := sep_step hown2 sep2.symm hgrow hat
            have qb3 := below_grown qb2 qs2 qu2 hgrow
            clear hgrow hat qu2 hown2 sep2 qb2 qs2 hnn
            go_wp2_with fail
            go_roundw
            case rel => exact plays_more (by omega) HN.out HX.out HY.out hm1 hm2 (by rw [List.append_assoc]; exact qv3) hown3 sep3.symm qb3
            case measure => simp [intOf]; omega
        · obtain rfl : k = xs.length := by omega
          rw [List.take_length] at hv hu
          have e4 := e3.trans (eb.mono e3.size)
          have hlen1 := Play.slow_len xs
          have hlen2 := Play.upFrom_len 0 xs
          have hm : m = (Play.slow xs).length := by have := hv.1; simp at this; exact this.symm
          obtain ⟨A5, c5, rfl, _, r5⟩ := Row.of_own hv
          obtain ⟨A6, c6, rfl, _, r6⟩ := Row.of_own hu
          subst hm
          have HPs := Lib.hid (fun w' (hb : Below wr.heap.size wr w') => play_any A5 c5 wr.heap.size l0 s0 (Play.slow xs) w' (by omega) (r5.below hb (Nat.le_refl _)) hb.size (by omega) (by omega) (by omega) (by omega) (fun x hx => by have := Play.slow_bd 100000 xs HPOS.out x hx; omega))
          have HPh0 := fun w' (hb : Below wr.heap.size wr w') => play_any A6 c6 wr.heap.size l0 s0 (Play.upFrom 0 xs) w' (by omega) (r6.below hb (Nat.le_refl _)) hb.size (by omega) (by omega) (by omega) (by omega) (fun x hx => by have := Play.upFrom_bd 100000 0 xs HPOS.out x hx; omega)
          rw [hlen2] at HPh0
          have HPh := Lib.hid HPh0
          have hmv := Play.mv_less l0 (l0 + l1) (by omega) (by omega) xs s0 s0 (by omega) (by omega)
          have hl5 := Play.plays_len l0 s0 (Play.slow xs)
          have hl6 := Play.plays_len l0 s0 (Play.upFrom 0 xs)
          rw [hlen2] at hl6
          have HH := Lib.hid (And.intro hlen1 hlen2)
          clear hlt hv hu hsep hm1 hm2 hm3 r5 r6 HPh0 hlen1 hlen2 hk hsz
          go_wp2_with fail
          refine (HPs.out _ (Below.refl _ _)).mono ?_
          rintro e w5 ⟨A7, c7, rfl, r7, hb7⟩
          have R7 := Lib.hid r7
          go_wp2_with fail
          refine (HPh.out _ hb7).mono ?_
          rintro e w6 ⟨A8, c8, rfl, r8, hb8⟩
          have R7' := Lib.hid (R7.out.below hb8 (Nat.le_refl _))
          have R8 := Lib.hid r8
          have e5 := below_after e4 hb7 (Nat.le_refl _)
          have e6 := below_after e5 hb8 (Nat.le_refl _)
          have e36 := below_after (eb.trans (hb7.mono eb.size)) hb8 (Nat.le_refl _)
          have HRX6 := Lib.hid (HRX.out.below e36 (by omega))
          have HR26 := Lib.hid (HR2'.out.below e36 (by omega))
          have hsz6 := hb8.size
          have hsz36 := e36.size
          clear r7 r8 R7 hb8 hb7 HPs HPh e4 e5 eb e3 HRX HR2' HR3
          go_wp2_with fail
          go_loopw [237] (fun i wz => ∃ k : Nat, k ≤ xs.length ∧ i = .int .i64 k ∧ Below w6.heap.size w6 wz) (fun i _ => xs.length - (intOf i).toNat)
          case atStart => exact ⟨0, Nat.zero_le _, rfl, Below.refl _ _⟩
          case round =>
            obtain ⟨k, hk, rfl, ez⟩ := hrel
            have hszz := ez.size
            by_cases hlt : k < xs.length
            · obtain ⟨b2, off2, y2, rfl, hbB2, hp2, hc2⟩ := HR26.out.int k (by rw [hl2]; exact hlt)
              obtain ⟨b7, off7, z, rfl, hbB7, hp7, hc7⟩ := R7'.out.int (2 * k) (by rw [hl5, HH.out.1]; omega)
              obtain ⟨b8, off8, y, rfl, hbB8, hp8, hc8⟩ := R8.out.int k (by rw [hl6]; exact hlt)
              have hz := Play.plays_slow l0 h0 s0 xs k hlt
              rw [hp7, hp2] at hz
              have hz2 := Option.some.inj hz
              subst hz2
              have hup := Play.plays_up l0 xs 0 s0 s0 (by omega) k z y hp2 hp8
              have hup2 : decide (y < z) = false := by simp; omega
              have k2 := (ez.cell (p := ⟨b2, off2 + k, none⟩) (by show b2 < _; omega)).trans hc2
              have k7 := (ez.cell (p := ⟨b7, off7 + 2 * k, none⟩) (by show b7 < _; omega)).trans hc7
              have k8 := (ez.cell (p := ⟨b8, off8 + k, none⟩) (by show b8 < _; omega)).trans hc8
              have q0 : (k : Int) < (xs.length : Int) := by omega
              have q1 : IntKind.i64.wrap (2 * (k : Int)) = 2 * (k : Int) := IntWalk.i64_in _ (by omega)
              have q2 : (2 * (k : Int)).toNat = 2 * k := by omega
              have q3 : 2 * (k : Int) < ((Play.slow xs).length : Int) := by have := HH.out.1; omega
              have q4 : (0 : Int) ≤ 2 * (k : Int) := by omega
              have q5 : (z != z) = false := by simp
              clear hp2 hp7 hp8 hz hup hc2 hc7 hc8
              go_wp2_with fail
              go_quiet (fail)
              clear q1 q2 q3 q4 q5 hup2
              go_wp2_with fail
              go_roundw
              case rel => exact ⟨k + 1, by omega, by go_num, (by repeat (first | with_reducible exact Below.refl _ _ | with_reducible assumption | with_reducible refine Below.setCell ?_ (by first | omega | (simp; done) | (simp; omega)) _ | with_reducible refine below_drewN ?_ _ | with_reducible refine Below.drew ?_ | with_reducible refine Below.alloc ?_ (by first | omega | (simp; done) | (simp; omega)) _ | with_reducible refine below_after ?_ (by assumption) (by first | omega | (simp; done) | (simp; omega))))⟩
              case measure => simp [intOf]; omega
            · have ez6 := below_after e6 ez (Nat.le_refl _)
              have hEz := hE.below ez6
              by_cases h1l : 1 < xs.length
              · obtain ⟨K, hK2⟩ : ∃ K, xs.length / 2 = K := ⟨_, rfl⟩
                have hK : (xs.length : Int) / 2 = (K : Int) := by omega
                have hK3 : 1 ≤ K := by omega
                have hK4 : 2 * K ≤ xs.length := by omega
                have HRXz := HRX6.out.below ez (by omega)
                have HR2z := Lib.hid (HR26.out.below ez (by omega))
                obtain ⟨b, off, rfl⟩ := HRXz.some (by simp; omega)
                have HPr0 := play_any (some ⟨b, off, none⟩) c w.heap.size l0 s0 (xs.take K) wr (by rw [List.length_take]; omega) (by rw [List.map_take]; exact HRXz.take) (by omega) (by omega) (by omega) (by omega) (by omega) (fun x hx => by have := HPOS.out x (List.mem_of_mem_take hx); omega)
                have htl : (xs.take K).length = K := by rw [List.length_take]; omega
                rw [htl] at HPr0
                have HPr := Lib.hid HPr0
                have hl9 : (Play.plays l0 s0 (xs.take K)).length = K := by rw [Play.plays_len, htl]
                have hlast := Play.lastSeen_take l0 s0 xs (K - 1) (by omega)
                rw [show K - 1 + 1 = K by omega] at hlast
                have HZ := Lib.hid HRXz
                clear HRXz HPr0 htl HRX6 HR26 R7' R8 HH
                go_wp2_with fail
                refine HPr.out.mono ?_
                rintro e w9 ⟨A9, c9, rfl, r9, hb9⟩
                have e9 := below_after ez6 hb9 (Nat.le_refl _)
                go_wp2_with fail
                obtain ⟨b9, off9, f, rfl, hbB9, hf, hc9⟩ := r9.int (K - 1) (by rw [hl9]; omega)
                have hff : Play.lastSeen l0 s0 (xs.take K) = f := by
                  have h := Play.lastSeen_take l0 s0 (xs.take K) (K - 1) (by rw [List.length_take]; omega)
                  rw [show K - 1 + 1 = K by omega, List.take_take, Nat.min_self] at h
                  rw [h, List.getD_eq_getElem?_getD, hf]; rfl
                have hfb := Play.lastSeen_bd l0 s0 100000 h0 (xs.take K) (fun z hz => HPOS.out z (List.mem_of_mem_take hz)) (by omega) (by omega)
                rw [hff] at hfb
                have hdrop := (HZ.out.below hb9 (by omega)).cut (n := K) (by simp; omega)
                rw [← List.map_drop] at hdrop
                have hP0 := fun w' (hb : Below w9.heap.size w9 w') => play_any (some ⟨b, off + K, none⟩) (c - K) w.heap.size l0 f (xs.drop K) w' (by rw [List.length_drop]; omega) (hdrop.below hb (by have := hb9.size; omega)) (by have := hb9.size; have := hb.size; omega) (by omega) (by omega) (by omega) (by omega) (fun x hx => by have := HPOS.out x (List.mem_of_mem_drop hx); omega)
                rw [List.length_drop] at hP0
                have HP2 := Lib.hid hP0
                have R9 := Lib.hid r9
                have HF := Lib.hid hff
                have ed : Below w9.heap.size w9 w9.drew := (Below.refl _ _).drew
                have e9d := e9.drew
                have hcK : ¬ c = K := by omega
                have q0 : (0 : Int) ≤ (K : Int) := by omega
                have q1 : (K : Int) ≤ (xs.length : Int) := by omega
                have q2 : IntKind.i64.wrap ((K : Int) - 1) = (K : Int) - 1 := IntWalk.i64_in _ (by omega)
                have q3 : ((K : Int) - 1).toNat = K - 1 := by omega
                have q4 : (0 : Int) ≤ (K : Int) - 1 := by omega
                have q5 : (K : Int) - 1 < (K : Int) := by omega
                have hsz9 := hb9.size
                have ez9 := below_after ez hb9 (Nat.le_refl _)
                have HR29 := Lib.hid (HR2z.out.below hb9 (by omega))
                clear hf hff r9 hlast hdrop hP0 HPr HZ hb9 HR2z ez
                go_region_with (go_at_call 34; refine (HP2.out _ (by with_reducible assumption)).mono ?_; rintro e w10 ⟨A10, c10, rfl, r10, hb10⟩; have R10 := Lib.hid r10; have e10 := below_after (B := w.heap.size) (by with_reducible assumption) hb10 (Nat.le_refl _); have s10 := hb10.size; clear r10)
                have e910 : Below w9.heap.size w9 w10 := below_after ed hb10 (Nat.le_refl _)
                clear q0 q1 q2 q3 q4 q5 hcK
                have hl10 : (Play.plays l0 f (xs.drop K)).length = xs.length - K := by rw [Play.plays_len, List.length_drop]
                obtain ⟨b10, off10, rfl⟩ := R10.out.some (by rw [List.length_map, hl10]; omega)
                go_wp2_with (at_builtin; (refine append_want (by kernel_rfl) (.tmp 302) (.tmp 303) 56 rfl w10.heap.size 3 i0' (.int .i64 0) 1 8 Tryz.underlying56 hi' hz0 hz1 hz2 rfl (by decide) _ 0 [] rfl ?own ⟨b9, off9, none⟩ K c9 ((Play.plays l0 s0 (xs.take K)).map (Value.int .i64)) rfl ?len ?news ?one ?c3 ?c4 ?c5 ?_))
                case len => rw [List.length_map, hl9, Nat.mul_one]
                case one => intro u hu; rw [List.mem_map] at hu; obtain ⟨_, _, rfl⟩ := hu; rfl
                case c3 => unfold maxLen; omega
                case c4 => omega
                case own => exact World.ownsRow_made _ _ _ (Nat.le_refl _) (by decide) rfl
                case c5 => simp
                case news => exact Row.news ((R9.out.below e910 (by omega)).alloc (by have := e910.size; omega) _)
                intro v' W1 hown' hgrow _ hat
                have e11 : Below w10.heap.size w10 W1 := ((Below.refl _ _).alloc (Nat.le_refl _) _).grown hgrow (by simp) (fun k hk => by simp [Value.ownBlock] at hk; omega)
                have s11 := e11.size
                clear hgrow hat
                go_wp2_with (at_builtin; refine append_want (by kernel_rfl) (.tmp 304) (.tmp 305) 56 rfl w10.heap.size 3 i0' (.int .i64 0) 1 8 Tryz.underlying56 hi' hz0 hz1 hz2 rfl (by decide) _ _ _ rfl hown' ⟨b10, off10, none⟩ (xs.length - K) c10 ((Play.plays l0 f (xs.drop K)).map (Value.int .i64)) rfl ?len ?news ?one ?c3 ?c4 ?c5 ?_)
                case len => rw [List.length_map, hl10, Nat.mul_one]
                case one => intro u hu; rw [List.mem_map] at hu; obtain ⟨_, _, rfl⟩ := hu; rfl
                case c3 => unfold maxLen; omega
                case c4 => omega
                case c5 => omega
                case news => exact Row.news (R10.out.below e11 (Nat.le_refl _))
                intro v2 W2 hown2 hgrow2 _ hat
                have e12 : Below w10.heap.size w10 W2 := e11.grown hgrow2 (by omega) (fun k hk => (hown'.lt k hk).1)
                have s12 := e12.size
                have hvs : (Play.plays l0 s0 (xs.take K)).map (Value.int .i64) ++ (Play.plays l0 f (xs.drop K)).map (Value.int .i64) = (Play.plays l0 s0 xs).map (Value.int .i64) := by
                  rw [← List.map_append, ← HF.out, ← Play.plays_append, List.take_append_drop]
                rw [hvs, show K + (xs.length - K) = xs.length by omega] at hown2
                obtain ⟨A12, c12, rfl, _, r12⟩ := Row.of_own hown2
                have e9W := below_after e910 e12 (by omega)
                have hsz9w := e910.size
                have HS0 := SameInts_any A12 A2 c12 c2 W2.heap.size (Play.plays l0 s0 xs) (Play.plays l0 s0 xs) W2 (by omega) (by omega) r12 ((HR29.out.below e9W (by omega)).more (by omega)) (Nat.le_refl _)
                rw [hl2, decide_eq_true (rfl : Play.plays l0 s0 xs = Play.plays l0 s0 xs)] at HS0
                have HS := Lib.hid HS0
                have e13 := below_after e10 e12 (by omega)
                clear hown' hown2 hgrow2 hat r12 HS0 hvs e11
                go_wp2_with fail
                refine HS.out.mono ?_
                rintro e w14 ⟨rfl, hb14⟩
                have e14 := below_after e13 hb14 (Nat.le_refl _)
                clear hb14 HS
                go_wp2_with fail
                refine (toothRun_true _ (hE.below e14)).mono ?_
                rintro e w15 ⟨rfl, hb15⟩
                have e15 := below_after e14 hb15 (Nat.le_refl _)
                go_wp2_with fail
                go_ret
                exact ⟨rfl, e15⟩
              · go_wp2_with fail
                refine (toothRun_true _ hEz).mono ?_
                rintro e w9 ⟨rfl, hb9⟩
                have e9 := below_after ez6 hb9 (Nat.le_refl _)
                go_wp2_with fail
                go_ret
                exact ⟨rfl, e9⟩
    · exact plays_far l0 l1 s0 A c xs w h0 h0' h1 h1' hs hs' hE H.out hlen (fun h => hok h.2)
  · exact plays_far l0 l1 s0 A c xs w h0 h0' h1 h1' hs hs' hE H.out hlen (fun h => h40 h.1)
end Go.Proofs.YtpibknhnhegebaaGreatDoor
