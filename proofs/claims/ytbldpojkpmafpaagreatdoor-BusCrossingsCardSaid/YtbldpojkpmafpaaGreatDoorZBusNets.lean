/- Package bus: the check of nets. -/
import Derived.Test.YtbldpojkpmafpaaGreatDoorZBusCheck
namespace Go.Proofs.YtbldpojkpmafpaaGreatDoor
open Go.RowKit

set_option maxHeartbeats 8000000 in
set_option maxRecDepth 100000 in
theorem CheckNets_any (A : Option Addr) (c B : Nat) (l : List NetAt) (n : Int) (w : World) (h : NetsIn w B A l) (hB : B ≤ w.heap.size) (hl : l.length ≤ 140737488355328) :
    Calls Tryz.prog 39 #[.slice A l.length c, .int .i64 n] w fun e w' => e = .returned (.int .i64 (Bus.netsErr (l.map NetAt.net) n)) ∧ Below w.heap.size w w' := by
  have H := Lib.hid h
  clear h
  by_cases hn : n < 1 ∨ 97 < n
  · have e : Bus.netsErr (l.map NetAt.net) n = 3 := by unfold Bus.netsErr; rw [if_pos hn]
    rw [e]
    by_cases hn0 : n < 1
    · have hb : (decide (n < 1) || decide (97 < n)) = true := by simp [hn0]
      go_enter Tryz.func39, Tryz.ntmps39
      go_wp2_with (first
        | (go_at_call 40; refine (when_any _ _ _).mono ?_; rintro e w1 ⟨rfl, rfl⟩)
        | (go_at_call 38; refine (first_hit21 3 _ w _ (by decide)).mono ?_; rintro e w1 ⟨rfl, rfl⟩))
      all_goals (go_ret; exact ⟨rfl, (Below.refl _ w).alloc (Nat.le_refl _) _⟩)
    · have hn1 : 97 < n := by omega
      have hb : (decide (n < 1) || decide (97 < n)) = true := by simp [hn1]
      go_enter Tryz.func39, Tryz.ntmps39
      go_wp2_with (first
        | (go_at_call 40; refine (when_any _ _ _).mono ?_; rintro e w1 ⟨rfl, rfl⟩)
        | (go_at_call 38; refine (first_hit21 3 _ w _ (by decide)).mono ?_; rintro e w1 ⟨rfl, rfl⟩))
      all_goals (go_ret; exact ⟨rfl, (Below.refl _ w).alloc (Nat.le_refl _) _⟩)
  · by_cases h64 : 64 < l.length
    · have e : Bus.netsErr (l.map NetAt.net) n = 5 := by unfold Bus.netsErr; rw [if_neg hn, if_pos (by rw [List.length_map]; exact h64)]
      rw [e]
      have hn1 : ¬ n < 1 := fun h => hn (.inl h)
      have hn2 : ¬ 97 < n := fun h => hn (.inr h)
      have hb : (decide (n < 1) || decide (97 < n)) = false := by simp; omega
      have hd : decide ((64 : Int) < (l.length : Int)) = true := by simp; omega
      have hd2 : (64 : Int) < (l.length : Int) := by omega
      clear hn
      go_enter Tryz.func39, Tryz.ntmps39
      go_wp2_with (first
        | (go_at_call 40; refine (when_any _ _ _).mono ?_; rintro e w1 ⟨rfl, rfl⟩)
        | (go_at_call 38; refine (first_hit22 5 w _).mono ?_; rintro e w1 ⟨rfl, rfl⟩))
      all_goals (go_ret; exact ⟨rfl, (Below.refl _ w).alloc (Nat.le_refl _) _⟩)
    · obtain ⟨r, hr⟩ : ∃ r, Bus.netsFrom n [] (l.map NetAt.net) = r := ⟨_, rfl⟩
      have e : Bus.netsErr (l.map NetAt.net) n = r := by unfold Bus.netsErr; rw [if_neg hn, if_neg (by rw [List.length_map]; exact h64), hr]
      rw [e]
      have HR := Lib.hid hr
      have hn1 : ¬ n < 1 := fun h => hn (.inl h)
      have hn2 : ¬ 97 < n := fun h => hn (.inr h)
      clear e hr hn
      have hmm := @run_makeMap Tryz.prog
      have HF0 := Lib.hid (first_two 0 0 w 30)
      rw [show firstOf [0, 0] = 0 from rfl] at HF0
      go_enter Tryz.func39, Tryz.ntmps39
      go_wp2_with (first
        | (go_at_call 40; refine (when_no_of _ _ _ (by first | rfl | assumption | (simp; omega))).mono ?_; rintro e w1 ⟨rfl, rfl⟩)
        | (go_at_call 38; refine HF0.out.mono ?_; rintro e w1 ⟨rfl, rfl⟩))
      clear hmm HF0
      generalize hW0 : World.alloc (World.alloc w _) _ = W0
      obtain ⟨M, hM⟩ : ∃ M, w.heap.size + 1 = M := ⟨_, rfl⟩
      have hset0 : IntSet W0 M [] := by
        rw [← hW0, ← hM]
        have := IntSet.made (w.alloc (.cells #[.int .i64 0, .int .i64 0] 30))
        simpa using this
      have e0 : Below w.heap.size w W0 := by rw [← hW0]; exact ((Below.refl _ w).alloc (Nat.le_refl _) _).alloc (by simp) _
      have hMw : w.heap.size < M := by omega
      try rw [hM]
      clear hW0 hM
      go_loopw [33] (fun i wr => ∃ k : Nat, k ≤ l.length ∧ i = .int .i64 k ∧ IntSet wr M ((l.take k).map NetAt.sh) ∧ Bus.netsFrom n ((l.take k).map NetAt.sh) ((l.drop k).map NetAt.net) = r ∧ Below w.heap.size w wr) (fun i _ => l.length - (intOf i).toNat)
      case atStart => exact ⟨0, Nat.zero_le _, rfl, hset0, HR.out, e0⟩
      case round =>
        obtain ⟨k, hk, rfl, hset, hpre, eb⟩ := hrel
        have hsz := eb.size
        have HP := Lib.hid hpre
        clear hpre hset0 e0
        by_cases hlt : k < l.length
        · obtain ⟨b, off, x, rfl, hbB, hx, hc1, hc2, hrow, hfew, hix, hics⟩ := H.out.net k hlt
          have hk1 := (eb.cell (p := ⟨b, off + k * 2, none⟩) (by show b < _; omega)).trans hc1
          have hk2 := (eb.cell (p := ⟨b, off + k * 2 + 1, none⟩) (by show b < _; omega)).trans hc2
          have HROW := Lib.hid hrow
          have hd : l.drop k = x :: l.drop (k + 1) := by
            rw [List.drop_eq_getElem_cons hlt]
            rw [List.getElem?_eq_getElem hlt] at hx
            rw [Option.some.inj hx]
          have HT := Lib.hid (show (l.take (k + 1)).map NetAt.sh = (l.take k).map NetAt.sh ++ [x.sh] by rw [List.take_add_one, hx]; simp)
          have hp := HP.out
          rw [hd, List.map_cons] at hp
          have hlen : ((l.take k).map NetAt.sh).length ≤ 1000000 := by rw [List.length_map, List.length_take]; omega
          clear hx hd hc1 hc2 hrow
          go_wp2_with fail
          generalize hW1 : World.alloc wr _ = W1
          obtain ⟨G, hG⟩ : ∃ G, wr.heap.size = G := ⟨_, rfl⟩
          have d1 : Blk W1 G 26 #[.int .i64 x.sh, .slice x.loc x.cols.length x.cap] := by rw [← hW1, ← hG]; exact Blk.new _ _ _
          have eb1 : Below w.heap.size w W1 := by rw [← hW1]; exact eb.alloc hsz _
          have hset1 : IntSet W1 M ((l.take k).map NetAt.sh) := by rw [← hW1]; exact hset.kept (World.grownBy_alloc _ _ none) (by simp)
          have hGw : w.heap.size ≤ G := by omega
          have hMG : M < G := by rw [← hG]; exact hset.lt
          have hlook := hset1.drew.look x.sh hix
          have m1 := d1.drew.cell 0
          have m2 := d1.drew.cell 1
          try rw [hG]
          clear hW1 hG eb hset hk1 hk2
          by_cases hx0 : x.sh < 0
          · have hb1 : (decide (x.sh < 0) || decide (100 ≤ x.sh)) = true := by simp [hx0]
            rw [Bus.nets_bad (x := x.net) (Or.inl hx0)] at hp
            have HN := Lib.hid hp
            obtain ⟨v2, hv2⟩ : ∃ v2, decide (x.sh ∈ (l.take k).map NetAt.sh) = v2 := ⟨_, rfl⟩
            rw [hv2] at hlook
            clear hp HP hv2
            go_wp2_with fail
            go_still_tail 19, (by kernel_rfl)
            still_call (when_on _ _ _ (by first | rfl | assumption | simp))
            repeat still_step
            still_call (when_st v2 _ _)
            repeat still_step
            still_call (when_st _ _ _)
            repeat still_step
            refine wpStill_nil ?_
            change wpList _ _ _ _ _ W1.drew
            generalize hW2 : W1.drew = W2
            have hset2 : IntSet W2 M ((l.take k).map NetAt.sh) := by rw [← hW2]; exact hset1
            have eb2 : Below w.heap.size w W2 := by rw [← hW2]; exact eb1.drew
            have c2 : Blk W2 G 26 #[.int .i64 x.sh, .slice x.loc x.cols.length x.cap] := by rw [← hW2]; exact d1.drew
            have hsz2 := eb2.size
            clear hW2 hset1 eb1 hlook d1 m1 m2
            go_wp2_with (go_at_call 38; refine (first_hit1 3 _ _ W2 _ (by decide)).mono ?_; rintro e w1 ⟨rfl, rfl⟩)
            all_goals (go_ret; exact ⟨ret_i64 HN.out, eb2.alloc hsz2 _⟩)
          · by_cases hxn : 100 ≤ x.sh
            · have hb1 : (decide (x.sh < 0) || decide (100 ≤ x.sh)) = true := by simp [hxn]
              rw [Bus.nets_bad (x := x.net) (Or.inr hxn)] at hp
              have HN := Lib.hid hp
              obtain ⟨v2, hv2⟩ : ∃ v2, decide (x.sh ∈ (l.take k).map NetAt.sh) = v2 := ⟨_, rfl⟩
              rw [hv2] at hlook
              clear hp HP hv2
              go_wp2_with fail
              go_still_tail 19, (by kernel_rfl)
              still_call (when_on _ _ _ (by first | rfl | assumption | simp))
              repeat still_step
              still_call (when_st v2 _ _)
              repeat still_step
              still_call (when_st _ _ _)
              repeat still_step
              refine wpStill_nil ?_
              change wpList _ _ _ _ _ W1.drew
              generalize hW2 : W1.drew = W2
              have hset2 : IntSet W2 M ((l.take k).map NetAt.sh) := by rw [← hW2]; exact hset1
              have eb2 : Below w.heap.size w W2 := by rw [← hW2]; exact eb1.drew
              have c2 : Blk W2 G 26 #[.int .i64 x.sh, .slice x.loc x.cols.length x.cap] := by rw [← hW2]; exact d1.drew
              have hsz2 := eb2.size
              clear hW2 hset1 eb1 hlook d1 m1 m2
              go_wp2_with (go_at_call 38; refine (first_hit1 3 _ _ W2 _ (by decide)).mono ?_; rintro e w1 ⟨rfl, rfl⟩)
              all_goals (go_ret; exact ⟨ret_i64 HN.out, eb2.alloc hsz2 _⟩)
            · have hb1 : (decide (x.sh < 0) || decide (100 ≤ x.sh)) = false := by simp; omega
              have hno : ¬ (x.net.1 < 0 ∨ 100 ≤ x.net.1) := by show ¬ (x.sh < 0 ∨ 100 ≤ x.sh); omega
              by_cases h2 : x.sh ∈ (l.take k).map NetAt.sh
              · have hd2 : decide (x.sh ∈ (l.take k).map NetAt.sh) = true := decide_eq_true h2
                rw [hd2] at hlook
                rw [Bus.nets_twice hno h2] at hp
                have HN := Lib.hid hp
                clear hp HP hd2
                go_wp2_with fail
                go_still_tail 19, (by kernel_rfl)
                still_call (when_off _ _ _ (by first | rfl | assumption | simp))
                repeat still_step
                still_call (when_on _ _ _ rfl)
                repeat still_step
                still_call (when_st _ _ _)
                repeat still_step
                refine wpStill_nil ?_
                change wpList _ _ _ _ _ W1.drew
                generalize hW2 : W1.drew = W2
                have hset2 : IntSet W2 M ((l.take k).map NetAt.sh) := by rw [← hW2]; exact hset1
                have eb2 : Below w.heap.size w W2 := by rw [← hW2]; exact eb1.drew
                have c2 : Blk W2 G 26 #[.int .i64 x.sh, .slice x.loc x.cols.length x.cap] := by rw [← hW2]; exact d1.drew
                have hsz2 := eb2.size
                clear hW2 hset1 eb1 hlook d1 m1 m2
                go_wp2_with (go_at_call 38; refine (first_hit2 9 _ W2 _ (by decide)).mono ?_; rintro e w1 ⟨rfl, rfl⟩)
                all_goals (go_ret; exact ⟨ret_i64 HN.out, eb2.alloc hsz2 _⟩)
              · have hd2 : decide (x.sh ∈ (l.take k).map NetAt.sh) = false := decide_eq_false h2
                rw [hd2] at hlook
                clear hd2
                by_cases h4 : x.cols = []
                · have hcl : x.cols.length = 0 := by rw [h4]; rfl
                  have hcb : decide ((x.cols.length : Int) = 0) = true := by simp [h4]
                  rw [Bus.nets_empty hno h2 h4] at hp
                  have HN := Lib.hid hp
                  clear hp HP h4
                  go_wp2_with fail
                  go_still_tail 19, (by kernel_rfl)
                  still_call (when_off _ _ _ (by first | rfl | assumption | simp))
                  repeat still_step
                  still_call (when_off _ _ _ rfl)
                  repeat still_step
                  still_call (when_on _ _ _ (by first | rfl | assumption | (simp; omega) | (simp [hcl]; done)))
                  repeat still_step
                  refine wpStill_nil ?_
                  change wpList _ _ _ _ _ W1.drew
                  generalize hW2 : W1.drew = W2
                  have hset2 : IntSet W2 M ((l.take k).map NetAt.sh) := by rw [← hW2]; exact hset1
                  have eb2 : Below w.heap.size w W2 := by rw [← hW2]; exact eb1.drew
                  have c2 : Blk W2 G 26 #[.int .i64 x.sh, .slice x.loc x.cols.length x.cap] := by rw [← hW2]; exact d1.drew
                  have hsz2 := eb2.size
                  clear hW2 hset1 eb1 hlook d1 m1 m2
                  go_wp2_with (go_at_call 38; refine (first_hit3 12 W2 _ (by decide)).mono ?_; rintro e w1 ⟨rfl, rfl⟩)
                  all_goals (go_ret; exact ⟨ret_i64 HN.out, eb2.alloc hsz2 _⟩)
                · have hcl : x.cols.length ≠ 0 := fun h => h4 (List.eq_nil_of_length_eq_zero h)
                  rw [Bus.nets_cols hno h2 h4] at hp
                  have HN := Lib.hid hp
                  have H2 := Lib.hid h2
                  clear hp HP h2 h4
                  go_wp2_with fail
                  go_still_tail 19, (by kernel_rfl)
                  still_call (when_off _ _ _ (by first | rfl | assumption | simp))
                  repeat still_step
                  still_call (when_off _ _ _ rfl)
                  repeat still_step
                  still_call (when_off _ _ _ (by first | rfl | assumption | (simp; omega) | (simp [hcl]; done)))
                  repeat still_step
                  refine wpStill_nil ?_
                  change wpList _ _ _ _ _ W1.drew
                  generalize hW2 : W1.drew = W2
                  have hset2 : IntSet W2 M ((l.take k).map NetAt.sh) := by rw [← hW2]; exact hset1
                  have eb2 : Below w.heap.size w W2 := by rw [← hW2]; exact eb1.drew
                  have c2 : Blk W2 G 26 #[.int .i64 x.sh, .slice x.loc x.cols.length x.cap] := by rw [← hW2]; exact d1.drew
                  have hsz2 := eb2.size
                  clear hW2 hset1 eb1 hlook d1 m1 m2
                  have q1 : W2.cell? ⟨G, 0, none⟩ = some (.int .i64 x.sh) := c2.cell 0
                  have q2 : W2.cell? ⟨G, 1, none⟩ = some (.slice x.loc x.cols.length x.cap) := c2.cell 1
                  have hGs := c2.lt
                  have HF := Lib.hid (first_three 0 0 0 W2 30)
                  rw [show firstOf [0, 0, 0] = 0 from rfl] at HF
                  go_wp2_with (first
                    | (go_at_call 38; refine HF.out.mono ?_; rintro e w1 ⟨rfl, rfl⟩)
                    | (at_mapUpdate; refine wpList_put_set rfl _ _ _ rfl M ((l.take k).map NetAt.sh) rfl (hset2.kept (World.grownBy_alloc _ _ none) (by simp)) x.sh rfl hix rfl hlen H2.out ?_; intro w3 hset3 hgrow3; have c3 : Blk w3 G 26 #[.int .i64 x.sh, .slice x.loc x.cols.length x.cap] := (hgrow3.block G (by have := c2.lt; simp; omega) (fun e => by injection e; omega)).trans (c2.alloc _); have p1 : w3.cell? ⟨G, 0, none⟩ = some (.int .i64 x.sh) := c3.cell 0; have p2 : w3.cell? ⟨G, 1, none⟩ = some (.slice x.loc x.cols.length x.cap) := c3.cell 1))
                  have eb3 : Below w.heap.size w w3 := (eb2.alloc hsz2 _).grown hgrow3 (by simp; omega) (fun j hj => by cases hj; omega)
                  have hsz3 := eb3.size
                  have hrow3 := Lib.hid (HROW.out.below eb3 hB)
                  obtain ⟨E, hE⟩ : ∃ E, Bus.colErr n (-1) x.cols = E := ⟨_, rfl⟩
                  have HE := Lib.hid hE
                  have hn3 := HN.out
                  rw [show x.net.2 = x.cols from rfl, hE] at hn3
                  have HN3 := Lib.hid hn3
                  clear hE hn3 HN H2 hgrow3 eb2 c2 c3 hset2 q1 q2
                  generalize x.cols = cs at *
                  generalize x.loc = loc at *
                  generalize x.cap = cap at *
                  go_wp2_with fail
                  go_loopw [10, 67] (fun la i wz => ∃ j : Nat, j ≤ cs.length ∧ i = .int .i64 j ∧ la = .int .i64 (Bus.lastOf (cs.take j)) ∧ Bus.colErr n (Bus.lastOf (cs.take j)) (cs.drop j) = E ∧ Below w3.heap.size w3 wz) (fun _ i _ => cs.length - (intOf i).toNat)
                  case atStart => exact ⟨0, Nat.zero_le _, rfl, rfl, HE.out, Below.refl _ _⟩
                  case round =>
                    obtain ⟨j, hj, rfl, rfl, hcol, ez⟩ := hrel
                    have hszz := ez.size
                    by_cases hlj : j < cs.length
                    · obtain ⟨b2, off2, y, rfl, hbB2, hy, hcy⟩ := hrow3.out.int j hlj
                      have hcy2 := (ez.cell (p := ⟨b2, off2 + j, none⟩) (by show b2 < _; omega)).trans hcy
                      have hdj : cs.drop j = y :: cs.drop (j + 1) := by
                        rw [List.drop_eq_getElem_cons hlj]
                        rw [List.getElem?_eq_getElem hlj] at hy
                        rw [Option.some.inj hy]
                      have HTJ := Lib.hid (show Bus.lastOf (cs.take (j + 1)) = y by rw [List.take_add_one, hy]; exact Bus.lastOf_snoc _ _)
                      rw [hdj] at hcol
                      generalize Bus.lastOf (cs.take j) = la at *
                      have ebz : Below w.heap.size w wr := below_after eb3 ez (Nat.le_refl _)
                      have hszw := ebz.size
                      clear hy hcy hdj
                      by_cases hyb : y < 0 ∨ n ≤ y
                      · rw [Bus.col_bad hyb] at hcol
                        subst hcol
                        have hr := HN3.out
                        rw [if_pos (by decide)] at hr
                        have HR2 := Lib.hid hr
                        clear hr
                        by_cases hy0 : y < 0
                        · have hyc : (decide (y < 0) || decide (n ≤ y)) = true := by simp [hy0]
                          go_wp2_with (first
                            | (go_at_call 40; refine (when_any _ _ _).mono ?_; rintro e w1 ⟨rfl, rfl⟩)
                            | (go_at_call 38; refine (first_hit21 10 _ wr _ (by decide)).mono ?_; rintro e w1 ⟨rfl, rfl⟩))
                          all_goals (go_ret; exact ⟨ret_i64 HR2.out, ebz.alloc hszw _⟩)
                        · have hyn : n ≤ y := by omega
                          have hyc : (decide (y < 0) || decide (n ≤ y)) = true := by simp [hyn]
                          go_wp2_with (first
                            | (go_at_call 40; refine (when_any _ _ _).mono ?_; rintro e w1 ⟨rfl, rfl⟩)
                            | (go_at_call 38; refine (first_hit21 10 _ wr _ (by decide)).mono ?_; rintro e w1 ⟨rfl, rfl⟩))
                          all_goals (go_ret; exact ⟨ret_i64 HR2.out, ebz.alloc hszw _⟩)
                      · have hy0 : ¬ y < 0 := fun h => hyb (.inl h)
                        have hyn : ¬ n ≤ y := fun h => hyb (.inr h)
                        have hyc : (decide (y < 0) || decide (n ≤ y)) = false := by simp; omega
                        by_cases hyl : y ≤ la
                        · rw [Bus.col_order hyb hyl] at hcol
                          subst hcol
                          have hr := HN3.out
                          rw [if_pos (by decide)] at hr
                          have HR2 := Lib.hid hr
                          have hyd : decide (y ≤ la) = true := decide_eq_true hyl
                          clear hr
                          go_wp2_with (first
                            | (go_at_call 40; refine (when_any _ _ _).mono ?_; rintro e w1 ⟨rfl, rfl⟩)
                            | (go_at_call 38; refine (first_hit22 11 wr _).mono ?_; rintro e w1 ⟨rfl, rfl⟩))
                          all_goals (go_ret; exact ⟨ret_i64 HR2.out, ebz.alloc hszw _⟩)
                        · rw [Bus.col_ok hyb hyl] at hcol
                          have HC := Lib.hid hcol
                          have hyd : decide (y ≤ la) = false := decide_eq_false hyl
                          clear hcol
                          go_wp2_with (first
                            | (go_at_call 40; refine (when_no_of _ _ _ (by first | rfl | assumption)).mono ?_; rintro e w1 ⟨rfl, rfl⟩)
                            | (go_at_call 38; refine (first_hit22 0 wr _).mono ?_; rintro e w1 ⟨rfl, rfl⟩))
                          go_roundw
                          case rel => exact ⟨j + 1, by omega, by go_num, by rw [HTJ.out], by rw [HTJ.out]; exact HC.out, ez.alloc hszz _⟩
                          case measure => simp [intOf]; omega
                    · obtain rfl : j = cs.length := by omega
                      rw [List.drop_length] at hcol
                      have hE0 : E = 0 := hcol.symm
                      subst hE0
                      have hr := HN3.out
                      rw [if_neg (by decide)] at hr
                      have HR2 := Lib.hid hr
                      clear hr hcol
                      go_wp2_with fail
                      go_roundw
                      case rel => exact ⟨k + 1, by omega, by go_num, by rw [HT.out]; exact hset3.below ez, by rw [HT.out]; exact HR2.out, below_after eb3 ez (Nat.le_refl _)⟩
                      case measure => simp [intOf]; omega
        · obtain rfl : k = l.length := by omega
          have HN := Lib.hid (show (0 : Int) = r by rw [← HP.out, List.drop_length]; rfl)
          clear HP
          go_wp2_with fail
          go_ret
          exact ⟨ret_i64 HN.out, eb⟩
end Go.Proofs.YtbldpojkpmafpaaGreatDoor
