/- integraphlaw07.BusRenamed holds for plain data. -/
import Derived.Test.YtkjjnnbbicoljaaGreatDoorVRen
namespace Go.Proofs.YtkjjnnbbicoljaaGreatDoor
open Go.RowKit Sv
set_option maxRecDepth 100000
set_option linter.unusedVariables false
noncomputable section
def osUp (names : List Int) (n : Int) (nets : List (Int × List Int)) (i : Nat) : List (Int × List Int) := (nets.take i).map (renNet names n)
def anUp (names order : List Int) (i : Nat) : List Int := (order.take i).map (nameOf names)
theorem osUp_next {names : List Int} {n : Int} {nets : List (Int × List Int)} {i : Nat} (h : i < nets.length) : osUp names n nets (i + 1) = osUp names n nets i ++ [((nets.getD i (0, [])).1, colsUp names (nets.getD i (0, [])).2 n.toNat)] := by
  unfold osUp
  rw [takeN_next h, List.map_append]; rfl
theorem anUp_next {names order : List Int} {i : Nat} (h : i < order.length) : anUp names order (i + 1) = anUp names order i ++ [names.getD (order.getD i 0).toNat 0] := by
  unfold anUp
  rw [take_next h, List.map_append]; rfl
theorem pick_len (names cs : List Int) (c : Nat) : ∀ k, (pickUp names cs c k).length ≤ k
  | 0 => by simp [pickUp]
  | k + 1 => by
    have := pick_len names cs c k
    unfold pickUp
    split <;> simp <;> omega
theorem colsUp_len (names cs : List Int) : ∀ c, (colsUp names cs c).length ≤ c * cs.length
  | 0 => by simp [colsUp]
  | c + 1 => by
    have h1 := colsUp_len names cs c
    have h2 := pick_len names cs c cs.length
    unfold colsUp
    rw [List.length_append, Nat.add_mul, Nat.one_mul]; omega
theorem len_snoc {α : Type} (l : List α) (x : α) : l.length + 1 = (l ++ [x]).length := by simp
theorem rD_end : List.drop 2 (fl BRen rD) = [] := by kernel_rfl
theorem rB_ne : List.drop 3 (fl BRen rB) ≠ [] := fun h => by
  have : (List.drop 3 (fl BRen rB)).isEmpty = false := by kernel_rfl
  rw [h] at this; cases this
theorem r10_ne : List.drop 10 (fl BRen []) ≠ [] := fun h => by
  have : (List.drop 10 (fl BRen [])).isEmpty = false := by kernel_rfl
  rw [h] at this; cases this
/-- one net under other names -/
theorem ren_one {nets : List (Int × List Int)} {n : Int} {order names : List Int} {w : World} {F : Env} {Q : Exit → Tr AV → AHeap → Prop} {i : Nat} (hE : Bus.bothErr nets n order = 0) (hM : Bus.orderErr names n = 0) (h12 : ∀ x ∈ nets, x.2.length ≤ 12) (hi : i < nets.length)
    (hq : Q .normal (SO nets n order names (osUp names n nets (i + 1)) i).T (SO nets n order names (osUp names n nets (i + 1)) i).H) :
    GoalL Tryz.prog w F 266 (fl BRen rB) (SO nets n order names (osUp names n nets i) i).T (SO nets n order names (osUp names n nets i) i).H Q := by
  have hS := ren_ok
  obtain ⟨e1, e2⟩ := both_iff.1 hE
  obtain ⟨n1, n97, l64, hcols⟩ := Bus.netsErr_zero e1
  have hnl := (Bus.orderErr_zero hM).1
  have hmem := getN_mem hi
  have hin := (hcols _ hmem).2
  have hcs12 := h12 _ hmem
  have hos : (osUp names n nets i).length ≤ 64 := by unfold osUp; rw [List.length_map, List.length_take]; omega
  have hnext := osUp_next (names := names) (n := n) hi
  generalize hcs : (nets.getD i (0, [])).2 = cs at *
  generalize hsh : (nets.getD i (0, [])).1 = sh at *
  rw [hnext] at hq
  generalize osUp names n nets i = os at *
  refine GoalL.st (s := SO nets n order names os i) known mixed hS 2 _ (rn_new nets n order names os i hi) (by kernel_rfl) ?_
  rw [hsh]
  have hw : ∀ k, k < cs.length → 0 ≤ cs.getD k 0 ∧ (cs.getD k 0).toNat < names.length := fun k hk => by
    have := hin (cs.getD k 0) (by rw [getD_lt hk]; exact List.getElem_mem _)
    omega
  refine GoalL.loop (ι := { c : Nat // (c : Int) ≤ n }) (id := 2) (b := cat BRen rC) (rest := List.drop 3 (fl BRen rB)) (by kernel_rfl) (fun c => SC nets n order names os i sh (colsUp names cs c.1) c.1) (fun c => n.toNat - c.1) ⟨0, by simp; omega⟩ (fun _ => rfl) ?_
  rintro ⟨c, hc⟩
  have hclen := colsUp_len names cs c
  have hcl2 : c * cs.length ≤ 97 * 12 := Nat.mul_le_mul (by omega) (by omega)
  by_cases hlt : (c : Int) < n
  · refine GoalL.st (s := SC nets n order names os i sh (colsUp names cs c) c) known mixed hS 2 _ (rn_crow nets n order names os i sh _ c hlt) (by kernel_rfl) ?_
    refine goalL_blk (id := 3) (c := cat BRen rD) (rest := List.drop 3 (fl BRen rC)) (by kernel_rfl) ?_
    refine GoalL.st (s := SC nets n order names os i sh (colsUp names cs c) c) known mixed hS 1 _ (rn_knew nets n order names os i sh _ c) (by kernel_rfl) ?_
    have e0 : colsUp names cs c = colsUp names cs c ++ pickUp names cs c 0 := by simp [pickUp]
    rw [e0]
    refine GoalL.loop (ι := { k : Nat // k ≤ cs.length }) (id := 4) (b := cat BRen rE) (rest := List.drop 2 (fl BRen rD)) (by kernel_rfl) (fun k => SK nets n order names os i sh (colsUp names cs c ++ pickUp names cs c k.1) c k.1) (fun k => cs.length - k.1) ⟨0, Nat.zero_le _⟩ (fun _ => rfl) ?_
    rintro ⟨k, hk⟩
    have hpl := pick_len names cs c k
    by_cases hltk : k < cs.length
    · obtain ⟨w1, w2⟩ := hw k hltk
      by_cases hh : names.getD (cs.getD k 0).toNat 0 = (c : Int)
      · refine GoalL.all (s := SK nets n order names os i sh (colsUp names cs c ++ pickUp names cs c k) c k) known mixed hS _ (rn_kadd nets n order names os i sh _ c k hi (by rw [hcs]; omega) (by rw [hcs]; omega) (by rw [hcs]; exact w1) (by rw [hcs]; exact w2) (by rw [hcs]; exact hh) (by rw [List.length_append]; omega) (by omega) (len_snoc _ _) (cap_snoc _ _)) (by kernel_rfl) ?_
        have e : colsUp names cs c ++ pickUp names cs c (k + 1) = (colsUp names cs c ++ pickUp names cs c k) ++ [(c : Int)] := by rw [pickUp, if_pos hh, List.append_assoc]
        exact ⟨⟨k + 1, hltk⟩, by simp; omega, by show _ = (SK nets n order names os i sh (colsUp names cs c ++ pickUp names cs c (k + 1)) c (k + 1)).T; rw [e], by show _ = (SK nets n order names os i sh (colsUp names cs c ++ pickUp names cs c (k + 1)) c (k + 1)).H; rw [e]⟩
      · refine GoalL.all (s := SK nets n order names os i sh (colsUp names cs c ++ pickUp names cs c k) c k) known mixed hS _ (rn_kgo nets n order names os i sh _ c k hi (by rw [hcs]; omega) (by rw [hcs]; omega) (by rw [hcs]; exact w1) (by rw [hcs]; exact w2) (by rw [hcs]; exact hh) (by omega)) (by kernel_rfl) ?_
        have e : pickUp names cs c (k + 1) = pickUp names cs c k := by rw [pickUp, if_neg hh]
        exact ⟨⟨k + 1, hltk⟩, by simp; omega, by show _ = (SK nets n order names os i sh (colsUp names cs c ++ pickUp names cs c (k + 1)) c (k + 1)).T; rw [e], by show _ = (SK nets n order names os i sh (colsUp names cs c ++ pickUp names cs c (k + 1)) c (k + 1)).H; rw [e]⟩
    · refine GoalL.all (s := SK nets n order names os i sh (colsUp names cs c ++ pickUp names cs c k) c k) known mixed hS _ (rn_kend nets n order names os i sh _ c k hi (by rw [hcs]; omega)) (by kernel_rfl) ?_
      refine onN_exit (inB_exit ?_)
      refine goalL_nil rD_end ?_
      obtain rfl : k = cs.length := by omega
      refine GoalL.all (s := SC nets n order names os i sh (colsUp names cs (c + 1)) c) known mixed hS _ (rn_cnext nets n order names os i sh _ c (by omega)) (by kernel_rfl) ?_
      exact ⟨⟨c + 1, by omega⟩, by simp; omega, rfl, rfl⟩
  · refine GoalL.st (s := SC nets n order names os i sh (colsUp names cs c) c) known mixed hS 2 _ (rn_cstop nets n order names os i sh _ c hlt) (by kernel_rfl) ?_
    refine onN_exit (onN_exit (inB_exit ?_))
    obtain rfl : c = n.toNat := by omega
    refine GoalL.freeze rB_ne (i := 66) (j := 65) (m := 1) (e := 37) (e2 := 3) (cs := [iv sh, ob 66 (colsUp names cs n.toNat)]) (x := true) (f := false) (r := false) (t := .int .i64) (xs := colsUp names cs n.toNat) (cap := capOf (colsUp names cs n.toNat).length) (by kernel_rfl) rfl (by kernel_rfl) (by decide) ?_
    refine GoalL.refit rB_ne (s := SF nets n order names os i sh (colsUp names cs n.toNat)) (fit_SF nets n order names os i sh _ _) ?_
    refine GoalL.all (s := SF nets n order names os i sh (colsUp names cs n.toNat)) known mixed hS _ (rn_app nets n order names os i sh _ (by omega) (by simp) (by simp [capOf])) (by kernel_rfl) ?_
    exact hq
theorem ren_good {nets : List (Int × List Int)} {n : Int} {order names : List Int} (hg : goodB nets = true) (hE : Bus.bothErr nets n order = 0) (hM : Bus.orderErr names n = 0) (h12 : ∀ x ∈ nets, x.2.length ≤ 12) : goodB (nets.map (renNet names n)) = true := by
  obtain ⟨e1, e2⟩ := both_iff.1 hE
  obtain ⟨n1, n97, l64, hcols⟩ := Bus.netsErr_zero e1
  refine goodB_iff.2 fun y hy => ?_
  obtain ⟨x, hx, rfl⟩ := List.mem_map.1 hy
  have hgx := goodB_iff.1 hg x hx
  have hp := cols_all hM (hcols x hx).2
  refine ⟨⟨hgx.1.1, fun c hc => ?_⟩, ?_⟩
  · obtain ⟨v, hv, rfl⟩ := List.mem_map.1 (hp.mem_iff.1 hc)
    have := name_in hM ((hcols x hx).2 v hv)
    unfold I64; omega
  · have h1 : (renNet names n x).2.length = (x.2.map (nameOf names)).length := hp.length_eq
    rw [h1, List.length_map]
    have := h12 x hx
    omega
theorem ren_lay {nets : List (Int × List Int)} {n : Int} {order names : List Int} (hE : Bus.bothErr nets n order = 0) (hM : Bus.orderErr names n = 0) (ts : List Int) : layErr (nets.map (renNet names n)) n (renOrd names order) ts = layErr nets n order ts := by
  have h1 := ren_both hE hM
  have h2 : Bus.exts (Bus.atUp (renOrd names order) (renOrd names order).length) (nets.map (renNet names n)) = Bus.exts (Bus.atUp order order.length) nets := ren_exts hE hM
  unfold layErr
  rw [h1, hE, h2, List.length_map]
theorem renamed_holds (nets : List (Int × List Int)) (n : Int) (order names : List Int) (hg : goodB nets = true) (ho : ∀ c ∈ order, I64 c) : Holds Tryz.prog true 4 [nv nets, iv n, yv order names] (bv true) := by
  have hS := ren_ok
  refine holds_fl (c := BRen) Tryz.func4 rfl rfl fun w F => ?_
  by_cases hL : lightN nets n = true
  · have hLL := hL
    unfold lightN at hLL
    simp only [Bool.and_eq_true, Bool.or_eq_true, decide_eq_true_eq, List.all_eq_true] at hLL
    obtain ⟨l70, l12, lsm⟩ := hLL
    have h5 : (goodB nets && decide (nets.length ≤ 140737488355328)) = true := by rw [hg, decide_eq_true (by omega)]; rfl
    by_cases hN : Bus.netsErr nets n = 0
    · have hlo : okOrd n order = true := okOrd_of (Bus.netsErr_zero hN).2.1
      have hln : okOrd n names = true := okOrd_of (Bus.netsErr_zero hN).2.1
      by_cases hO : Bus.orderErr order n = 0
      · by_cases hM : Bus.orderErr names n = 0
        · have hE : Bus.bothErr nets n order = 0 := both_iff.2 ⟨hN, hO⟩
          obtain ⟨n1, n97, l64, hcols⟩ := Bus.netsErr_zero hN
          obtain ⟨o1, o2, o3⟩ := Bus.orderErr_zero hO
          have hnl := (Bus.orderErr_zero hM).1
          have hn7 : nets.length ≤ 7 := by rcases lsm with h | h; exact absurd hN h; exact h.1
          refine GoalL.to known mixed hS 6 _ (rn_start nets n order names hg hL h5 hN hlo hO hln hM) (by kernel_rfl) ?_
          refine GoalL.loop (ι := { i : Nat // i ≤ nets.length }) (id := 0) (b := cat BRen rO) (rest := List.drop 7 (fl BRen [])) (by kernel_rfl) (fun i => SO nets n order names (osUp names n nets i.1) i.1) (fun i => nets.length - i.1) ⟨0, Nat.zero_le _⟩ (fun _ => rfl) ?_
          rintro ⟨i, hi⟩
          by_cases hlt : i < nets.length
          · refine GoalL.st (s := SO nets n order names (osUp names n nets i) i) known mixed hS 2 _ (rn_row nets n order names _ i (by omega)) (by kernel_rfl) ?_
            refine goalL_blk (id := 1) (c := cat BRen rB) (rest := List.drop 3 (fl BRen rO)) (by kernel_rfl) ?_
            refine ren_one hE hM l12 hlt ?_
            refine GoalL.all (s := SO nets n order names (osUp names n nets (i + 1)) i) known mixed hS _ (rn_next nets n order names _ i (by omega)) (by kernel_rfl) ?_
            exact ⟨⟨i + 1, hlt⟩, by simp; omega, rfl, rfl⟩
          · refine GoalL.st (s := SO nets n order names (osUp names n nets i) i) known mixed hS 2 _ (rn_stop nets n order names _ i (by omega)) (by kernel_rfl) ?_
            refine onN_exit (onN_exit (inB_exit ?_))
            obtain rfl : i = nets.length := by omega
            have eos : osUp names n nets nets.length = nets.map (renNet names n) := by unfold osUp; rw [List.take_length]
            rw [eos]
            refine GoalL.st (s := SO nets n order names (nets.map (renNet names n)) nets.length) known mixed hS 2 _ (rn_anew nets n order names _ _) (by kernel_rfl) ?_
            refine GoalL.loop (ι := { i : Nat // i ≤ order.length }) (id := 6) (b := cat BRen rF) (rest := List.drop 10 (fl BRen [])) (by kernel_rfl) (fun i => SA nets n order names (nets.map (renNet names n)) (anUp names order i.1) i.1) (fun i => order.length - i.1) ⟨0, Nat.zero_le _⟩ (fun _ => rfl) ?_
            rintro ⟨j, hj⟩
            have hal : (anUp names order j).length ≤ order.length := by unfold anUp; rw [List.length_map, List.length_take]; omega
            by_cases hlj : j < order.length
            · have hoj := o3 (order.getD j 0) (by rw [getD_lt hlj]; exact List.getElem_mem _)
              refine GoalL.all (s := SA nets n order names (nets.map (renNet names n)) (anUp names order j) j) known mixed hS _ (rn_aadd nets n order names _ _ j (by omega) hlj hoj.1 (by omega) (by omega) (by omega) (len_snoc _ _) (cap_snoc _ _)) (by kernel_rfl) ?_
              have e := anUp_next (names := names) hlj
              exact ⟨⟨j + 1, hlj⟩, by simp; omega, by show _ = (SA nets n order names (nets.map (renNet names n)) (anUp names order (j + 1)) (j + 1)).T; rw [e], by show _ = (SA nets n order names (nets.map (renNet names n)) (anUp names order (j + 1)) (j + 1)).H; rw [e]⟩
            · refine GoalL.all (s := SA nets n order names (nets.map (renNet names n)) (anUp names order j) j) known mixed hS _ (rn_aend nets n order names _ _ j (by omega)) (by kernel_rfl) ?_
              refine onN_exit (inB_exit ?_)
              obtain rfl : j = order.length := by omega
              have ean : anUp names order order.length = renOrd names order := by unfold anUp renOrd; rw [List.take_length]
              rw [ean]
              refine GoalL.freezeSlot r10_ne (i := 65) (s := 14) (e2 := 3) (t := .int .i64) (xs := renOrd names order) (cap := capOf (renOrd names order).length) (by kernel_rfl) (by kernel_rfl) ?_
              refine GoalL.freezeSlot r10_ne (i := 64) (s := 9) (e2 := 37) (t := tN) (xs := nets.map (renNet names n)) (cap := capOf (nets.map (renNet names n)).length) (by kernel_rfl) (by kernel_rfl) ?_
              refine GoalL.refit r10_ne (s := SB nets n order (nets.map (renNet names n)) (renOrd names order)) (fit_SB nets n order names _ _ _) ?_
              have hE2 := ren_both hE hM
              have hx := ren_exts hE hM
              have hg2 := ren_good hg hE hM l12
              have hrl : (renOrd names order).length = order.length := by unfold renOrd; simp
              have hri : ∀ c ∈ renOrd names order, I64 c := fun c hc => by
                obtain ⟨v, hv, rfl⟩ := List.mem_map.1 hc
                have := name_in hM (o3 v hv)
                unfold I64; omega
              have hlay := ren_lay hE hM (toI (tracksOf (extsOf nets order)).2)
              have hcr := ren_cross hE hM (toI (tracksOf (extsOf nets order)).2)
              obtain ⟨f1, f2, f3, f4, _⟩ := low_conf hE
              have y1 := low_lay hE
              have c1 := clq_len hE
              have a1 : trkB nets n order = (toI (tracksOf (extsOf nets order)).2, (((tracksOf (extsOf nets order)).1.length : Nat) : Int), 0) := by unfold trkB; rw [if_pos hE]
              have a2 : trkB (nets.map (renNet names n)) n (renOrd names order) = (toI (tracksOf (extsOf nets order)).2, (((tracksOf (extsOf nets order)).1.length : Nat) : Int), 0) := by unfold trkB; rw [if_pos hE2, hx]
              have b1 : clqB nets n order = ((cliqueUp (extsOf nets order) n.toNat).1, (cliqueUp (extsOf nets order) n.toNat).2, 0) := by unfold clqB; rw [if_pos hE]
              have b2 : clqB (nets.map (renNet names n)) n (renOrd names order) = ((cliqueUp (extsOf nets order) n.toNat).1, (cliqueUp (extsOf nets order) n.toNat).2, 0) := by unfold clqB; rw [if_pos hE2, hx]
              have c2 : crsB nets n order (toI (tracksOf (extsOf nets order)).2) = (crossOf nets order (toI (tracksOf (extsOf nets order)).2) 1099511627776, 0) := by unfold crsB; rw [if_pos y1]
              have c3 : crsB (nets.map (renNet names n)) n (renOrd names order) (toI (tracksOf (extsOf nets order)).2) = (crossOf nets order (toI (tracksOf (extsOf nets order)).2) 1099511627776, 0) := by unfold crsB; rw [if_pos (hlay.trans y1), hcr]
              have d1 : extB nets n order = (extsOf nets order, 0) := by unfold extB; rw [if_pos hE]
              have d2 : extB (nets.map (renNet names n)) n (renOrd names order) = (extsOf nets order, 0) := by unfold extB; rw [if_pos hE2, hx]
              have hxl := extsOf_len nets order
              have hcnt : (tracksOf (extsOf nets order)).1.length ≤ nets.length := by
                rw [← f4]
                obtain ⟨D, q1, q2, q3⟩ := cnt_spec (toI (tracksOf (extsOf nets order)).2) nets.length (by omega)
                have := nodup_le q1 fun v hv => (q3 v).1 hv
                rw [List.length_take] at this
                omega
              have hC : (cliqueUp (extsOf nets order) n.toNat).1.length ≤ 1000000 := by rw [c1]; omega
              have hTl : (toI (tracksOf (extsOf nets order)).2).length ≤ 1000000 := by rw [f3]; omega
              have k1 : okBus nets n order = true := by
                unfold okBus
                simp only [Bool.and_eq_true, Bool.or_eq_true, decide_eq_true_eq, List.all_eq_true]
                exact ⟨hg, l70, by omega, ho, .inr (by omega)⟩
              have k2 : okBus (nets.map (renNet names n)) n (renOrd names order) = true := by
                unfold okBus
                simp only [Bool.and_eq_true, Bool.or_eq_true, decide_eq_true_eq, List.all_eq_true, List.length_map]
                exact ⟨hg2, l70, by omega, hri, .inr (by omega)⟩
              have k3 : okLay nets order (trkB nets n order).1 = true := by
                rw [a1]; unfold okLay
                simp only [Bool.and_eq_true, decide_eq_true_eq, List.all_eq_true]
                exact ⟨hg, by omega, by omega, ho, by simp only [f3]; omega⟩
              have k4 : okLay (nets.map (renNet names n)) (renOrd names order) (trkB (nets.map (renNet names n)) n (renOrd names order)).1 = true := by
                rw [a2]; unfold okLay
                simp only [Bool.and_eq_true, decide_eq_true_eq, List.all_eq_true]
                exact ⟨hg2, by rw [List.length_map]; omega, by omega, hri, by simp only [f3]; omega⟩
              have k5 : okChk nets order = true := by
                unfold okChk
                simp only [Bool.and_eq_true, decide_eq_true_eq, List.all_eq_true]
                exact ⟨hg, by omega, by omega, ho⟩
              have k6 : okChk (nets.map (renNet names n)) (renOrd names order) = true := by
                unfold okChk
                simp only [Bool.and_eq_true, decide_eq_true_eq, List.all_eq_true]
                exact ⟨hg2, by rw [List.length_map]; omega, by omega, hri⟩
              have hcall := rn_calls nets n order (nets.map (renNet names n)) (renOrd names order) k1 k2 k3 k4 k5 k6
              rw [a1, a2, b1, b2, d1, d2] at hcall
              simp only at hcall
              rw [c2, c3] at hcall
              refine GoalL.st (s := SB nets n order (nets.map (renNet names n)) (renOrd names order)) known mixed hS 11 _ (hcall (by first | trivial | omega | rfl) (by first | trivial | omega | rfl) (by first | trivial | omega | rfl) (by first | trivial | omega | rfl) (by first | trivial | omega | rfl) (by first | trivial | omega | rfl) (by first | trivial | omega | rfl) (by first | trivial | omega | rfl) (by first | trivial | omega | rfl) (by first | trivial | omega | rfl) (by first | trivial | omega | rfl) (by first | trivial | omega | rfl) (by first | trivial | omega | rfl)) (by kernel_rfl) ?_
              generalize toI (tracksOf (extsOf nets order)).2 = T1 at *
              generalize (cliqueUp (extsOf nets order) n.toNat).1 = C1 at *
              generalize extsOf nets order = U at *
              refine GoalL.loop (ι := { k : Nat // k ≤ U.length }) (id := 8) (b := cat BRen rG) (rest := List.drop 22 (fl BRen [])) (by kernel_rfl) (fun k => SU T1 T1 C1 C1 U U k.1) (fun k => U.length - k.1) ⟨0, Nat.zero_le _⟩ (fun _ => rfl) ?_
              rintro ⟨k, hk⟩
              by_cases hlk : k < U.length
              · refine GoalL.all (s := SU T1 T1 C1 C1 U U k) known mixed hS _ (rn_ugo T1 T1 C1 C1 U U k (by omega) hlk hlk (by rw [beq_self_eq_true, beq_self_eq_true]; rfl) (by omega)) (by kernel_rfl) ?_
                exact ⟨⟨k + 1, hlk⟩, by simp; omega, rfl, rfl⟩
              · refine GoalL.all (s := SU T1 T1 C1 C1 U U k) known mixed hS _ (rn_uend T1 T1 C1 C1 U U k (by omega)) (by kernel_rfl) ?_
                refine onN_exit (inB_exit ?_)
                exact GoalL.allRet (s := SU T1 T1 C1 C1 U U k) known mixed hS _ (rn_fin T1 T1 C1 C1 U U k hTl rfl hC rfl) fun T H h => h
        · exact GoalL.ret known mixed hS 4 _ (rn_names nets n order names hg hL h5 hN hlo hO hln hM) fun T H h => h
      · exact GoalL.ret known mixed hS 4 _ (rn_order nets n order names hg hL h5 hN hlo hO) fun T H h => h
    · exact GoalL.ret known mixed hS 4 _ (rn_nets nets n order names hg hL h5 hN) fun T H h => h
  · exact GoalL.ret known mixed hS 4 _ (rn_skip nets n order names hg (by simpa using hL)) fun T H h => h
theorem renamed_walk {w : World} {A A2 A3 : Option Addr} {c c2 c3 : Nat} {l : List NetAt} {xs ys : List Int} (h0 : Arg.Nets w A c l) (n : Int) (h2 : Arg.Lay w A2 A3 c2 c3 xs ys) :
    Calls Tryz.prog 4 #[.slice A l.length c, .int .i64 n, .agg #[.slice A2 xs.length c2, .slice A3 ys.length c3]] w fun e w' => e = .returned (.bool true) ∧ Below w.heap.size w w' :=
  call_true (renamed_holds _ n xs ys h0.good h2.good) (.cons h0.den (.cons (.raw _) (.cons h2.den .nil)))
end
end Go.Proofs.YtkjjnnbbicoljaaGreatDoor
