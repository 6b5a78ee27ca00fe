/- integraphlaw07.BusExtents: the walk, out of a contract of awake. -/
import Derived.Test.YtcdknjkkaonbiaaGreatDoorBusLight
import Derived.ChangeKeysEq
namespace Go.Proofs.YtcdknjkkaonbiaaGreatDoor
open Go.RowKit

theorem Tryz.info3 : (Tryz.prog.info? 3).map (fun i => (i.zero, i.size, i.bytes)) = some (some (.int .i64 0), 1, 8) := by kernel_rfl
theorem pair_same (w : World) (a b : Int) : (Op.equalIn 10000 46 (.agg #[.int .i64 a, .int .i64 b]) (.agg #[.int .i64 a, .int .i64 b])).run Tryz.prog w = .ok true w := by
  obtain ⟨i0, hi, _⟩ := info_parts Tryz.info3
  have hc : Tryz.prog.cellsOf 3 = 1 := by kernel_rfl
  have h := run_equalIn_array w 9999 #[.int .i64 a, .int .i64 b] #[.int .i64 a, .int .i64 b] Tryz.underlying46 hi
  have h2 : (Op.equalIn 10000 46 (.agg #[.int .i64 a, .int .i64 b]) (.agg #[.int .i64 a, .int .i64 b])).run Tryz.prog w = _ := h
  rw [h2, hc]
  have hr : List.range 2 = [0, 1] := rfl
  rw [hr]
  have hk : Tryz.prog.plainKey 3 = true := by kernel_rfl
  have p0 : (part 3 #[.int .i64 a, .int .i64 b] (0 * 1)).run Tryz.prog w = .ok (.int .i64 a) w := run_part_plain w hk rfl
  have p1 : (part 3 #[.int .i64 a, .int .i64 b] (1 * 1)).run Tryz.prog w = .ok (.int .i64 b) w := run_part_plain w hk rfl
  have qa : (Op.equalIn 9999 3 (.int .i64 a) (.int .i64 a)).run Tryz.prog w = .ok (a == a) w := run_equalIn_int w 9998 3 .i64 .i64 a a Tryz.underlying3
  have qb : (Op.equalIn 9999 3 (.int .i64 b) (.int .i64 b)).run Tryz.prog w = .ok (b == b) w := run_equalIn_int w 9998 3 .i64 .i64 b b Tryz.underlying3
  simp [Op.eqItems, Sem.run_bind, p0, p1, qa, qb]

/-- a contract of awake: in every world that meets K -/
def Awake (K : World → Prop) : Prop := ∀ w, K w → Calls Tryz.prog 9 #[] w fun e w' => e = .returned (.bool true) ∧ Below w.heap.size w w'
/-- what calls keep -/
def Kept (K : World → Prop) : Prop := ∀ w w', K w → Below w.heap.size w w' → K w'

set_option maxHeartbeats 8000000 in
set_option maxRecDepth 100000 in
theorem extents_walk (K : World → Prop) (hK : Kept K) (hA : Awake K) (A A2 : Option Addr) (c c2 : Nat) (l : List NetAt) (order : List Int) (n : Int) (w : World) (hw : K w)
    (h : NetsIn w w.heap.size A l) (h2 : Row w w.heap.size A2 (order.map (Value.int .i64))) (hi : ∀ c ∈ order, I64 c) (hl : l.length ≤ 140737488355328) (hl2 : order.length ≤ 140737488355328) (hc2 : order.length ≤ c2) :
    Calls Tryz.prog 4 #[.slice A l.length c, .int .i64 n, .slice A2 order.length c2] w fun e w' => e = .returned (.bool true) ∧ Below w.heap.size w w' := by
  have H := Lib.hid h
  have H2 := Lib.hid h2
  have HA := Lib.hid hA
  have HL := Lib.hid (fun w' (hb : Below w.heap.size w w') => light_any A c w.heap.size l n w' (h.below hb (Nat.le_refl _)) hb.size hl)
  have HK := Lib.hid (fun w' (hb : Below w.heap.size w w') => hK w w' hw hb)
  clear h h2 hA
  obtain ⟨li, hli⟩ : ∃ b, lightB l n = b := ⟨_, rfl⟩
  rw [hli] at HL
  cases li
  · go_enter Tryz.func4, Tryz.ntmps4
    go_wp2_with fail
    refine (HA.out w hw).mono ?_
    rintro e w1 ⟨rfl, hb1⟩
    go_wp2_with fail
    refine (HL.out _ hb1).mono ?_
    rintro e w2 ⟨rfl, hb2⟩
    have e2 := below_after hb1 hb2 (Nat.le_refl _)
    go_wp2_with fail
    refine (HA.out _ (HK.out _ e2)).mono ?_
    rintro e w3 ⟨rfl, hb3⟩
    have e3 := below_after e2 hb3 (Nat.le_refl _)
    go_wp2_with fail
    go_ret
    exact ⟨rfl, e3⟩
  · by_cases h100 : 100 < order.length
    · have hd : (100 : Int) < (order.length : Int) := by omega
      go_enter Tryz.func4, Tryz.ntmps4
      go_wp2_with fail
      refine (HA.out w hw).mono ?_
      rintro e w1 ⟨rfl, hb1⟩
      go_wp2_with fail
      refine (HL.out _ hb1).mono ?_
      rintro e w2 ⟨rfl, hb2⟩
      have e2 := below_after hb1 hb2 (Nat.le_refl _)
      go_wp2_with fail
      refine (HA.out _ (HK.out _ e2)).mono ?_
      rintro e w3 ⟨rfl, hb3⟩
      have e3 := below_after e2 hb3 (Nat.le_refl _)
      go_wp2_with fail
      go_ret
      exact ⟨rfl, e3⟩
    · have hd : ¬ (100 : Int) < (order.length : Int) := by omega
      obtain ⟨E, hE⟩ : ∃ E, Bus.bothErr (l.map NetAt.net) n order = E := ⟨_, rfl⟩
      obtain ⟨E1, hE1⟩ : ∃ E, Bus.netsErr (l.map NetAt.net) n = E := ⟨_, rfl⟩
      obtain ⟨E2, hE2⟩ : ∃ E, Bus.orderErr order n = E := ⟨_, rfl⟩
      have hEE : E = if E1 ≠ 0 then E1 else E2 := by rw [← hE, ← hE1, ← hE2]; rfl
      have HRN := Lib.hid (fun w' (hb : Below w.heap.size w w') => refNets_any A c w.heap.size l n w' (H.out.below hb (Nat.le_refl _)) hb.size hl)
      have HRO := Lib.hid (fun w' (hb : Below w.heap.size w w') => refOrder_any A2 c2 w.heap.size order n w' (by omega) hc2 (H2.out.below hb (Nat.le_refl _)) hb.size)
      rw [hE1] at HRN
      rw [hE2] at HRO
      by_cases h0 : E = 0
      · subst h0
        obtain ⟨z1, z2⟩ := both_zero hE
        have hE1' : E1 = 0 := by rw [← hE1]; exact z1
        have hE2' : E2 = 0 := by rw [← hE2]; exact z2
        subst hE1'
        subst hE2'
        obtain ⟨n1, n97, l64, hcols⟩ := Bus.netsErr_zero z1
        obtain ⟨on, ond, oin⟩ := Bus.orderErr_zero z2
        rw [List.length_map] at l64
        have hall : ∀ c, 0 ≤ c → c < n → c ∈ order := fun c h0 h1 => has_all order.length order ond rfl (fun d hd => by have := oin d hd; omega) c h0 (by omega)
        have HEX := Lib.hid (fun (x : NetAt) (hx : x ∈ l) => ref_ext (order := order) (cols := x.cols) (n := n) ond on (hcols x.net (List.mem_map_of_mem hx)).1 (hcols x.net (List.mem_map_of_mem hx)).2 hall n97)
        have HE := Lib.hid (fun (x : NetAt) w' (hb : Below w.heap.size w w') (hr : Row w w.heap.size x.loc (x.cols.map (Value.int .i64))) (hf : x.cols.length ≤ 140737488355328) => refExtent_any x A2 c2 w.heap.size order w' (hr.below hb (Nat.le_refl _)) (H2.out.below hb (Nat.le_refl _)) hb.size (by omega) hf)
        have HX := Lib.hid (fun w' (hb : Below w.heap.size w w') => Extents_ok A A2 c c2 w.heap.size l order n w' (H.out.below hb (Nat.le_refl _)) (H2.out.below hb (Nat.le_refl _)) hi hb.size hl (by omega) hE)
        have HY := Lib.hid (fun w' (hb : Below w.heap.size w w') => Length_ok A A2 c c2 w.heap.size l order n w' (H.out.below hb (Nat.le_refl _)) (H2.out.below hb (Nat.le_refl _)) hi hb.size hl (by omega) hE)
        have HZ := Lib.hid (fun w' (hb : Below w.heap.size w w') => refLength_any A A2 c c2 w.heap.size l order n w' (H.out.below hb (Nat.le_refl _)) (H2.out.below hb (Nat.le_refl _)) hb.size hE)
        have hlen := exts_len (Bus.atUp order order.length) l
        obtain ⟨xs, hxs⟩ : ∃ xs, Bus.exts (Bus.atUp order order.length) (l.map NetAt.net) = xs := ⟨_, rfl⟩
        have HKX := Lib.hid (fun (k : Nat) (x : NetAt) (hx : l[k]? = some x) => show xs[k]? = some (Bus.ext (fun c => Bus.atUp order order.length c.toNat) x.cols) by rw [← hxs]; simp [Bus.exts, hx, NetAt.net])
        rw [hxs] at HX HY HZ hlen
        have HLEN := Lib.hid hlen
        obtain ⟨S, hS⟩ : ∃ S, sumExt xs = S := ⟨_, rfl⟩
        rw [hS] at HY HZ
        clear hE hE1 hE2 hli hi hEE z1 z2 hcols on ond oin hall hxs hS
        go_enter Tryz.func4, Tryz.ntmps4
        go_wp2_with fail
        refine (HA.out w hw).mono ?_
        rintro e w1 ⟨rfl, hb1⟩
        go_wp2_with fail
        refine (HL.out _ hb1).mono ?_
        rintro e w2 ⟨rfl, hb2⟩
        have e2 := below_after hb1 hb2 (Nat.le_refl _)
        clear hb1 hb2
        go_wp2_with fail
        refine (HX.out _ e2).mono ?_
        rintro e w3 ⟨A3, c3, rfl, hr3, hb3⟩
        have e3 := below_after e2 hb3 (Nat.le_refl _)
        have R3 := Lib.hid hr3
        rw [hlen]
        clear e2 hb3 hr3
        go_wp2_with fail
        refine (HY.out _ e3).mono ?_
        rintro e w4 ⟨rfl, hb4⟩
        have e4 := below_after e3 hb4 (Nat.le_refl _)
        have R4 := Lib.hid ((R3.out.below hb4 (Nat.le_refl _)).more hb4.size)
        clear e3 hb4 R3
        go_wp2_with fail
        refine (HRN.out _ e4).mono ?_
        rintro e w5 ⟨rfl, hb5⟩
        have e5 := below_after e4 hb5 (Nat.le_refl _)
        have R5 := Lib.hid ((R4.out.below hb5 (Nat.le_refl _)).more hb5.size)
        clear e4 hb5 R4
        have HF := Lib.hid (lawFirst_one 0 w5 3)
        go_wp2_with fail
        refine HF.out.mono ?_
        rintro e w6 ⟨rfl, rfl⟩
        have e6 := e5.alloc e5.size (.cells #[.int .i64 0] 3)
        have R6 := Lib.hid ((R5.out.alloc (Nat.le_refl _) (.cells #[.int .i64 0] 3)).more (show w5.heap.size ≤ (w5.alloc (.cells #[.int .i64 0] 3)).heap.size by simp))
        clear HF e5 R5
        go_wp2_with fail
        refine (HRO.out _ e6).mono ?_
        rintro e w7 ⟨rfl, hb7⟩
        have e7 := below_after e6 hb7 (Nat.le_refl _)
        have R7 := Lib.hid ((R6.out.below hb7 (Nat.le_refl _)).more hb7.size)
        clear e6 hb7 R6 HX HY HRN HRO HL
        have hs7 := e7.size
        go_wp2_with fail
        go_loopw [12] (fun i wr => ∃ k : Nat, k ≤ l.length ∧ i = .int .i64 k ∧ Below w7.heap.size w7 wr) (fun i _ => l.length - (intOf i).toNat)
        case atStart => exact ⟨0, Nat.zero_le _, rfl, Below.refl _ _⟩
        case round =>
          obtain ⟨k, hk, rfl, eb⟩ := hrel
          have hsz := eb.size
          have e8 := below_after e7 eb (Nat.le_refl _)
          by_cases hlt : k < l.length
          · obtain ⟨b, off, x, rfl, hbB, hx, hc1, hc2, hrow, hfew, hix, hics⟩ := H.out.net k hlt
            have hk1 := (e8.cell (p := ⟨b, off + k * 2, none⟩) (by show b < _; omega)).trans hc1
            have hk2 := (e8.cell (p := ⟨b, off + k * 2 + 1, none⟩) (by show b < _; omega)).trans hc2
            have hkk := HKX.out k x hx
            have hex := HEX.out x (List.mem_of_getElem? hx)
            have hcall := HE.out x wr e8 hrow hfew
            have hs1 : Bus.refLow (Bus.pos order) (-1) x.cols = (Bus.ext (fun c => Bus.atUp order order.length c.toNat) x.cols).1 := by rw [← hex]
            have hs2 : refHigh (Bus.pos order) x.cols = (Bus.ext (fun c => Bus.atUp order order.length c.toNat) x.cols).2 := by rw [← hex]
            rw [hs1, hs2] at hcall
            generalize Bus.ext (fun c => Bus.atUp order order.length c.toNat) x.cols = pq at *
            obtain ⟨lo, hi⟩ := pq
            simp only at hcall
            obtain ⟨b4, off4, lo', hi', hA4, hbB4, hx4, hx5, hx6⟩ := R7.out.extent k (by rw [HLEN.out]; exact hlt)
            have hpq : (lo', hi') = (lo, hi) := by rw [hkk] at hx4; exact (Option.some.inj hx4).symm
            injection hpq with hp1 hp2
            subst hp1; subst hp2; subst hA4
            have hl3 : (k : Int) < (l.length : Int) := by omega
            have HCL := Lib.hid hcall
            clear hx hc1 hc2 hrow hkk hex hcall hs1 hs2 hx4
            go_wp2_with fail
            refine HCL.out.mono ?_
            rintro e w8 ⟨rfl, hb8⟩
            have e9 := below_after eb hb8 (Nat.le_refl _)
            have m5 := (e9.cell (p := ⟨b4, off4 + k * 2, none⟩) hbB4).trans hx5
            have m6 := (e9.cell (p := ⟨b4, off4 + k * 2 + 1, none⟩) hbB4).trans hx6
            clear hx5 hx6 HCL hb8 eb e8 hk1 hk2
            have hpn := pair_same w8 lo' hi'
            go_wp2_with fail
            go_roundw
            case rel => exact ⟨k + 1, by omega, by go_num, e9⟩
            case measure => simp [intOf]; omega
          · obtain rfl : k = l.length := by omega
            go_wp2_with fail
            refine (HZ.out _ e8).mono ?_
            rintro e w9 ⟨rfl, hb9⟩
            have e9 := below_after e8 hb9 (Nat.le_refl _)
            go_wp2_with (first | (go_at_call 21; refine (number_yes S _).mono ?_; rintro e w8 ⟨rfl, rfl⟩))
            go_ret
            exact ⟨rfl, e9⟩
      · have HX := Lib.hid (fun w' (hb : Below w.heap.size w w') => Extents_bad A A2 c c2 w.heap.size l order n w' (H.out.below hb (Nat.le_refl _)) (H2.out.below hb (Nat.le_refl _)) hi hb.size hl (by omega) E hE h0)
        have HY := Lib.hid (fun w' (hb : Below w.heap.size w w') => Length_bad A A2 c c2 w.heap.size l order n w' (H.out.below hb (Nat.le_refl _)) (H2.out.below hb (Nat.le_refl _)) hi hb.size hl (by omega) E hE h0)
        have hne : (E != 0) = true := by rw [bne_iff_ne]; exact h0
        clear hE hE1 hE2 hli hi
        by_cases h1 : E1 = 0
        · have hE2 : E2 = E := by rw [hEE, h1]; rfl
          subst h1
          subst hE2
          clear hEE
          go_enter Tryz.func4, Tryz.ntmps4
          go_wp2_with fail
          refine (HA.out w hw).mono ?_
          rintro e w1 ⟨rfl, hb1⟩
          go_wp2_with fail
          refine (HL.out _ hb1).mono ?_
          rintro e w2 ⟨rfl, hb2⟩
          have e2 := below_after hb1 hb2 (Nat.le_refl _)
          clear hb1 hb2
          go_wp2_with fail
          refine (HX.out _ e2).mono ?_
          rintro e w3 ⟨rfl, hb3⟩
          have e3 := below_after e2 hb3 (Nat.le_refl _)
          clear e2 hb3
          go_wp2_with fail
          refine (HY.out _ e3).mono ?_
          rintro e w4 ⟨rfl, hb4⟩
          have e4 := below_after e3 hb4 (Nat.le_refl _)
          clear e3 hb4
          go_wp2_with fail
          refine (HRN.out _ e4).mono ?_
          rintro e w5 ⟨rfl, hb5⟩
          have e5 := below_after e4 hb5 (Nat.le_refl _)
          clear e4 hb5
          have HF := Lib.hid (lawFirst_one 0 w5 3)
          go_wp2_with fail
          refine HF.out.mono ?_
          rintro e w6 ⟨rfl, rfl⟩
          have e6 := e5.alloc e5.size (.cells #[.int .i64 0] 3)
          clear HF e5
          go_wp2_with fail
          refine (HRO.out _ e6).mono ?_
          rintro e w7 ⟨rfl, hb7⟩
          have e7 := below_after e6 hb7 (Nat.le_refl _)
          clear e6 hb7
          go_wp2_with (first | (go_at_call 21; refine (number_bad E2 _ h0 0).mono ?_; rintro e w8 ⟨rfl, rfl⟩))
          go_ret
          exact ⟨rfl, e7⟩
        · have hE1' : E1 = E := by rw [hEE, if_pos h1]
          subst hE1'
          clear hEE
          go_enter Tryz.func4, Tryz.ntmps4
          go_wp2_with fail
          refine (HA.out w hw).mono ?_
          rintro e w1 ⟨rfl, hb1⟩
          go_wp2_with fail
          refine (HL.out _ hb1).mono ?_
          rintro e w2 ⟨rfl, hb2⟩
          have e2 := below_after hb1 hb2 (Nat.le_refl _)
          clear hb1 hb2
          go_wp2_with fail
          refine (HX.out _ e2).mono ?_
          rintro e w3 ⟨rfl, hb3⟩
          have e3 := below_after e2 hb3 (Nat.le_refl _)
          clear e2 hb3
          go_wp2_with fail
          refine (HY.out _ e3).mono ?_
          rintro e w4 ⟨rfl, hb4⟩
          have e4 := below_after e3 hb4 (Nat.le_refl _)
          clear e3 hb4
          go_wp2_with fail
          refine (HRN.out _ e4).mono ?_
          rintro e w5 ⟨rfl, hb5⟩
          have e5 := below_after e4 hb5 (Nat.le_refl _)
          clear e4 hb5
          have HF := Lib.hid (lawFirst_one E1 w5 3)
          go_wp2_with fail
          refine HF.out.mono ?_
          rintro e w6 ⟨rfl, rfl⟩
          have e6 := e5.alloc e5.size (.cells #[.int .i64 E1] 3)
          have hne2 : (E1 == 0) = false := by rw [beq_eq_false_iff_ne]; exact h0
          clear HF e5
          go_wp2_with (first | (go_at_call 21; refine (number_bad E1 _ h0 0).mono ?_; rintro e w8 ⟨rfl, rfl⟩))
          go_ret
          exact ⟨rfl, e6⟩
end Go.Proofs.YtcdknjkkaonbiaaGreatDoor
