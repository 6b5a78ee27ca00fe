/- The reference of package bus: the check of a clique. -/
import Derived.Test.YtkjjnnbbicoljaaGreatDoorBusRefLay
namespace Go.Proofs.YtkjjnnbbicoljaaGreatDoor
open Go.RowKit

def colsAt (l : List NetAt) (i : Int) : List Int := (l.map NetAt.cols).getD i.toNat []
/-- do two nets of a list not meet, as the reference asks it? -/
def apartR (l : List NetAt) (order cl : List Int) (i k : Nat) : Bool := !meetFrom (refExt order (colsAt l (cl.getD i 0))) (refExt order (colsAt l (cl.getD k 0))) order.length 0
def cliqueErrR (l : List NetAt) (order cl : List Int) : Int :=
  if Bus.orderFrom l.length [] cl ≠ 0 then Bus.orderFrom l.length [] cl else if allHit (apartR l order cl) cl.length = true then 20 else 0

set_option maxHeartbeats 8000000 in
set_option maxRecDepth 100000 in
theorem refCheckClique_any (A A2 A3 : Option Addr) (c c2 c3 B : Nat) (l : List NetAt) (order cl : List Int) (w : World) (h : NetsIn w B A l) (h2 : Row w B A2 (order.map (Value.int .i64))) (h3 : Row w B A3 (cl.map (Value.int .i64))) (hB : B ≤ w.heap.size) (hl2 : order.length ≤ 1000) (hl3 : cl.length ≤ 1000000) (hc3 : cl.length ≤ c3) :
    Calls Tryz.prog 27 #[.slice A l.length c, .slice A2 order.length c2, .slice A3 cl.length c3] w fun e w' => e = .returned (.int .i64 (cliqueErrR l order cl)) ∧ Below w.heap.size w w' := by
  have HM := Lib.hid (fun (x y : NetAt) w' (hb : Below w.heap.size w w') (hx : Row w B x.loc (x.cols.map (Value.int .i64))) (hy : Row w B y.loc (y.cols.map (Value.int .i64))) (fx : x.cols.length ≤ 140737488355328) (fy : y.cols.length ≤ 140737488355328) => refMeet_any x y A2 c2 B order w' (hx.below hb hB) (hy.below hb hB) (h2.below hb hB) (by have := hb.size; omega) hl2 fx fy)
  obtain ⟨r, hr⟩ : ∃ r, cliqueErrR l order cl = r := ⟨_, rfl⟩
  rw [hr]
  obtain ⟨n, hn⟩ : ∃ n : Int, (l.length : Int) = n := ⟨_, rfl⟩
  obtain ⟨q, hq⟩ : ∃ q, Bus.orderFrom n [] cl = q := ⟨_, rfl⟩
  unfold cliqueErrR at hr
  rw [hn, hq] at hr
  have H := Lib.hid h
  have H3 := Lib.hid h3
  have HQ := Lib.hid hq
  have HN := Lib.hid hn
  have HR := Lib.hid hr
  clear h h2 h3 hq hr hn
  go_enter Tryz.func27, Tryz.ntmps27
  go_wp2_with fail
  go_loopw [7] (fun i wr => ∃ k : Nat, k ≤ cl.length ∧ i = .int .i64 k ∧ Bus.orderFrom n (cl.take k) (cl.drop k) = q ∧ Below w.heap.size w wr) (fun i _ => cl.length - (intOf i).toNat)
  case atStart => exact ⟨0, Nat.zero_le _, rfl, HQ.out, Below.refl _ _⟩
  case round =>
    obtain ⟨k, hk, rfl, hpre, eb⟩ := hrel
    have hsz := eb.size
    have HP := Lib.hid hpre
    clear hpre
    by_cases hlt : k < cl.length
    · have hrowk := H3.out.take (n := k)
      rw [← List.map_take] at hrowk
      obtain ⟨b, off, x, rfl, hbB, hx, hc1⟩ := H3.out.int k hlt
      have hck := (eb.cell (p := ⟨b, off + k, none⟩) (by show b < _; omega)).trans hc1
      have hd : cl.drop k = x :: cl.drop (k + 1) := by
        rw [List.drop_eq_getElem_cons hlt]
        rw [List.getElem?_eq_getElem hlt] at hx
        rw [Option.some.inj hx]
      have HT := Lib.hid (show cl.take (k + 1) = cl.take k ++ [x] by rw [List.take_add_one, hx]; rfl)
      have hp := HP.out
      rw [hd] at hp
      unfold Bus.orderFrom at hp
      have hin : ∀ m, Calls Tryz.prog 52 #[.slice (some ⟨b, off, none⟩) k c3, .int .i64 x] (wr.drewN m) fun e w' => e = .returned (.bool (decide (x ∈ cl.take k))) ∧ w' = wr.drewN m := fun m => by
        have h := In_any (some ⟨b, off, none⟩) c3 B (cl.take k) x (wr.drewN m) (by rw [List.length_take]; omega) ((hrowk.below eb hB).drewN m)
        rw [List.length_take, Nat.min_eq_left hk] at h
        exact h.mono fun _ _ h => ⟨h.1, h.2.symm⟩
      have hlt' : (k : Int) < (cl.length : Int) := by omega
      have hlnn := HN.out
      clear hx hd hc1 hrowk
      have bad : ∀ E : Int, E ≠ 0 → E = q → r = E := fun E h0 h1 => by
        have := HR.out
        rw [← h1, if_pos h0] at this
        exact this.symm
      by_cases hx0 : x < 0
      · rw [if_pos (Or.inl hx0)] at hp
        have HB := Lib.hid (bad 10 (by decide) hp).symm
        clear hp HP hin bad
        go_wp2_with fail
        all_goals (go_ret; exact ⟨ret_i64 HB.out, (by repeat (first | with_reducible exact Below.refl _ _ | with_reducible assumption | with_reducible refine Below.setCell ?_ (by first | omega | (simp; done) | (simp; omega)) _ | with_reducible refine below_drewN ?_ _ | with_reducible refine Below.drew ?_ | with_reducible refine Below.alloc ?_ (by first | omega | (simp; done) | (simp; omega)) _ | with_reducible refine below_after ?_ (by assumption) (by first | omega | (simp; done) | (simp; omega))))⟩)
      · by_cases hxn : n ≤ x
        · rw [if_pos (Or.inr hxn)] at hp
          have HB := Lib.hid (bad 10 (by decide) hp).symm
          have hxn' : (l.length : Int) ≤ x := by omega
          clear hp HP hin bad
          go_wp2_with fail
          all_goals (go_ret; exact ⟨ret_i64 HB.out, (by repeat (first | with_reducible exact Below.refl _ _ | with_reducible assumption | with_reducible refine Below.setCell ?_ (by first | omega | (simp; done) | (simp; omega)) _ | with_reducible refine below_drewN ?_ _ | with_reducible refine Below.drew ?_ | with_reducible refine Below.alloc ?_ (by first | omega | (simp; done) | (simp; omega)) _ | with_reducible refine below_after ?_ (by assumption) (by first | omega | (simp; done) | (simp; omega))))⟩)
        · rw [if_neg (by omega)] at hp
          have hxn' : ¬ (l.length : Int) ≤ x := by omega
          by_cases h2 : x ∈ cl.take k
          · have hd2 : decide (x ∈ cl.take k) = true := decide_eq_true h2
            rw [if_pos h2] at hp
            rw [hd2] at hin
            have HB := Lib.hid (bad 9 (by decide) hp).symm
            have HI := Lib.hid hin
            clear hp HP hin hd2 h2 bad
            go_wp2_with fail
            go_quiet (first | (go_at_call 52; refine Calls.quiet_of_same (HI.out _)))
            go_wp2_with fail
            go_ret
            exact ⟨ret_i64 HB.out, (by repeat (first | with_reducible exact Below.refl _ _ | with_reducible assumption | with_reducible refine Below.setCell ?_ (by first | omega | (simp; done) | (simp; omega)) _ | with_reducible refine below_drewN ?_ _ | with_reducible refine Below.drew ?_ | with_reducible refine Below.alloc ?_ (by first | omega | (simp; done) | (simp; omega)) _ | with_reducible refine below_after ?_ (by assumption) (by first | omega | (simp; done) | (simp; omega))))⟩
          · have hd2 : decide (x ∈ cl.take k) = false := decide_eq_false h2
            rw [if_neg h2, ← HT.out] at hp
            rw [hd2] at hin
            have HB := Lib.hid hp
            have HI := Lib.hid hin
            clear hp HP hin hd2 h2 bad
            go_wp2_with fail
            go_quiet (first | (go_at_call 52; refine Calls.quiet_of_same (HI.out _)))
            go_wp2_with fail
            go_roundw
            case rel => exact ⟨k + 1, by omega, by go_num, HB.out, (by repeat (first | with_reducible exact Below.refl _ _ | with_reducible assumption | with_reducible refine Below.setCell ?_ (by first | omega | (simp; done) | (simp; omega)) _ | with_reducible refine below_drewN ?_ _ | with_reducible refine Below.drew ?_ | with_reducible refine Below.alloc ?_ (by first | omega | (simp; done) | (simp; omega)) _ | with_reducible refine below_after ?_ (by assumption) (by first | omega | (simp; done) | (simp; omega))))⟩
            case measure => simp [intOf]; omega
    · obtain rfl : k = cl.length := by omega
      have hq0 : q = 0 := by rw [← HP.out, List.drop_length]; rfl
      have hof : Bus.orderFrom n [] cl = 0 := HQ.out.trans hq0
      have HIN := Lib.hid (fun (x : Int) (hx : x ∈ cl) => Bus.orderFrom_mem n cl [] hof x hx)
      have hr := HR.out
      rw [hq0, if_neg (by decide)] at hr
      have HRR := Lib.hid hr
      obtain ⟨W, hW⟩ : ∃ W, wr = W := ⟨_, rfl⟩
      rw [hW] at eb hsz ⊢
      clear hW hr HP hq0 hof HR HQ
      go_wp2_with fail
      go_loopw [8] (fun i wr => ∃ k : Nat, k ≤ cl.length ∧ i = .int .i64 k ∧ allHit (apartR l order cl) k = false ∧ Below w.heap.size w wr) (fun i _ => cl.length - (intOf i).toNat)
      case atStart => exact ⟨0, Nat.zero_le _, rfl, rfl, eb⟩
      case round =>
        obtain ⟨k, hk, rfl, hak, ek⟩ := hrel
        have hszk := ek.size
        by_cases hlk : k < cl.length
        · obtain ⟨W2, hW⟩ : ∃ W, wr = W := ⟨_, rfl⟩
          rw [hW] at ek hszk ⊢
          clear hW
          have HAK := Lib.hid hak
          clear hak
          go_wp2_with fail
          go_loopw [9] (fun i wz => ∃ j : Nat, j ≤ k ∧ i = .int .i64 j ∧ rowHit (apartR l order cl k) j = false ∧ Below w.heap.size w wz) (fun i _ => k - (intOf i).toNat)
          case atStart => exact ⟨0, Nat.zero_le _, rfl, rfl, ek⟩
          case round =>
            obtain ⟨j, hj, rfl, hrj, ez⟩ := hrel
            have hszz := ez.size
            by_cases hlj : j < k
            · obtain ⟨b, off, x, hA3, hbB, hx, hcx⟩ := H3.out.int k hlk
              obtain ⟨b', off', y, hA3', _, hy, hcy⟩ := H3.out.int j (by omega)
              subst hA3
              injection hA3' with hA3'; injection hA3' with h1 h2; subst h1; subst h2
              obtain ⟨x0, x1, _⟩ := HIN.out x (List.mem_of_getElem? hx)
              obtain ⟨y0, y1, _⟩ := HIN.out y (List.mem_of_getElem? hy)
              have hlnn := HN.out
              obtain ⟨X, rfl⟩ : ∃ X : Nat, x = (X : Int) := ⟨x.toNat, by omega⟩
              obtain ⟨Y, rfl⟩ : ∃ Y : Nat, y = (Y : Int) := ⟨y.toNat, by omega⟩
              have hcx2 := (ez.cell (p := ⟨b, off + k, none⟩) (by show b < _; omega)).trans hcx
              have hcy2 := (ez.cell (p := ⟨b, off + j, none⟩) (by show b < _; omega)).trans hcy
              have gx : cl.getD k 0 = X := by rw [List.getD_eq_getElem?_getD, hx]; rfl
              have gy : cl.getD j 0 = Y := by rw [List.getD_eq_getElem?_getD, hy]; rfl
              obtain ⟨bn, offn, nx, hAn, hbn, hnx, cn0, cn1, rn, fn, _, _⟩ := H.out.net X (by omega)
              obtain ⟨bn', offn', ny, hAn', _, hny, dn0, dn1, rn', fn', _, _⟩ := H.out.net Y (by omega)
              subst hAn
              injection hAn' with hAn'; injection hAn' with h1 h2; subst h1; subst h2
              have cn0' := (ez.cell (p := ⟨bn, offn + X * 2, none⟩) (by show bn < _; omega)).trans cn0
              have cn1' := (ez.cell (p := ⟨bn, offn + X * 2 + 1, none⟩) (by show bn < _; omega)).trans cn1
              have dn0' := (ez.cell (p := ⟨bn, offn + Y * 2, none⟩) (by show bn < _; omega)).trans dn0
              have dn1' := (ez.cell (p := ⟨bn, offn + Y * 2 + 1, none⟩) (by show bn < _; omega)).trans dn1
              have hkt : (k : Int) < (cl.length : Int) := by omega
              have hjt : (j : Int) < (cl.length : Int) := by omega
              have hXl : (X : Int) < (l.length : Int) := by omega
              have hYl : (Y : Int) < (l.length : Int) := by omega
              have hcl : apartR l order cl k j = !meetFrom (refExt order nx.cols) (refExt order ny.cols) order.length 0 := by
                unfold apartR colsAt; rw [gx, gy]; simp only [Int.toNat_natCast, List.getD_eq_getElem?_getD, List.getElem?_map, hnx, hny, Option.map_some, Option.getD_some]
              have HST := Lib.hid (show rowHit (apartR l order cl k) (j + 1) = !meetFrom (refExt order nx.cols) (refExt order ny.cols) order.length 0 by rw [rowHit, hrj, Bool.false_or, hcl])
              have HMM := Lib.hid (fun w' (hb : Below w.heap.size w w') => HM.out nx ny w' hb rn rn' fn fn')
              have HIT := Lib.hid (fun (hh : apartR l order cl k j = true) => (allHit_iff (apartR l order cl) cl.length).2 ⟨k, j, hlj, hlk, hh⟩)
              rw [hcl] at HIT
              clear hx hy hcx hcy gx gy cn0 cn1 dn0 dn1 hnx hny hcl hrj rn rn' fn fn' HAK
              unfold netV at HMM
              go_wp2_with fail
              go_still_tail 15, (by kernel_rfl)
              have ezd := ez.drew
              have k0 : wr.drew.cell? ⟨b, off + k, none⟩ = some (.int .i64 X) := hcx2
              have k1 : wr.drew.cell? ⟨b, off + j, none⟩ = some (.int .i64 Y) := hcy2
              have k2 : wr.drew.cell? ⟨bn, offn + X * 2, none⟩ = some (.int .i64 nx.sh) := cn0'
              have k3 : wr.drew.cell? ⟨bn, offn + X * 2 + 1, none⟩ = some (.slice nx.loc nx.cols.length nx.cap) := cn1'
              have k4 : wr.drew.cell? ⟨bn, offn + Y * 2, none⟩ = some (.int .i64 ny.sh) := dn0'
              have k5 : wr.drew.cell? ⟨bn, offn + Y * 2 + 1, none⟩ = some (.slice ny.loc ny.cols.length ny.cap) := dn1'
              have HMW := Lib.hid (HMM.out _ ezd)
              change wpList _ _ _ _ _ wr.drew
              clear HMM hcx2 hcy2 cn0' cn1' dn0' dn1' ez
              generalize wr.drew = W5 at k0 k1 k2 k3 k4 k5 ezd HMW ⊢
              generalize meetFrom (refExt order nx.cols) (refExt order ny.cols) order.length 0 = hit at *
              cases hit
              · go_wp2_with (first
                  | (go_at_call 54; refine HMW.out.mono ?_; rintro e w6 ⟨rfl, hb6⟩))
                have e6 := below_after ezd hb6 (Nat.le_refl _)
                have hq := HRR.out
                rw [if_pos (HIT.out rfl)] at hq
                have HQ := Lib.hid hq
                clear hq
                go_ret
                exact ⟨ret_i64 HQ.out, e6⟩
              · go_wp2_with (first
                  | (go_at_call 54; refine HMW.out.mono ?_; rintro e w6 ⟨rfl, hb6⟩))
                have e6 := below_after ezd hb6 (Nat.le_refl _)
                exact ⟨⟨j + 1, by omega, by go_num, HST.out, e6⟩, by simp [intOf]; omega⟩
            · obtain rfl : k = j := by omega
              have HC2 := Lib.hid (show allHit (apartR l order cl) (k + 1) = false by rw [allHit, HAK.out, hrj]; rfl)
              go_wp2_with fail
              go_roundw
              case rel => exact ⟨k + 1, by omega, by go_num, HC2.out, ez⟩
              case measure => simp [intOf]; omega
        · obtain rfl : k = cl.length := by omega
          have hq := HRR.out
          rw [if_neg (by rw [hak]; decide)] at hq
          have HQ := Lib.hid hq
          clear hq
          go_wp2_with fail
          go_ret
          exact ⟨ret_i64 HQ.out, ek⟩
end Go.Proofs.YtkjjnnbbicoljaaGreatDoor
