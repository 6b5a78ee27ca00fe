/- The reference of package bus: the check of a layout. -/
import Derived.Test.YtbldpojkpmafpaaGreatDoorZtBusRefMeet
import Derived.Test.YtbldpojkpmafpaaGreatDoorZtBusTap1
import Derived.Test.YtbldpojkpmafpaaGreatDoorZtBusTracks
import Derived.Test.YtbldpojkpmafpaaGreatDoorZtBusRefNets
namespace Go.Proofs.YtbldpojkpmafpaaGreatDoor
open Go.RowKit

def rowHit (p : Nat → Bool) : Nat → Bool
  | 0 => false
  | k + 1 => rowHit p k || p k
def allHit (p : Nat → Nat → Bool) : Nat → Bool
  | 0 => false
  | i + 1 => allHit p i || rowHit (p i) i
theorem rowHit_iff (p : Nat → Bool) : ∀ n, rowHit p n = true ↔ ∃ k, k < n ∧ p k = true
  | 0 => by simp [rowHit]
  | n + 1 => by
    rw [rowHit, Bool.or_eq_true, rowHit_iff p n]
    constructor
    · rintro (⟨k, h1, h2⟩ | h)
      · exact ⟨k, by omega, h2⟩
      · exact ⟨n, by omega, h⟩
    · rintro ⟨k, h1, h2⟩
      by_cases hk : k = n
      · subst hk; exact .inr h2
      · exact .inl ⟨k, by omega, h2⟩
theorem allHit_iff (p : Nat → Nat → Bool) : ∀ n, allHit p n = true ↔ ∃ i k, k < i ∧ i < n ∧ p i k = true
  | 0 => by simp [allHit]
  | n + 1 => by
    rw [allHit, Bool.or_eq_true, allHit_iff p n, rowHit_iff]
    constructor
    · rintro (⟨i, k, h1, h2, h3⟩ | ⟨k, h1, h2⟩)
      · exact ⟨i, k, h1, by omega, h3⟩
      · exact ⟨n, k, h1, by omega, h2⟩
    · rintro ⟨i, k, h1, h2, h3⟩
      by_cases hk : i = n
      · subst hk; exact .inr ⟨k, h1, h3⟩
      · exact .inl ⟨i, k, h1, by omega, h3⟩
def clashR (l : List NetAt) (order ts : List Int) (i k : Nat) : Bool :=
  ts.getD i 0 == ts.getD k 0 && meetFrom (refExt order ((l.map NetAt.cols).getD i [])) (refExt order ((l.map NetAt.cols).getD k [])) order.length 0
def layErrR (l : List NetAt) (n : Int) (order ts : List Int) : Int :=
  if Bus.bothErr (l.map NetAt.net) n order ≠ 0 then Bus.bothErr (l.map NetAt.net) n order else if ts.length ≠ l.length then 2 else if farB ts = true then 3 else if allHit (clashR l order ts) l.length = true then 30 else 0
theorem farB_iff (ts : List Int) : farB ts = true ↔ ∃ (k : Nat) (t : Int), ts[k]? = some t ∧ (t < 0 ∨ 64 ≤ t) := by
  unfold farB
  rw [List.any_eq_true]
  constructor
  · rintro ⟨t, h1, h2⟩
    obtain ⟨k, hk⟩ := List.mem_iff_getElem?.1 h1
    exact ⟨k, t, hk, by simpa using h2⟩
  · rintro ⟨k, t, h1, h2⟩
    exact ⟨t, List.mem_of_getElem? h1, by simpa using h2⟩

theorem both_cases (l : List Bus.Net) (n : Int) (order : List Int) : (Bus.netsErr l n ≠ 0 ∧ Bus.bothErr l n order = Bus.netsErr l n) ∨ (Bus.netsErr l n = 0 ∧ Bus.bothErr l n order = Bus.orderErr order n) := by
  unfold Bus.bothErr
  by_cases h : Bus.netsErr l n = 0
  · exact .inr ⟨h, by rw [if_neg (by omega)]⟩
  · exact .inl ⟨h, by rw [if_pos h]⟩

set_option maxHeartbeats 8000000 in
set_option maxRecDepth 100000 in
theorem refCheckLayout_bad (A A2 A3 : Option Addr) (c c2 c3 B : Nat) (l : List NetAt) (order ts : List Int) (n : Int) (w : World) (h : NetsIn w B A l) (h2 : Row w B A2 (order.map (Value.int .i64))) (hB : B ≤ w.heap.size) (hl : l.length ≤ 140737488355328) (hl2 : order.length ≤ 1000000) (hc2 : order.length ≤ c2) (E : Int) (hE : Bus.bothErr (l.map NetAt.net) n order = E) (h0 : E ≠ 0) :
    Calls Tryz.prog 18 #[.slice A l.length c, .int .i64 n, .agg #[.slice A2 order.length c2, .slice A3 ts.length c3]] w fun e w' => e = .returned (.int .i64 E) ∧ Below w.heap.size w w' := by
  have HN := Lib.hid (fun w' (hb : Below w.heap.size w w') => refNets_any A c B l n w' (h.below hb hB) (by have := hb.size; omega) hl)
  have HO := Lib.hid (fun w' (hb : Below w.heap.size w w') => refOrder_any A2 c2 B order n w' hl2 hc2 (h2.below hb hB) (by have := hb.size; omega))
  have hcase := both_cases (l.map NetAt.net) n order
  rw [hE] at hcase
  have hne : (E != 0) = true := by rw [bne_iff_ne]; exact h0
  have hne2 : (E == 0) = false := by rw [beq_eq_false_iff_ne]; exact h0
  generalize Bus.netsErr (l.map NetAt.net) n = e1 at *
  generalize Bus.orderErr order n = e2 at *
  have e0 := (Below.refl w.heap.size w).alloc (Nat.le_refl _) (.cells #[.slice A2 order.length c2, .slice A3 ts.length c3] 29)
  have d0 := Blk.new w 29 #[.slice A2 order.length c2, .slice A3 ts.length c3]
  clear h h2 hE
  rcases hcase with ⟨g1, g2⟩ | ⟨g1, g2⟩
  · subst g2
    have HNE := Lib.hid (HN.out _ e0)
    clear HN HO e2 g1
    go_enter Tryz.func18, Tryz.ntmps18
    go_wp2_with fail
    refine HNE.out.mono ?_
    rintro e w1 ⟨rfl, hb1⟩
    have e1 := below_after e0 hb1 (Nat.le_refl _)
    go_wp2_with fail
    go_ret
    exact ⟨rfl, e1⟩
  · subst g1; subst g2
    have HNE := Lib.hid (HN.out _ e0)
    clear HN
    go_enter Tryz.func18, Tryz.ntmps18
    go_wp2_with fail
    refine HNE.out.mono ?_
    rintro e w1 ⟨rfl, hb1⟩
    have e1 := below_after e0 hb1 (Nat.le_refl _)
    have d1 := keep_blk d0 hb1
    obtain ⟨f0, f1, _, _⟩ := d1.two
    have HOE := Lib.hid (HO.out _ e1)
    clear HO d0 hb1 e0
    go_wp2_with fail
    refine HOE.out.mono ?_
    rintro e w2 ⟨rfl, hb2⟩
    have e2 := below_after e1 hb2 (Nat.le_refl _)
    go_wp2_with fail
    go_ret
    exact ⟨rfl, e2⟩

set_option maxHeartbeats 8000000 in
set_option maxRecDepth 100000 in
theorem refCheckLayout_ok (A A2 A3 : Option Addr) (c c2 c3 B : Nat) (l : List NetAt) (order ts : List Int) (n : Int) (w : World) (h : NetsIn w B A l) (h2 : Row w B A2 (order.map (Value.int .i64))) (h3 : Row w B A3 (ts.map (Value.int .i64))) (hB : B ≤ w.heap.size) (hl : l.length ≤ 140737488355328) (hl2 : order.length ≤ 1000000) (hl3 : ts.length ≤ 1000000) (hc2 : order.length ≤ c2) (hE : Bus.bothErr (l.map NetAt.net) n order = 0) :
    Calls Tryz.prog 18 #[.slice A l.length c, .int .i64 n, .agg #[.slice A2 order.length c2, .slice A3 ts.length c3]] w fun e w' => e = .returned (.int .i64 (layErrR l n order ts)) ∧ Below w.heap.size w w' := by
  obtain ⟨z1, z2⟩ := both_zero hE
  have HN := Lib.hid (fun w' (hb : Below w.heap.size w w') => refNets_any A c B l n w' (h.below hb hB) (by have := hb.size; omega) hl)
  have HO := Lib.hid (fun w' (hb : Below w.heap.size w w') => refOrder_any A2 c2 B order n w' hl2 hc2 (h2.below hb hB) (by have := hb.size; omega))
  rw [z1] at HN
  rw [z2] at HO
  obtain ⟨n1, n97, l64, hcols⟩ := Bus.netsErr_zero z1
  obtain ⟨on, ond, oin⟩ := Bus.orderErr_zero z2
  rw [List.length_map] at l64
  have hol : order.length ≤ 1000 := by omega
  have HM := Lib.hid (fun (x y : NetAt) w' (hb : Below w.heap.size w w') (hx : Row w B x.loc (x.cols.map (Value.int .i64))) (hy : Row w B y.loc (y.cols.map (Value.int .i64))) (fx : x.cols.length ≤ 140737488355328) (fy : y.cols.length ≤ 140737488355328) => refMeet_any x y A2 c2 B order w' (hx.below hb hB) (hy.below hb hB) (h2.below hb hB) (by have := hb.size; omega) hol fx fy)
  obtain ⟨r, hr⟩ : ∃ r, layErrR l n order ts = r := ⟨_, rfl⟩
  rw [hr]
  unfold layErrR at hr
  rw [hE, if_neg (by decide)] at hr
  have H := Lib.hid h
  have H3 := Lib.hid h3
  have e0 := (Below.refl w.heap.size w).alloc (Nat.le_refl _) (.cells #[.slice A2 order.length c2, .slice A3 ts.length c3] 29)
  have d0 := Blk.new w 29 #[.slice A2 order.length c2, .slice A3 ts.length c3]
  have HNE := Lib.hid (HN.out _ e0)
  clear h h2 h3 hE z1 z2 n1 n97 hcols on ond oin HN
  go_enter Tryz.func18, Tryz.ntmps18
  go_wp2_with fail
  refine HNE.out.mono ?_
  rintro e w1 ⟨rfl, hb1⟩
  have e1 := below_after e0 hb1 (Nat.le_refl _)
  have d1 := keep_blk d0 hb1
  obtain ⟨f0, f1, _, _⟩ := d1.two
  have HOE := Lib.hid (HO.out _ e1)
  clear HO HNE d0 hb1 e0
  go_wp2_with fail
  refine HOE.out.mono ?_
  rintro e w2 ⟨rfl, hb2⟩
  have e2 := below_after e1 hb2 (Nat.le_refl _)
  have d2 := keep_blk d1 hb2
  obtain ⟨f0, f1, _, _⟩ := d2.two
  clear HOE d1 hb2 e1
  by_cases htl : ts.length = l.length
  · have hln : ((ts.length : Int) != (l.length : Int)) = false := by simp; omega
    rw [if_neg (by omega)] at hr
    have HTL := Lib.hid htl
    clear htl
    have s2 := e2.size
    have hG2 := d2.lt
    go_wp2_with fail
    go_loopw [8] (fun i wr => ∃ k : Nat, k ≤ ts.length ∧ i = .int .i64 k ∧ farB (ts.take k) = false ∧ Below w.heap.size w wr ∧ Blk wr w.heap.size 29 #[.slice A2 order.length c2, .slice A3 ts.length c3]) (fun i _ => ts.length - (intOf i).toNat)
    case atStart => exact ⟨0, Nat.zero_le _, rfl, rfl, e2, d2⟩
    case round =>
      obtain ⟨k, hk, rfl, hfk, eb, qb⟩ := hrel
      obtain ⟨f0, f1, _, _⟩ := qb.two
      have hszb := eb.size
      by_cases hlt : k < ts.length
      · obtain ⟨b, off, x, hA3, hbB, hx, hcx⟩ := H3.out.int k hlt
        have hA3' := hA3
        subst hA3
        have hcx2 := (eb.cell (p := ⟨b, off + k, none⟩) (by show b < _; omega)).trans hcx
        have hlt' : (k : Int) < (ts.length : Int) := by omega
        have hstep : farB (ts.take (k + 1)) = (farB (ts.take k) || (decide (x < 0) || decide (64 ≤ x))) := by
          rw [List.take_add_one, hx]; unfold farB; rw [List.any_append]; simp
        rw [hfk, Bool.false_or] at hstep
        have hhit : (decide (x < 0) || decide (64 ≤ x)) = true → farB ts = true := fun hh => (farB_iff ts).2 ⟨k, x, hx, by simpa using hh⟩
        clear hx hcx
        by_cases hx0 : x < 0
        · have hf := hhit (by simp [hx0])
          rw [if_pos hf] at hr
          have HR := Lib.hid hr
          clear hr hf hhit hstep hfk
          go_wp2_with fail
          all_goals (go_ret; exact ⟨ret_i64 HR.out, (by repeat (first | with_reducible exact Below.refl _ _ | with_reducible assumption | with_reducible refine Below.setCell ?_ (by first | omega | (simp; done) | (simp; omega)) _ | with_reducible refine below_drewN ?_ _ | with_reducible refine Below.drew ?_ | with_reducible refine Below.alloc ?_ (by first | omega | (simp; done) | (simp; omega)) _ | with_reducible refine below_after ?_ (by assumption) (by first | omega | (simp; done) | (simp; omega))))⟩)
        · by_cases hx64 : 64 ≤ x
          · have hf := hhit (by simp [hx64])
            rw [if_pos hf] at hr
            have HR := Lib.hid hr
            clear hr hf hhit hstep hfk
            go_wp2_with fail
            all_goals (go_ret; exact ⟨ret_i64 HR.out, (by repeat (first | with_reducible exact Below.refl _ _ | with_reducible assumption | with_reducible refine Below.setCell ?_ (by first | omega | (simp; done) | (simp; omega)) _ | with_reducible refine below_drewN ?_ _ | with_reducible refine Below.drew ?_ | with_reducible refine Below.alloc ?_ (by first | omega | (simp; done) | (simp; omega)) _ | with_reducible refine below_after ?_ (by assumption) (by first | omega | (simp; done) | (simp; omega))))⟩)
          · have HS := Lib.hid (show farB (ts.take (k + 1)) = false by rw [hstep]; simp; omega)
            clear hhit hstep hfk hr
            go_wp2_with fail
            go_roundw
            case rel => exact ⟨k + 1, by omega, by go_num, HS.out, eb, qb⟩
            case measure => simp [intOf]; omega
      · obtain rfl : k = ts.length := by omega
        rw [List.take_length] at hfk
        rw [if_neg (by rw [hfk]; decide)] at hr
        have HR := Lib.hid hr
        clear hr hfk
        obtain ⟨W, hW⟩ : ∃ W, wr = W := ⟨_, rfl⟩
        rw [hW] at eb qb hszb f0 f1 ⊢
        clear hW
        go_wp2_with fail
        go_loopw [9] (fun i wr => ∃ k : Nat, k ≤ l.length ∧ i = .int .i64 k ∧ allHit (clashR l order ts) k = false ∧ Below w.heap.size w wr ∧ Blk wr w.heap.size 29 #[.slice A2 order.length c2, .slice A3 ts.length c3]) (fun i _ => l.length - (intOf i).toNat)
        case atStart => exact ⟨0, Nat.zero_le _, rfl, rfl, eb, qb⟩
        case round =>
          obtain ⟨k, hk, rfl, hak, ek, qk⟩ := hrel
          have hszk := ek.size
          by_cases hlk : k < l.length
          · obtain ⟨W2, hW⟩ : ∃ W, wr = W := ⟨_, rfl⟩
            rw [hW] at ek qk hszk ⊢
            clear hW
            have HAK := Lib.hid hak
            clear hak
            go_wp2_with fail
            go_loopw [10] (fun i wz => ∃ j : Nat, j ≤ k ∧ i = .int .i64 j ∧ rowHit (clashR l order ts k) j = false ∧ Below w.heap.size w wz ∧ Blk wz w.heap.size 29 #[.slice A2 order.length c2, .slice A3 ts.length c3]) (fun i _ => k - (intOf i).toNat)
            case atStart => exact ⟨0, Nat.zero_le _, rfl, rfl, ek, qk⟩
            case round =>
              obtain ⟨j, hj, rfl, hrj, ez, qz⟩ := hrel
              have hszz := ez.size
              obtain ⟨f0, f1, _, _⟩ := qz.two
              by_cases hlj : j < k
              · obtain ⟨b, off, x, hA3, hbB, hx, hcx⟩ := H3.out.int k (by rw [HTL.out]; omega)
                obtain ⟨b', off', y, hA3', _, hy, hcy⟩ := H3.out.int j (by rw [HTL.out]; omega)
                subst hA3
                injection hA3' with hA3'; injection hA3' with h1 h2; subst h1; subst h2
                have hcx2 := (ez.cell (p := ⟨b, off + k, none⟩) (by show b < _; omega)).trans hcx
                have hcy2 := (ez.cell (p := ⟨b, off + j, none⟩) (by show b < _; omega)).trans hcy
                have gx : ts.getD k 0 = x := by rw [List.getD_eq_getElem?_getD, hx]; rfl
                have gy : ts.getD j 0 = y := by rw [List.getD_eq_getElem?_getD, hy]; rfl
                obtain ⟨bn, offn, nx, hAn, hbn, hnx, cn0, cn1, rn, fn, _, _⟩ := H.out.net k hlk
                obtain ⟨bn', offn', ny, hAn', _, hny, dn0, dn1, rn', fn', _, _⟩ := H.out.net j (by omega)
                subst hAn
                injection hAn' with hAn'; injection hAn' with h1 h2; subst h1; subst h2
                have cn0' := (ez.cell (p := ⟨bn, offn + k * 2, none⟩) (by show bn < _; omega)).trans cn0
                have cn1' := (ez.cell (p := ⟨bn, offn + k * 2 + 1, none⟩) (by show bn < _; omega)).trans cn1
                have dn0' := (ez.cell (p := ⟨bn, offn + j * 2, none⟩) (by show bn < _; omega)).trans dn0
                have dn1' := (ez.cell (p := ⟨bn, offn + j * 2 + 1, none⟩) (by show bn < _; omega)).trans dn1
                have hkt : (k : Int) < (ts.length : Int) := by rw [HTL.out]; omega
                have hjt : (j : Int) < (ts.length : Int) := by rw [HTL.out]; omega
                have hkl : (k : Int) < (l.length : Int) := by omega
                have hjl : (j : Int) < (l.length : Int) := by omega
                have hcl : clashR l order ts k j = (x == y && meetFrom (refExt order nx.cols) (refExt order ny.cols) order.length 0) := by
                  unfold clashR; rw [gx, gy]; simp only [List.getD_eq_getElem?_getD, List.getElem?_map, hnx, hny, Option.map_some, Option.getD_some]
                have HST := Lib.hid (show rowHit (clashR l order ts k) (j + 1) = (x == y && meetFrom (refExt order nx.cols) (refExt order ny.cols) order.length 0) by rw [rowHit, hrj, Bool.false_or, hcl])
                have HMM := Lib.hid (fun w' (hb : Below w.heap.size w w') => HM.out nx ny w' hb rn rn' fn fn')
                have HIT := Lib.hid (fun (hh : clashR l order ts k j = true) => (allHit_iff (clashR l order ts) l.length).2 ⟨k, j, hlj, hlk, hh⟩)
                rw [hcl] at HIT
                clear hx hy hcx hcy gx gy cn0 cn1 dn0 dn1 hnx hny hcl hrj rn rn' fn fn'
                unfold netV at HMM
                by_cases hxy : x = y
                · have hbe : (x == y) = true := by rw [beq_iff_eq]; exact hxy
                  rw [hbe, Bool.true_and] at HST HIT
                  go_wp2_with fail
                  go_still_tail 22, (by kernel_rfl)
                  have ezd := ez.drew
                  have qzd := qz.drew
                  have k0 : wr.drew.cell? ⟨b, off + k, none⟩ = some (.int .i64 x) := hcx2
                  have k1 : wr.drew.cell? ⟨b, off + j, none⟩ = some (.int .i64 y) := hcy2
                  have k2 : wr.drew.cell? ⟨bn, offn + k * 2, none⟩ = some (.int .i64 nx.sh) := cn0'
                  have k3 : wr.drew.cell? ⟨bn, offn + k * 2 + 1, none⟩ = some (.slice nx.loc nx.cols.length nx.cap) := cn1'
                  have k4 : wr.drew.cell? ⟨bn, offn + j * 2, none⟩ = some (.int .i64 ny.sh) := dn0'
                  have k5 : wr.drew.cell? ⟨bn, offn + j * 2 + 1, none⟩ = some (.slice ny.loc ny.cols.length ny.cap) := dn1'
                  have k6 : wr.drew.cell? ⟨w.heap.size, 0, none⟩ = some (.slice A2 order.length c2) := f0
                  have k7 : wr.drew.cell? ⟨w.heap.size, 1, none⟩ = some (.slice (some ⟨b, off, none⟩) ts.length c3) := f1
                  have HMW := Lib.hid (HMM.out _ ezd)
                  change wpList _ _ _ _ _ wr.drew
                  clear HMM hcx2 hcy2 cn0' cn1' dn0' dn1' f0 f1 ez qz
                  generalize wr.drew = W5 at k0 k1 k2 k3 k4 k5 k6 k7 ezd qzd HMW ⊢
                  generalize meetFrom (refExt order nx.cols) (refExt order ny.cols) order.length 0 = hit at *
                  go_wp2_with (first
                    | (go_at_call 55; refine HMW.out.mono ?_; rintro e w6 ⟨rfl, hb6⟩))
                  · rename_i hmt
                    have e6 := below_after ezd hb6 (Nat.le_refl _)
                    have hq := HR.out
                    rw [if_pos (HIT.out hmt)] at hq
                    have HQ := Lib.hid hq
                    clear hq
                    go_ret
                    exact ⟨ret_i64 HQ.out, e6⟩
                  · rename_i hmt
                    have e6 := below_after ezd hb6 (Nat.le_refl _)
                    exact ⟨⟨j + 1, by omega, by go_num, HST.out.trans hmt, e6, keep_blk qzd hb6⟩, by simp [intOf]; omega⟩
                · have hbe : (x == y) = false := by rw [beq_eq_false_iff_ne]; exact hxy
                  rw [hbe, Bool.false_and] at HST
                  go_wp2_with fail
                  go_quiet (fail)
                  go_wp2_with fail
                  go_roundw
                  case rel => exact ⟨j + 1, by omega, by go_num, HST.out, (by repeat (first | with_reducible exact Below.refl _ _ | with_reducible assumption | with_reducible refine Below.setCell ?_ (by first | omega | (simp; done) | (simp; omega)) _ | with_reducible refine below_drewN ?_ _ | with_reducible refine Below.drew ?_ | with_reducible refine Below.alloc ?_ (by first | omega | (simp; done) | (simp; omega)) _ | with_reducible refine below_after ?_ (by assumption) (by first | omega | (simp; done) | (simp; omega)))), by first | exact qz | exact qz.drew⟩
                  case measure => simp [intOf]; omega
              · obtain rfl : k = j := by omega
                have HC2 := Lib.hid (show allHit (clashR l order ts) (k + 1) = false by rw [allHit, HAK.out, hrj]; rfl)
                go_wp2_with fail
                go_roundw
                case rel => exact ⟨k + 1, by omega, by go_num, HC2.out, ez, qz⟩
                case measure => simp [intOf]; omega
          · obtain rfl : k = l.length := by omega
            have hq := HR.out
            rw [if_neg (by rw [hak]; decide)] at hq
            have HQ := Lib.hid hq
            clear hq
            go_wp2_with fail
            go_ret
            exact ⟨ret_i64 HQ.out, ek⟩
  · have hln : ((ts.length : Int) != (l.length : Int)) = true := by simp; omega
    rw [if_pos (by omega)] at hr
    have HR := Lib.hid hr
    clear hr
    go_wp2_with fail
    go_ret
    exact ⟨ret_i64 HR.out, e2⟩
end Go.Proofs.YtbldpojkpmafpaaGreatDoor

/- Package bus and its reference: they say the same of layouts and of cliques (plain law). -/
namespace Go.Proofs.YtbldpojkpmafpaaGreatDoor
open Go.RowKit

theorem foldMin (f : Int → Int) : ∀ (l : List Int) (a : Int), l.foldl (fun l c => min l (f c)) a ≤ a ∧ (∀ c ∈ l, l.foldl (fun l c => min l (f c)) a ≤ f c) ∧ ∀ m, m ≤ a → (∀ c ∈ l, m ≤ f c) → m ≤ l.foldl (fun l c => min l (f c)) a
  | [], a => ⟨Int.le_refl _, fun c h => (by cases h), fun m h _ => h⟩
  | d :: r, a => by
    obtain ⟨h1, h2, h3⟩ := foldMin f r (min a (f d))
    simp only [List.foldl_cons]
    refine ⟨by omega, fun c hc => ?_, fun m hm hall => h3 m (by have := hall d List.mem_cons_self; omega) fun c hc => hall c (List.mem_cons_of_mem _ hc)⟩
    rcases List.mem_cons.1 hc with rfl | hc
    · omega
    · exact h2 c hc
theorem foldMax (f : Int → Int) : ∀ (l : List Int) (a : Int), a ≤ l.foldl (fun h c => max h (f c)) a ∧ (∀ c ∈ l, f c ≤ l.foldl (fun h c => max h (f c)) a) ∧ ∀ m, a ≤ m → (∀ c ∈ l, f c ≤ m) → l.foldl (fun h c => max h (f c)) a ≤ m
  | [], a => ⟨Int.le_refl _, fun c h => (by cases h), fun m h _ => h⟩
  | d :: r, a => by
    obtain ⟨h1, h2, h3⟩ := foldMax f r (max a (f d))
    simp only [List.foldl_cons]
    refine ⟨by omega, fun c hc => ?_, fun m hm hall => h3 m (by have := hall d List.mem_cons_self; omega) fun c hc => hall c (List.mem_cons_of_mem _ hc)⟩
    rcases List.mem_cons.1 hc with rfl | hc
    · omega
    · exact h2 c hc

theorem valid_ext {l : List NetAt} {n : Int} {order : List Int} (hE : Bus.bothErr (l.map NetAt.net) n order = 0) (i : Nat) (hi : i < l.length) :
    (Bus.exts (Bus.atUp order order.length) (l.map NetAt.net)).getD i (0, 0) = refExt order ((l.map NetAt.cols).getD i []) ∧ 0 ≤ (refExt order ((l.map NetAt.cols).getD i [])).1 ∧ (refExt order ((l.map NetAt.cols).getD i [])).1 ≤ (refExt order ((l.map NetAt.cols).getD i [])).2 ∧
      (refExt order ((l.map NetAt.cols).getD i [])).2 < order.length := by
  obtain ⟨z1, z2⟩ := both_zero hE
  obtain ⟨n1, n97, l64, hcols⟩ := Bus.netsErr_zero z1
  obtain ⟨on, ond, oin⟩ := Bus.orderErr_zero z2
  have hall : ∀ c, 0 ≤ c → c < n → c ∈ order := fun c h0 h1 => has_all order.length order ond rfl (fun d hd => by have := oin d hd; omega) c h0 (by omega)
  obtain ⟨x, hx⟩ : ∃ x, l[i]? = some x := ⟨_, List.getElem?_eq_getElem hi⟩
  have hxm : x ∈ l := List.mem_of_getElem? hx
  have hc1 : (l.map NetAt.cols).getD i [] = x.cols := by simp only [List.getD_eq_getElem?_getD, List.getElem?_map, hx, Option.map_some, Option.getD_some]
  have hne := (hcols x.net (List.mem_map_of_mem hxm)).1
  have hin := (hcols x.net (List.mem_map_of_mem hxm)).2
  have hxe := ref_ext (order := order) (cols := x.cols) (n := n) ond on hne hin hall n97
  rw [hc1]
  have e1 : refExt order x.cols = Bus.ext (fun c => Bus.atUp order order.length c.toNat) x.cols := hxe
  have hp : ∀ c ∈ x.cols, 0 ≤ Bus.pos order c ∧ Bus.pos order c < order.length := fun c hc => Bus.pos_bd (hall c (hin c hc).1 (hin c hc).2)
  have hlow : Bus.refLow (Bus.pos order) (-1) x.cols = (Bus.ext (Bus.pos order) x.cols).1 := Bus.refLow_ext _ _ hne fun c hc => by have := hp c hc; omega
  obtain ⟨m1, m2, m3⟩ := foldMin (Bus.pos order) x.cols 97
  obtain ⟨k1, k2, k3⟩ := foldMax (Bus.pos order) x.cols (-1)
  obtain ⟨c0, hc0⟩ : ∃ c, c ∈ x.cols := List.exists_mem_of_ne_nil _ hne
  have hlo : (refExt order x.cols).1 = x.cols.foldl (fun l c => min l (Bus.pos order c)) 97 := hlow
  have hhi : (refExt order x.cols).2 = x.cols.foldl (fun h c => max h (Bus.pos order c)) (-1) := rfl
  refine ⟨?_, ?_, ?_, ?_⟩
  · rw [e1]
    simp [Bus.exts, hx, NetAt.net]
  · rw [hlo]; exact m3 0 (by omega) fun c hc => (hp c hc).1
  · rw [hlo, hhi]; exact Int.le_trans (m2 c0 hc0) (k2 c0 hc0)
  · rw [hhi]
    have hpos : (0 : Int) < order.length := by omega
    have := k3 (order.length - 1) (by omega) fun c hc => by have := (hp c hc).2; omega
    omega
theorem valid_meet {l : List NetAt} {n : Int} {order : List Int} (hE : Bus.bothErr (l.map NetAt.net) n order = 0) (i k : Nat) (hi : i < l.length) (hk : k < l.length) :
    meetB (Bus.exts (Bus.atUp order order.length) (l.map NetAt.net)) i k = meetFrom (refExt order ((l.map NetAt.cols).getD i [])) (refExt order ((l.map NetAt.cols).getD k [])) order.length 0 := by
  obtain ⟨a1, a2, a3, a4⟩ := valid_ext hE i hi
  obtain ⟨b1, b2, b3, b4⟩ := valid_ext hE k hk
  rw [meetFrom_eq _ _ _ ⟨a2, a3, a4⟩ ⟨b2, b3, b4⟩]
  unfold meetB
  rw [a1, b1]

theorem allHit_congr {p q : Nat → Nat → Bool} {n : Nat} (h : ∀ i k, k < i → i < n → p i k = q i k) : allHit p n = allHit q n := by
  rw [Bool.eq_iff_iff, allHit_iff, allHit_iff]
  exact ⟨fun ⟨i, k, h1, h2, h3⟩ => ⟨i, k, h1, h2, by rw [← h i k h1 h2]; exact h3⟩, fun ⟨i, k, h1, h2, h3⟩ => ⟨i, k, h1, h2, by rw [h i k h1 h2]; exact h3⟩⟩
theorem confRow_hit (xs : List (Int × Int)) (ts : List Int) (i : Nat) : ∀ k, confRow xs ts i k = rowHit (fun k => ts.getD i 0 == ts.getD k 0 && meetB xs i k) k
  | 0 => rfl
  | k + 1 => by rw [confRow, rowHit, confRow_hit xs ts i k]
theorem conf_hit (xs : List (Int × Int)) (ts : List Int) : ∀ n, conf xs ts n = allHit (fun i k => ts.getD i 0 == ts.getD k 0 && meetB xs i k) n
  | 0 => rfl
  | n + 1 => by rw [conf, allHit, conf_hit xs ts n, confRow_hit]

theorem lay_same (l : List NetAt) (n : Int) (order ts : List Int) : layErr (l.map NetAt.net) n order ts = layErrR l n order ts := by
  unfold layErr layErrR
  by_cases hE : Bus.bothErr (l.map NetAt.net) n order = 0
  · have h0 : ¬ Bus.bothErr (l.map NetAt.net) n order ≠ 0 := fun h => h hE
    rw [if_neg h0, if_neg h0, List.length_map, conf_hit]
    rw [allHit_congr (q := clashR l order ts) fun i k h1 h2 => by unfold clashR; rw [valid_meet hE i k h2 (by omega)]]
  · rw [if_pos hE, if_pos hE]
end Go.Proofs.YtbldpojkpmafpaaGreatDoor

/- The reference of package bus: Extent, Meet, covers as contracts on plain data; Clique. -/
namespace Go.Proofs.YtbldpojkpmafpaaGreatDoor
open Go.RowKit Sv
set_option maxRecDepth 100000
set_option linter.unusedVariables false
noncomputable section
abbrev tN : Ty := .pair (.int .i64) (.list false (.int .i64))
--{
--}

abbrev ob (j : Nat) (l : List Int) : AV := .osl 3 (.int .i64) j 0 l.length (capOf l.length)
--{
--}
end
end Go.Proofs.YtbldpojkpmafpaaGreatDoor

/- Package bus, with no program in sight: the tracks of the left ends in their order are the tracks that the reference finds. -/
namespace Go.Proofs.YtbldpojkpmafpaaGreatDoor
open Go.RowKit

def Lo (K : Nat → Int) (a b : Nat) : Prop := K a < K b ∨ K a = K b ∧ a < b
theorem Lo.trans {K : Nat → Int} {a b c : Nat} (h1 : Lo K a b) (h2 : Lo K b c) : Lo K a c := by
  unfold Lo at *; omega
theorem Lo.asymm {K : Nat → Int} {a b : Nat} (h1 : Lo K a b) (h2 : Lo K b a) : False := by
  unfold Lo at *; omega
theorem swapAt_app (pre post : List Nat) (y x : Nat) : swapAt (pre ++ y :: x :: post) pre.length = pre ++ x :: y :: post := by
  unfold swapAt
  have e1 : (pre ++ y :: x :: post).getD pre.length 0 = y := by simp [List.getD_eq_getElem?_getD]
  have e2 : (pre ++ y :: x :: post).getD (pre.length + 1) 0 = x := by
    simp [List.getD_eq_getElem?_getD]
  rw [e1, e2, List.set_append_right _ _ (by omega), List.set_append_right _ _ (by omega)]
  simp
theorem sink_spec (K : Nat → Int) : ∀ (j : Nat) (pre post : List Nat) (x : Nat), pre.length = j → pre.Pairwise (Lo K) → (∀ y ∈ pre, y < x) →
    ∃ l, sink K j (pre ++ x :: post) = l ++ post ∧ l.Pairwise (Lo K) ∧ (∀ z, z ∈ l ↔ z ∈ pre ∨ z = x) ∧ l.length = j + 1
  | 0, pre, post, x, hl, hs, hx => by
    obtain rfl := List.length_eq_zero_iff.1 hl
    exact ⟨[x], rfl, List.pairwise_singleton _ _, fun z => by simp, rfl⟩
  | j + 1, pre, post, x, hl, hs, hx => by
    obtain ⟨pre', y, rfl⟩ : ∃ p y, pre = p ++ [y] := ⟨pre.dropLast, pre.getLast (by intro h; rw [h] at hl; cases hl), (List.dropLast_concat_getLast _).symm⟩
    have hl' : pre'.length = j := by simpa using hl
    have e : pre' ++ [y] ++ x :: post = pre' ++ y :: x :: post := by simp
    rw [e]
    obtain ⟨s1, s2, s3⟩ := List.pairwise_append.1 hs
    have g1 : (pre' ++ y :: x :: post).getD j 0 = y := by rw [← hl']; simp [List.getD_eq_getElem?_getD]
    have g2 : (pre' ++ y :: x :: post).getD (j + 1) 0 = x := by rw [← hl']; simp [List.getD_eq_getElem?_getD]
    unfold sink
    rw [g1, g2]
    by_cases hk : K x < K y
    · rw [if_pos hk]
      have hsw : swapAt (pre' ++ y :: x :: post) j = pre' ++ x :: y :: post := by rw [← hl']; exact swapAt_app pre' post y x
      rw [hsw]
      obtain ⟨l, h1, h2, h3, h4⟩ := sink_spec K j pre' (y :: post) x hl' s1 fun z hz => hx z (List.mem_append_left _ hz)
      refine ⟨l ++ [y], by rw [h1]; simp, List.pairwise_append.2 ⟨h2, List.pairwise_singleton _ _, fun a ha b hb => ?_⟩, fun z => ?_, by simp [h4]⟩
      · rw [List.mem_singleton.1 hb]
        rcases (h3 a).1 ha with h | rfl
        · exact s3 a h y (List.mem_singleton_self _)
        · exact .inl hk
      · simp only [List.mem_append, List.mem_singleton, h3]
        constructor
        · rintro ((h | h) | h)
          · exact .inl (.inl h)
          · exact .inr h
          · exact .inl (.inr h)
        · rintro ((h | h) | h)
          · exact .inl (.inl h)
          · exact .inr h
          · exact .inl (.inr h)
    · rw [if_neg hk]
      have hyx : Lo K y x := by
        have := hx y (by simp)
        unfold Lo; omega
      refine ⟨pre' ++ [y] ++ [x], by simp, List.pairwise_append.2 ⟨hs, List.pairwise_singleton _ _, fun a ha b hb => ?_⟩, fun z => by simp [or_assoc], by simp [hl']⟩
      rw [List.mem_singleton.1 hb]
      rcases List.mem_append.1 ha with h | h
      · exact (s3 a h y (List.mem_singleton_self _)).trans hyx
      · rw [List.mem_singleton.1 h]; exact hyx
theorem sortTo_spec (K : Nat → Int) (n : Nat) : ∀ i, i ≤ n → ∃ l, sortTo K (List.range n) i = l ++ (List.range n).drop i ∧ l.Pairwise (Lo K) ∧ (∀ z, z ∈ l ↔ z < i) ∧ l.length = i
  | 0, _ => ⟨[], by simp [sortTo], List.Pairwise.nil, by simp, rfl⟩
  | i + 1, hi => by
    obtain ⟨l, h1, h2, h3, h4⟩ := sortTo_spec K n i (by omega)
    have hd : (List.range n).drop i = i :: (List.range n).drop (i + 1) := by
      rw [List.drop_eq_getElem_cons (by rw [List.length_range]; omega)]; simp
    unfold sortTo
    rw [h1, hd]
    obtain ⟨l', g1, g2, g3, g4⟩ := sink_spec K i l ((List.range n).drop (i + 1)) i h4 h2 fun y hy => (h3 y).1 hy
    exact ⟨l', g1, g2, fun z => by rw [g3, h3]; omega, g4⟩
theorem sorted_unique {K : Nat → Int} : ∀ {l1 l2 : List Nat}, l1.Pairwise (Lo K) → l2.Pairwise (Lo K) → (∀ z, z ∈ l1 ↔ z ∈ l2) → l1 = l2
  | [], [], _, _, _ => rfl
  | [], b :: l, _, _, h => absurd ((h b).2 List.mem_cons_self) (by simp)
  | a :: l, [], _, _, h => absurd ((h a).1 List.mem_cons_self) (by simp)
  | a :: l1, b :: l2, h1, h2, h => by
    obtain ⟨a1, a2⟩ := List.pairwise_cons.1 h1
    obtain ⟨b1, b2⟩ := List.pairwise_cons.1 h2
    have hab : a = b := by
      rcases List.mem_cons.1 ((h a).1 List.mem_cons_self) with e | e
      · exact e
      · rcases List.mem_cons.1 ((h b).2 List.mem_cons_self) with e' | e'
        · exact e'.symm
        · exact ((b1 a e).asymm (a1 b e')).elim
    subst hab
    rw [sorted_unique a2 b2 fun z => ?_]
    have hz := h z
    simp only [List.mem_cons] at hz
    constructor
    · intro hm
      rcases hz.1 (.inr hm) with e | e
      · subst e; exact ((a1 z hm).asymm (a1 z hm)).elim
      · exact e
    · intro hm
      rcases hz.2 (.inr hm) with e | e
      · subst e; exact ((b1 z hm).asymm (b1 z hm)).elim
      · exact e
def refOrd (K : Nat → Int) (n : Nat) : Nat → List Nat
  | 0 => []
  | p + 1 => refOrd K n p ++ (List.range n).filter fun i => K i == (p : Int)
theorem refOrd_spec (K : Nat → Int) (n : Nat) : ∀ p, (refOrd K n p).Pairwise (Lo K) ∧ ∀ z, z ∈ refOrd K n p ↔ z < n ∧ 0 ≤ K z ∧ K z < p
  | 0 => ⟨List.Pairwise.nil, fun z => by simp only [refOrd, List.not_mem_nil, false_iff]; omega⟩
  | p + 1 => by
    obtain ⟨h1, h2⟩ := refOrd_spec K n p
    unfold refOrd
    refine ⟨List.pairwise_append.2 ⟨h1, ?_, fun a ha b hb => ?_⟩, fun z => ?_⟩
    · have hr : (List.range n).Pairwise (· < ·) := List.pairwise_lt_range
      refine List.Pairwise.imp_of_mem (S := Lo K) (fun ha hb hab => ?_) (hr.filter _)
      have e1 := (List.mem_filter.1 ha).2
      have e2 := (List.mem_filter.1 hb).2
      rw [beq_iff_eq] at e1 e2
      exact .inr ⟨by omega, hab⟩
    · have e1 := (h2 a).1 ha
      have e2 := (List.mem_filter.1 hb).2
      rw [beq_iff_eq] at e2
      exact .inl (by omega)
    · simp only [List.mem_append, h2, List.mem_filter, List.mem_range, beq_iff_eq]
      omega
theorem sort_refOrd (K : Nat → Int) (n p : Nat) (h : ∀ i, i < n → 0 ≤ K i ∧ K i < p) : sortTo K (List.range n) n = refOrd K n p := by
  obtain ⟨l, h1, h2, h3, _⟩ := sortTo_spec K n n (Nat.le_refl _)
  obtain ⟨g1, g2⟩ := refOrd_spec K n p
  rw [h1, List.drop_of_length_le (by simp), List.append_nil]
  refine sorted_unique h2 g1 fun z => ?_
  rw [h3, g2]
  exact ⟨fun hz => ⟨hz, h z hz⟩, fun hz => hz.1⟩

theorem freeFrom_spec (lo : Int) : ∀ (es : List Int) (k : Nat), (freeFrom lo k es < 0 ∧ ∀ t, t < es.length → lo ≤ es.getD t 0) ∨ ∃ t, t < es.length ∧ freeFrom lo k es = ((k + t : Nat) : Int) ∧ es.getD t 0 < lo ∧ ∀ u, u < t → lo ≤ es.getD u 0
  | [], k => .inl ⟨by simp [freeFrom], fun t ht => by simp at ht⟩
  | e :: r, k => by
    unfold freeFrom
    by_cases h : e < lo
    · rw [if_pos h]
      exact .inr ⟨0, by simp, by simp, by simpa using h, fun u hu => by omega⟩
    · rw [if_neg h]
      rcases freeFrom_spec lo r (k + 1) with ⟨h1, h2⟩ | ⟨t, h1, h2, h3, h4⟩
      · refine .inl ⟨h1, fun t ht => ?_⟩
        cases t with
        | zero => simp; omega
        | succ t => simpa using h2 t (by simpa using ht)
      · refine .inr ⟨t + 1, by simpa using h1, by rw [h2]; congr 1; omega, by simpa using h3, fun u hu => ?_⟩
        cases u with
        | zero => simp; omega
        | succ u => simpa using h4 u (by omega)
def hit (meet : Nat → Nat → Bool) (out : List Int) (dn : List Nat) (i : Nat) : Bool := dn.any fun j => out.getD j 0 == out.getD i 0 && meet j i
def place (meet : Nat → Nat → Bool) (dn : List Nat) (i : Nat) : Nat → List Int → List Int
  | 0, out => out
  | m + 1, out => if hit meet out dn i = true then place meet dn i m (out.set i (out.getD i 0 + 1)) else out
def refStep (meet : Nat → Nat → Bool) (s : List Int × List Nat) (i : Nat) : List Int × List Nat := (place meet s.2 i (s.2.length + 1) s.1, s.2 ++ [i])
theorem getD_set_self {l : List Int} {i : Nat} {x : Int} (h : i < l.length) : (l.set i x).getD i 0 = x := by simp [List.getD_eq_getElem?_getD, h]
theorem getD_set_ne {l : List Int} {i j : Nat} {x : Int} (h : i ≠ j) : (l.set i x).getD j 0 = l.getD j 0 := by simp [List.getD_eq_getElem?_getD, List.getElem?_set_ne h]
theorem getN_set_self {l : List Nat} {i : Nat} {x : Nat} (h : i < l.length) : (l.set i x).getD i 0 = x := by simp [List.getD_eq_getElem?_getD, h]
theorem getN_set_ne {l : List Nat} {i j : Nat} {x : Nat} (h : i ≠ j) : (l.set i x).getD j 0 = l.getD j 0 := by simp [List.getD_eq_getElem?_getD, List.getElem?_set_ne h]
theorem set_getD {l : List Int} {i : Nat} (h : i < l.length) : l.set i (l.getD i 0) = l := by
  rw [List.getD_eq_getElem?_getD, List.getElem?_eq_getElem h]
  simp
theorem place_spec (meet : Nat → Nat → Bool) (dn : List Nat) (i : Nat) (hi : i ∉ dn) : ∀ (m : Nat) (out : List Int) (v T : Nat), i < out.length → out.getD i 0 = (v : Int) → v ≤ T → T < v + m →
    (∀ t, v ≤ t → t < T → ∃ j ∈ dn, out.getD j 0 = (t : Int) ∧ meet j i = true) → (∀ j ∈ dn, out.getD j 0 = (T : Int) → meet j i = false) → place meet dn i m out = out.set i (T : Int)
  | 0, out, v, T, _, _, h1, h2, _, _ => absurd h2 (by omega)
  | m + 1, out, v, T, hl, hv, h1, h2, h3, h4 => by
    unfold place
    by_cases he : v = T
    · subst he
      have hh : ¬ hit meet out dn i = true := by
        unfold hit
        rw [List.any_eq_true]
        rintro ⟨j, hj, hc⟩
        rw [Bool.and_eq_true, beq_iff_eq, hv] at hc
        have := h4 j hj hc.1
        rw [this] at hc
        cases hc.2
      rw [if_neg hh, ← hv, set_getD hl]
    · have hh : hit meet out dn i = true := by
        unfold hit
        rw [List.any_eq_true]
        obtain ⟨j, hj, e1, e2⟩ := h3 v (Nat.le_refl _) (by omega)
        exact ⟨j, hj, by rw [Bool.and_eq_true, beq_iff_eq, hv]; exact ⟨e1, e2⟩⟩
      have hne : ∀ j ∈ dn, i ≠ j := fun j hj e => hi (e ▸ hj)
      rw [if_pos hh, place_spec meet dn i hi m (out.set i (out.getD i 0 + 1)) (v + 1) T (by simpa using hl) (by rw [getD_set_self hl, hv]; omega) (by omega) (by omega) (fun t ht1 ht2 => ?_) (fun j hj e => ?_)]
      · simp
      · obtain ⟨j, hj, e1, e2⟩ := h3 t (by omega) ht2
        exact ⟨j, hj, by rw [getD_set_ne (hne j hj)]; exact e1, e2⟩
      · rw [getD_set_ne (hne j hj)] at e
        exact h4 j hj e
theorem getD_app {a b : List Int} {t : Nat} (h : t < a.length) : (a ++ b).getD t 0 = a.getD t 0 := by
  rw [List.getD_eq_getElem?_getD, List.getElem?_append_left h, List.getD_eq_getElem?_getD]
structure Tie (lo hi : Nat → Int) (n : Nat) (ends : List Int) (tr : List Nat) (out : List Int) (dn : List Nat) : Prop where
  out : out = tr.map fun (x : Nat) => (x : Int)
  len : tr.length = n
  mem : ∀ j ∈ dn, j < n ∧ tr.getD j 0 < ends.length ∧ hi j ≤ ends.getD (tr.getD j 0) 0
  top : ∀ t, t < ends.length → ∃ j ∈ dn, tr.getD j 0 = t ∧ ends.getD t 0 = hi j
  rest : ∀ j, j ∉ dn → tr.getD j 0 = 0
  few : ends.length ≤ dn.length
theorem map_getD (tr : List Nat) (j : Nat) : (tr.map fun (x : Nat) => (x : Int)).getD j 0 = ((tr.getD j 0 : Nat) : Int) := by
  simp only [List.getD_eq_getElem?_getD, List.getElem?_map]
  cases tr[j]? <;> rfl
theorem map_set (tr : List Nat) (i x : Nat) : (tr.map fun (x : Nat) => (x : Int)).set i (x : Int) = (tr.set i x).map fun (x : Nat) => (x : Int) := by simp
theorem tie_step (xs : List (Int × Int)) (meet : Nat → Nat → Bool) (n : Nat) {ends : List Int} {tr : List Nat} {out : List Int} {dn : List Nat} (i : Nat) (hn : i < n) (hid : i ∉ dn)
    (hle : ∀ j ∈ dn, (xs.getD j (0, 0)).1 ≤ (xs.getD i (0, 0)).1) (hii : (xs.getD i (0, 0)).1 ≤ (xs.getD i (0, 0)).2)
    (hm : ∀ j, j < n → meet j i = (decide ((xs.getD j (0, 0)).1 ≤ (xs.getD i (0, 0)).2) && decide ((xs.getD i (0, 0)).1 ≤ (xs.getD j (0, 0)).2)))
    (h : Tie (fun j => (xs.getD j (0, 0)).1) (fun j => (xs.getD j (0, 0)).2) n ends tr out dn) :
    Tie (fun j => (xs.getD j (0, 0)).1) (fun j => (xs.getD j (0, 0)).2) n (trackStep xs (ends, tr) i).1 (trackStep xs (ends, tr) i).2 (refStep meet (out, dn) i).1 (refStep meet (out, dn) i).2 := by
  obtain ⟨ho, hl, hmem, htop, hrest, hfew⟩ := h
  subst ho
  have hlen : i < (tr.map fun (x : Nat) => (x : Int)).length := by simpa [hl] using hn
  have hil : i < tr.length := by omega
  have h0 : (tr.map fun (x : Nat) => (x : Int)).getD i 0 = ((0 : Nat) : Int) := by rw [map_getD, hrest i hid]
  have hne : ∀ j ∈ dn, i ≠ j := fun j hj e => hid (e ▸ hj)
  -- a track is hit just if it ends behind the low
  have busy : ∀ t, t < ends.length → (xs.getD i (0, 0)).1 ≤ ends.getD t 0 → ∃ j ∈ dn, (tr.map fun (x : Nat) => (x : Int)).getD j 0 = (t : Int) ∧ meet j i = true := fun t ht hlo => by
    obtain ⟨j, hj, e1, e2⟩ := htop t ht
    refine ⟨j, hj, by rw [map_getD, e1], ?_⟩
    have := hle j hj
    rw [hm j (hmem j hj).1, Bool.and_eq_true, decide_eq_true_eq, decide_eq_true_eq]
    omega
  have free : ∀ t, (t < ends.length → ends.getD t 0 < (xs.getD i (0, 0)).1) → ∀ j ∈ dn, (tr.map fun (x : Nat) => (x : Int)).getD j 0 = (t : Int) → meet j i = false := fun t ht j hj e => by
    rw [map_getD] at e
    have e : tr.getD j 0 = t := by omega
    obtain ⟨m1, m2, m3⟩ := hmem j hj
    rw [e] at m2 m3
    have := ht m2
    rw [hm j m1]
    rw [decide_eq_false (p := (xs.getD i (0, 0)).1 ≤ (xs.getD j (0, 0)).2) (by omega), Bool.and_false]
  unfold trackStep refStep
  simp only
  rcases freeFrom_spec (xs.getD i (0, 0)).1 ends 0 with ⟨f1, f2⟩ | ⟨t, f1, f2, f3, f4⟩
  · rw [if_pos f1]
    have hp := place_spec meet dn i hid (dn.length + 1) (tr.map fun (x : Nat) => (x : Int)) 0 ends.length hlen h0 (Nat.zero_le _) (by omega) (fun t _ ht => busy t ht (f2 t ht)) (free ends.length fun h => absurd h (Nat.lt_irrefl _))
    simp only
    rw [hp, map_set]
    refine ⟨rfl, by simpa using hl, fun j hj => ?_, fun u hu => ?_, fun j hj => ?_, by simp; omega⟩
    · rcases List.mem_append.1 hj with hj | hj
      · obtain ⟨m1, m2, m3⟩ := hmem j hj
        rw [getN_set_ne (hne j hj)]
        refine ⟨m1, by rw [List.length_append]; exact Nat.lt_of_lt_of_le m2 (Nat.le_add_right _ _), ?_⟩
        rw [getD_app m2]
        exact m3
      · rw [List.mem_singleton.1 hj, getN_set_self hil]
        refine ⟨hn, by simp, ?_⟩
        simp [List.getD_eq_getElem?_getD]
    · by_cases hue : u < ends.length
      · obtain ⟨j, hj, e1, e2⟩ := htop u hue
        refine ⟨j, List.mem_append_left _ hj, by rw [getN_set_ne (hne j hj)]; exact e1, ?_⟩
        rw [getD_app hue]
        exact e2
      · obtain rfl : u = ends.length := by simp at hu; omega
        refine ⟨i, by simp, getN_set_self hil, ?_⟩
        simp [List.getD_eq_getElem?_getD]
    · have h1 : j ∉ dn := fun h => hj (List.mem_append_left _ h)
      have h2 : i ≠ j := fun h => hj (by simp [h])
      rw [getN_set_ne h2]; exact hrest j h1
  · have hnn : ¬ freeFrom (xs.getD i (0, 0)).1 0 ends < 0 := by rw [f2]; omega
    have ht : (freeFrom (xs.getD i (0, 0)).1 0 ends).toNat = t := by rw [f2]; omega
    rw [if_neg hnn, ht]
    have hp := place_spec meet dn i hid (dn.length + 1) (tr.map fun (x : Nat) => (x : Int)) 0 t hlen h0 (Nat.zero_le _) (by omega) (fun u _ hu => busy u (by omega) (f4 u hu)) (free t fun _ => f3)
    simp only
    rw [hp, map_set]
    refine ⟨rfl, by simpa using hl, fun j hj => ?_, fun u hu => ?_, fun j hj => ?_, by simp; omega⟩
    · rcases List.mem_append.1 hj with hj | hj
      · obtain ⟨m1, m2, m3⟩ := hmem j hj
        rw [getN_set_ne (hne j hj)]
        refine ⟨m1, by simpa using m2, ?_⟩
        by_cases htt : t = tr.getD j 0
        · rw [← htt] at m3 ⊢
          rw [getD_set_self f1]
          omega
        · rw [getD_set_ne htt]; exact m3
      · rw [List.mem_singleton.1 hj, getN_set_self hil]
        refine ⟨hn, by simpa using f1, ?_⟩
        rw [getD_set_self f1]
        exact Int.le_refl _
    · have hu : u < ends.length := by simpa using hu
      by_cases htt : t = u
      · subst htt
        exact ⟨i, by simp, getN_set_self hil, by rw [getD_set_self f1]⟩
      · obtain ⟨j, hj, e1, e2⟩ := htop u hu
        exact ⟨j, List.mem_append_left _ hj, by rw [getN_set_ne (hne j hj)]; exact e1, by rw [getD_set_ne htt]; exact e2⟩
    · have h1 : j ∉ dn := fun h => hj (List.mem_append_left _ h)
      have h2 : i ≠ j := fun h => hj (by simp [h])
      rw [getN_set_ne h2]; exact hrest j h1

theorem tie_all (xs : List (Int × Int)) (meet : Nat → Nat → Bool) (n : Nat)
    (hii : ∀ i, i < n → (xs.getD i (0, 0)).1 ≤ (xs.getD i (0, 0)).2)
    (hm : ∀ j i, j < n → i < n → meet j i = (decide ((xs.getD j (0, 0)).1 ≤ (xs.getD i (0, 0)).2) && decide ((xs.getD i (0, 0)).1 ≤ (xs.getD j (0, 0)).2))) :
    ∀ (L : List Nat) (s : List Int × List Nat) (r : List Int × List Nat), L.Pairwise (Lo (lowAt xs)) → (∀ b ∈ L, b < n ∧ b ∉ r.2 ∧ ∀ a ∈ r.2, Lo (lowAt xs) a b) →
      Tie (fun j => (xs.getD j (0, 0)).1) (fun j => (xs.getD j (0, 0)).2) n s.1 s.2 r.1 r.2 → Tie (fun j => (xs.getD j (0, 0)).1) (fun j => (xs.getD j (0, 0)).2) n (L.foldl (trackStep xs) s).1 (L.foldl (trackStep xs) s).2 (L.foldl (refStep meet) r).1 (L.foldl (refStep meet) r).2
  | [], s, r, _, _, h => h
  | i :: L, s, r, hp, hb, h => by
    obtain ⟨p1, p2⟩ := List.pairwise_cons.1 hp
    obtain ⟨b1, b2, b3⟩ := hb i List.mem_cons_self
    rw [List.foldl_cons, List.foldl_cons]
    refine tie_all xs meet n hii hm L _ _ p2 (fun b hb' => ?_) (tie_step xs meet n i b1 b2 (fun j hj => ?_) (hii i b1) (fun j hj => hm j i hj b1) h)
    · obtain ⟨c1, c2, c3⟩ := hb b (List.mem_cons_of_mem _ hb')
      have hib := p1 b hb'
      refine ⟨c1, fun hmem => ?_, fun a ha => ?_⟩
      · rcases List.mem_append.1 hmem with g | g
        · exact c2 g
        · rw [List.mem_singleton.1 g] at hib; exact hib.asymm hib
      · rcases List.mem_append.1 ha with g | g
        · exact c3 a g
        · rw [List.mem_singleton.1 g]; exact hib
    · have := b3 j hj
      unfold Lo lowAt at this
      omega
theorem ref_done (meet : Nat → Nat → Bool) : ∀ (L : List Nat) (r : List Int × List Nat), (L.foldl (refStep meet) r).2 = r.2 ++ L
  | [], r => by simp
  | i :: L, r => by rw [List.foldl_cons, ref_done meet L]; simp [refStep]
theorem cnt_spec (l : List Int) : ∀ k, k ≤ l.length → ∃ D : List Int, D.Nodup ∧ D.length = cntUp l k ∧ ∀ v, v ∈ D ↔ v ∈ l.take k
  | 0, _ => ⟨[], List.nodup_nil, rfl, fun v => by simp⟩
  | k + 1, hk => by
    obtain ⟨D, h1, h2, h3⟩ := cnt_spec l k (by omega)
    unfold cntUp
    split
    · rename_i h
      refine ⟨D, h1, h2, fun v => ?_⟩
      rw [h3, take_next hk, List.mem_append, List.mem_singleton]
      exact ⟨.inl, fun g => g.elim id fun e => e ▸ h⟩
    · rename_i h
      refine ⟨l.getD k 0 :: D, List.nodup_cons.2 ⟨fun g => h ((h3 _).1 g), h1⟩, by simp [h2], fun v => ?_⟩
      rw [take_next hk, List.mem_append, List.mem_singleton, List.mem_cons, h3]
      exact ⟨fun g => g.elim .inr .inl, fun g => g.elim .inr .inl⟩
theorem nodup_le : ∀ {D E : List Int}, D.Nodup → (∀ v ∈ D, v ∈ E) → D.length ≤ E.length
  | [], _, _, _ => Nat.zero_le _
  | d :: D, E, h, hs => by
    obtain ⟨h1, h2⟩ := List.nodup_cons.1 h
    have hd := hs d List.mem_cons_self
    have := nodup_le (D := D) (E := E.erase d) h2 fun v hv => (List.mem_erase_of_ne fun (e : v = d) => h1 (by rw [← e]; exact hv)).2 (hs v (List.mem_cons_of_mem _ hv))
    rw [List.length_erase_of_mem hd] at this
    have := List.length_pos_of_mem hd
    simp only [List.length_cons]; omega
theorem nodup_map_cast (m : Nat) : ((List.range m).map fun (x : Nat) => (x : Int)).Nodup := by
  unfold List.Nodup
  rw [List.pairwise_map]
  exact (List.nodup_range (n := m)).imp fun h e => h (Int.ofNat.inj e)
theorem tracks_same (xs : List (Int × Int)) (meet : Nat → Nat → Bool) (P : Nat) (hlo : ∀ i, i < xs.length → 0 ≤ (xs.getD i (0, 0)).1 ∧ (xs.getD i (0, 0)).1 < P)
    (hii : ∀ i, i < xs.length → (xs.getD i (0, 0)).1 ≤ (xs.getD i (0, 0)).2)
    (hm : ∀ j i, j < xs.length → i < xs.length → meet j i = (decide ((xs.getD j (0, 0)).1 ≤ (xs.getD i (0, 0)).2) && decide ((xs.getD i (0, 0)).1 ≤ (xs.getD j (0, 0)).2))) :
    ((refOrd (lowAt xs) xs.length P).foldl (refStep meet) (List.replicate xs.length 0, [])).1 = ((tracksOf xs).2.map fun (x : Nat) => (x : Int)) ∧
      cntUp ((refOrd (lowAt xs) xs.length P).foldl (refStep meet) (List.replicate xs.length 0, [])).1 xs.length = (tracksOf xs).1.length := by
  obtain ⟨o1, o2⟩ := refOrd_spec (lowAt xs) xs.length P
  have h := tie_all xs meet xs.length hii hm (refOrd (lowAt xs) xs.length P) ([], List.replicate xs.length 0) (List.replicate xs.length 0, []) o1 (fun b hb => ⟨((o2 b).1 hb).1, by simp, fun a ha => by cases ha⟩)
    ⟨by simp, by simp, fun j hj => (by cases hj), fun t ht => absurd ht (Nat.not_lt_zero _), fun j _ => by simp only [List.getD_eq_getElem?_getD, List.getElem?_replicate]; split <;> rfl, Nat.le_refl _⟩
  have hT : tracksOf xs = (refOrd (lowAt xs) xs.length P).foldl (trackStep xs) ([], List.replicate xs.length 0) := by
    unfold tracksOf
    rw [sort_refOrd (lowAt xs) xs.length P hlo]
  rw [← hT, ref_done, List.nil_append] at h
  refine ⟨h.out, ?_⟩
  rw [h.out]
  obtain ⟨D, d1, d2, d3⟩ := cnt_spec ((tracksOf xs).2.map fun (x : Nat) => (x : Int)) xs.length (by simp [h.len])
  rw [← d2]
  rw [List.take_of_length_le (by simp [h.len])] at d3
  have hall : ∀ j, j < xs.length → j ∈ refOrd (lowAt xs) xs.length P := fun j hj => (o2 j).2 ⟨hj, hlo j hj⟩
  have e : ∀ v, v ∈ D ↔ v ∈ (List.range (tracksOf xs).1.length).map fun (x : Nat) => (x : Int) := fun v => by
    rw [d3, List.mem_map, List.mem_map]
    constructor
    · rintro ⟨x, hx, rfl⟩
      obtain ⟨j, hj, rfl⟩ := List.mem_iff_getElem.1 hx
      have hj' : j < xs.length := by rw [← h.len]; exact hj
      have := (h.mem j (hall j hj')).2.1
      rw [List.getD_eq_getElem?_getD, List.getElem?_eq_getElem hj] at this
      exact ⟨_, List.mem_range.2 this, rfl⟩
    · rintro ⟨t, ht, rfl⟩
      obtain ⟨j, hj, e1, _⟩ := h.top t (List.mem_range.1 ht)
      have hj' : j < (tracksOf xs).2.length := by rw [h.len]; exact ((o2 j).1 hj).1
      rw [List.getD_eq_getElem?_getD, List.getElem?_eq_getElem hj'] at e1
      exact ⟨t, by rw [← e1]; exact List.getElem_mem _, rfl⟩
  have l1 := nodup_le d1 fun v hv => (e v).1 hv
  have l2 := nodup_le (nodup_map_cast (tracksOf xs).1.length) fun v hv => (e v).2 hv
  simp only [List.length_map, List.length_range] at l1 l2
  omega
end Go.Proofs.YtbldpojkpmafpaaGreatDoor

/- The reference of package bus: Tracks. -/
namespace Go.Proofs.YtbldpojkpmafpaaGreatDoor
open Go.RowKit Sv
set_option maxRecDepth 100000
set_option linter.unusedVariables false
noncomputable section
abbrev toI (l : List Nat) : List Int := l.map fun (x : Nat) => (x : Int)
def lowR (nets : List (Int × List Int)) (order : List Int) (i : Nat) : Int := Bus.refLow (Bus.pos order) (-1) (nets.getD i (0, [])).2
def mtR (nets : List (Int × List Int)) (order : List Int) (j i : Nat) : Bool := meetFrom (refExt order (nets.getD j (0, [])).2) (refExt order (nets.getD i (0, [])).2) order.length 0
def rI (nets : List (Int × List Int)) (order : List Int) (p i : Nat) : List Int × List Nat :=
  (refOrd (lowR nets order) nets.length p ++ (List.range i).filter fun i => lowR nets order i == (p : Int)).foldl (refStep (mtR nets order)) (List.replicate nets.length 0, [])
structure Far (nets : List (Int × List Int)) (order : List Int) (p i : Nat) (out : List Int) (dn : List Nat) : Prop where
  len : out.length = nets.length
  few : dn.length ≤ p * nets.length + i
  mem : ∀ j ∈ dn, j < nets.length ∧ 0 ≤ out.getD j 0 ∧ out.getD j 0 < dn.length ∧ (lowR nets order j < p ∨ lowR nets order j = p ∧ j < i)
  rest : ∀ j, j ∉ dn → out.getD j 0 = 0
theorem Far.next {nets : List (Int × List Int)} {order : List Int} {p : Nat} {out : List Int} {dn : List Nat} (h : Far nets order p nets.length out dn) : Far nets order (p + 1) 0 out dn :=
  ⟨h.len, by have := h.few; rw [Nat.add_mul]; omega, fun j hj => by obtain ⟨g1, g2, g3, g4⟩ := h.mem j hj; exact ⟨g1, g2, g3, by omega⟩, h.rest⟩
end
end Go.Proofs.YtbldpojkpmafpaaGreatDoor

/- Package bus: the tracks of no nets at all. -/
namespace Go.Proofs.YtbldpojkpmafpaaGreatDoor
open Go.RowKit

set_option maxRecDepth 100000 in
theorem insertion_nil (bx : Nat) (w : World) :
    Calls Tryz.prog 170 #[.slice none 0 0, .int .i64 0, .int .i64 0, .func (.func 89) #[] #[.pointer (some ⟨bx, 0, none⟩)]] w fun e w' => (∃ v, e = .returned v) ∧ w' = w := by
  go_enter Tryz.func170, Tryz.ntmps170
  go_wp2_with fail
  refine wp_loop_rounds 1 ?_
  rw [rounds_succ]
  go_wp2_with fail
  go_end0
  exact ⟨⟨_, rfl⟩, rfl⟩
set_option maxRecDepth 100000 in
theorem stable_nil (bx : Nat) (w : World) :
    Calls Tryz.prog 131 #[.slice none 0 0, .int .i64 0, .func (.func 89) #[] #[.pointer (some ⟨bx, 0, none⟩)]] w fun e w' => (∃ v, e = .returned v) ∧ w' = w := by
  have HI := Lib.hid (insertion_nil bx w)
  go_enter Tryz.func131, Tryz.ntmps131
  go_wp2_with fail
  refine wp_loop_rounds 1 ?_
  rw [rounds_succ]
  go_wp2_with fail
  refine HI.out.mono ?_
  rintro e w1 ⟨⟨v, rfl⟩, rfl⟩
  go_wp2_with fail
  refine wp_loop_rounds 1 ?_
  rw [rounds_succ]
  go_wp2_with fail
  go_end0
  exact ⟨⟨_, rfl⟩, rfl⟩
set_option maxRecDepth 100000 in
theorem SortStable_nil (bx : Nat) (w : World) :
    Calls Tryz.prog 88 #[.slice none 0 0, .func (.func 89) #[] #[.pointer (some ⟨bx, 0, none⟩)]] w fun e w' => (∃ v, e = .returned v) ∧ w' = w := by
  have HI := Lib.hid (stable_nil bx w)
  go_enter Tryz.func88, Tryz.ntmps88
  go_wp2_with fail
  refine HI.out.mono ?_
  rintro e w1 ⟨⟨v, rfl⟩, rfl⟩
  go_wp2_with fail
  go_end0
  exact ⟨⟨_, rfl⟩, rfl⟩

set_option maxHeartbeats 4000000 in
set_option maxRecDepth 100000 in
theorem tracks_nil (g : Nat) (F : Nat → Int) (A An : Option Addr) (c cn : Nat) (w : World) (h : RowAt w g (.slice An 0 cn) F (.slice A 0 c)) :
    Calls Tryz.prog 43 #[.pointer (some ⟨g, 0, none⟩)] w fun e w' => ∃ (Ao : Option Addr) (co : Nat), e = .returned (.tuple #[.slice Ao 0 co, .int .i64 0]) ∧ Below w.heap.size w w' := by
  have hgl := h.lt
  have hnets : w.cell? ⟨g, 0, none⟩ = some (.slice An 0 cn) := h.nets
  obtain ⟨i0, hi0, iz0, iz1, iz2⟩ := info_parts Tryz.info3
  clear h
  go_enter Tryz.func43, Tryz.ntmps43
  go_wp2_with fail
  have e0 := (Below.refl w.heap.size w).alloc (Nat.le_refl _) (.cells #[.pointer (some ⟨g, 0, none⟩)] 73)
  have d0 := Blk.new w 73 #[.pointer (some ⟨g, 0, none⟩)]
  have hn2 := (e0.cell (p := ⟨g, 0, none⟩) hgl).trans hnets
  have hp0 : (w.alloc (.cells #[.pointer (some ⟨g, 0, none⟩)] 73)).cell? ⟨w.heap.size, 0, none⟩ = some (.pointer (some ⟨g, 0, none⟩)) := d0.cell 0
  have HS := Lib.hid (SortStable_nil w.heap.size)
  generalize w.alloc (.cells #[.pointer (some ⟨g, 0, none⟩)] 73) = W0 at e0 d0 hn2 hp0 ⊢
  refine wp_loop_rounds 1 ?_
  rw [rounds_succ]
  go_wp2_with fail
  refine (HS.out _).mono ?_
  rintro e w1 ⟨⟨v, rfl⟩, rfl⟩
  go_wp2_with fail
  rw [run_makeSlice w1 24 3 i0 (.int .i64 0) Tryz.underlying24 hi0 iz0 .i64 .i64 0 0 (by decide) (by decide) (by simp) (by simp) (by decide)]
  simp only [Result.andThen]
  rw [Oper.upon_value]
  have e1 := e0.alloc e0.size (.cells (madeCells (Value.int .i64 0).cells ((0 : Int).toNat * i0.size)) 3)
  generalize w1.alloc _ = W2 at e1 ⊢
  go_wp2_with fail
  refine wp_loop_rounds 1 ?_
  rw [rounds_succ]
  go_wp2_with fail
  go_ret2
  exact ⟨_, _, rfl, e1⟩

set_option maxRecDepth 100000 in
theorem Tracks_none (A A2 : Option Addr) (c c2 B : Nat) (order : List Int) (n : Int) (w : World) (h : NetsIn w B A []) (h2 : Row w B A2 (order.map (Value.int .i64))) (hi : ∀ c ∈ order, I64 c) (hB : B ≤ w.heap.size) (hl2 : order.length ≤ 1000000)
    (hE : Bus.bothErr [] n order = 0) :
    Calls Tryz.prog 24 #[.slice A 0 c, .int .i64 n, .slice A2 order.length c2] w (RetTracks w []) := by
  have HC := Lib.hid (checked_any A A2 c c2 B [] order n w h h2 hi hB (Nat.zero_le _) hl2)
  rw [List.map_nil, hE] at HC
  obtain ⟨z1, z2⟩ := both_zero hE
  have HST := Lib.hid (fun w' (hb : Below w.heap.size w w') => stand_any A A2 c c2 B [] order n w' (h.below hb hB) (h2.below hb hB) (by have := hb.size; omega) z2 z1)
  obtain ⟨F, hF⟩ : ∃ F, Bus.atUp order order.length = F := ⟨_, rfl⟩
  rw [hF] at HST
  rw [List.length_nil] at HC HST
  clear h h2 hi hE hF z1 z2
  go_enter Tryz.func24, Tryz.ntmps24
  go_wp2_with fail
  refine HC.out.mono ?_
  rintro e w1 ⟨rfl, hb1⟩
  go_wp2_with fail
  refine (HST.out _ hb1).mono ?_
  rintro e w2 ⟨g, v, rfl, hg, hrow, hown, hb2⟩
  obtain ⟨Av, cv, rfl, _, hr⟩ := own_cap hown
  have e2 := below_after hb1 hb2 (Nat.le_refl _)
  have HT := Lib.hid (tracks_nil g F Av A cv c w2 hrow)
  clear hrow hown hr
  go_wp2_with fail
  refine HT.out.mono ?_
  rintro e w3 ⟨Ao, co, rfl, hb3⟩
  have e3 := below_after e2 hb3 (Nat.le_refl _)
  go_wp2_with fail
  go_ret3
  exact ⟨Ao, co, rfl, .inl rfl, e3, .inl rfl, Nat.zero_le _⟩
theorem Tracks_any (A A2 : Option Addr) (c c2 B : Nat) (l : List NetAt) (order : List Int) (n : Int) (w : World) (h : NetsIn w B A l) (h2 : Row w B A2 (order.map (Value.int .i64))) (hi : ∀ c ∈ order, I64 c) (hB : B ≤ w.heap.size) (hl2 : order.length ≤ 1000000)
    (hE : Bus.bothErr (l.map NetAt.net) n order = 0) (hl20 : l.length < 20) :
    Calls Tryz.prog 24 #[.slice A l.length c, .int .i64 n, .slice A2 order.length c2] w (RetTracks w (Bus.exts (Bus.atUp order order.length) (l.map NetAt.net))) := by
  cases l with
  | nil => exact Tracks_none A A2 c c2 B order n w h h2 hi hB hl2 hE
  | cons x r => exact Tracks_ok A A2 c c2 B (x :: r) order n w h h2 hi hB (by omega) hl2 hE (by simp) hl20
end Go.Proofs.YtbldpojkpmafpaaGreatDoor
