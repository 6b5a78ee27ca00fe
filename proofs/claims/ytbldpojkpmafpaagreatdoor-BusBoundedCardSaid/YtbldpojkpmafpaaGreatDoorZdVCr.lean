/- The reference of package bus: the check of a layout. -/
import Derived.Test.YtbldpojkpmafpaaGreatDoorZdBusRefMeet
import Derived.Test.YtbldpojkpmafpaaGreatDoorZdBusTaps
import Derived.Test.YtbldpojkpmafpaaGreatDoorZdBusRefNets
import Derived.Test.YtbldpojkpmafpaaGreatDoorZdBusTab
import Derived.Deep.RegionWith
namespace Go.Proofs.YtbldpojkpmafpaaGreatDoor
open Go.RowKit

def rowHit (p : Nat → Bool) : Nat → Bool
  | 0 => false
  | k + 1 => rowHit p k || p k
def allHit (p : Nat → Nat → Bool) : Nat → Bool
  | 0 => false
  | i + 1 => allHit p i || rowHit (p i) i
theorem rowHit_iff (p : Nat → Bool) : ∀ n, rowHit p n = true ↔ ∃ k, k < n ∧ p k = true
  | 0 => by simp [rowHit]
  | n + 1 => by
    rw [rowHit, Bool.or_eq_true, rowHit_iff p n]
    constructor
    · rintro (⟨k, h1, h2⟩ | h)
      · exact ⟨k, by omega, h2⟩
      · exact ⟨n, by omega, h⟩
    · rintro ⟨k, h1, h2⟩
      by_cases hk : k = n
      · subst hk; exact .inr h2
      · exact .inl ⟨k, by omega, h2⟩
theorem allHit_iff (p : Nat → Nat → Bool) : ∀ n, allHit p n = true ↔ ∃ i k, k < i ∧ i < n ∧ p i k = true
  | 0 => by simp [allHit]
  | n + 1 => by
    rw [allHit, Bool.or_eq_true, allHit_iff p n, rowHit_iff]
    constructor
    · rintro (⟨i, k, h1, h2, h3⟩ | ⟨k, h1, h2⟩)
      · exact ⟨i, k, h1, by omega, h3⟩
      · exact ⟨n, k, h1, by omega, h2⟩
    · rintro ⟨i, k, h1, h2, h3⟩
      by_cases hk : i = n
      · subst hk; exact .inr ⟨k, h1, h3⟩
      · exact .inl ⟨i, k, h1, by omega, h3⟩
def clashR (l : List NetAt) (order ts : List Int) (i k : Nat) : Bool :=
  ts.getD i 0 == ts.getD k 0 && meetFrom (refExt order ((l.map NetAt.cols).getD i [])) (refExt order ((l.map NetAt.cols).getD k [])) order.length 0
def layErrR (l : List NetAt) (n : Int) (order ts : List Int) : Int :=
  if Bus.bothErr (l.map NetAt.net) n order ≠ 0 then Bus.bothErr (l.map NetAt.net) n order else if ts.length ≠ l.length then 2 else if farB ts = true then 3 else if allHit (clashR l order ts) l.length = true then 30 else 0
theorem farB_iff (ts : List Int) : farB ts = true ↔ ∃ (k : Nat) (t : Int), ts[k]? = some t ∧ (t < 0 ∨ 64 ≤ t) := by
  unfold farB
  rw [List.any_eq_true]
  constructor
  · rintro ⟨t, h1, h2⟩
    obtain ⟨k, hk⟩ := List.mem_iff_getElem?.1 h1
    exact ⟨k, t, hk, by simpa using h2⟩
  · rintro ⟨k, t, h1, h2⟩
    exact ⟨t, List.mem_of_getElem? h1, by simpa using h2⟩

theorem both_cases (l : List Bus.Net) (n : Int) (order : List Int) : (Bus.netsErr l n ≠ 0 ∧ Bus.bothErr l n order = Bus.netsErr l n) ∨ (Bus.netsErr l n = 0 ∧ Bus.bothErr l n order = Bus.orderErr order n) := by
  unfold Bus.bothErr
  by_cases h : Bus.netsErr l n = 0
  · exact .inr ⟨h, by rw [if_neg (by omega)]⟩
  · exact .inl ⟨h, by rw [if_pos h]⟩

set_option maxHeartbeats 8000000 in
set_option maxRecDepth 100000 in
theorem refCheckLayout_bad (A A2 A3 : Option Addr) (c c2 c3 B : Nat) (l : List NetAt) (order ts : List Int) (n : Int) (w : World) (h : NetsIn w B A l) (h2 : Row w B A2 (order.map (Value.int .i64))) (hB : B ≤ w.heap.size) (hl : l.length ≤ 140737488355328) (hl2 : order.length ≤ 1000000) (hc2 : order.length ≤ c2) (E : Int) (hE : Bus.bothErr (l.map NetAt.net) n order = E) (h0 : E ≠ 0) :
    Calls Tryz.prog 18 #[.slice A l.length c, .int .i64 n, .agg #[.slice A2 order.length c2, .slice A3 ts.length c3]] w fun e w' => e = .returned (.int .i64 E) ∧ Below w.heap.size w w' := by
  have HN := Lib.hid (fun w' (hb : Below w.heap.size w w') => refNets_any A c B l n w' (h.below hb hB) (by have := hb.size; omega) hl)
  have HO := Lib.hid (fun w' (hb : Below w.heap.size w w') => refOrder_any A2 c2 B order n w' hl2 hc2 (h2.below hb hB) (by have := hb.size; omega))
  have hcase := both_cases (l.map NetAt.net) n order
  rw [hE] at hcase
  have hne : (E != 0) = true := by rw [bne_iff_ne]; exact h0
  have hne2 : (E == 0) = false := by rw [beq_eq_false_iff_ne]; exact h0
  generalize Bus.netsErr (l.map NetAt.net) n = e1 at *
  generalize Bus.orderErr order n = e2 at *
  have e0 := (Below.refl w.heap.size w).alloc (Nat.le_refl _) (.cells #[.slice A2 order.length c2, .slice A3 ts.length c3] 29)
  have d0 := Blk.new w 29 #[.slice A2 order.length c2, .slice A3 ts.length c3]
  clear h h2 hE
  rcases hcase with ⟨g1, g2⟩ | ⟨g1, g2⟩
  · subst g2
    have HNE := Lib.hid (HN.out _ e0)
    clear HN HO e2 g1
    go_enter Tryz.func18, Tryz.ntmps18
    go_wp2_with fail
    refine HNE.out.mono ?_
    rintro e w1 ⟨rfl, hb1⟩
    have e1 := below_after e0 hb1 (Nat.le_refl _)
    go_wp2_with fail
    go_ret
    exact ⟨rfl, e1⟩
  · subst g1; subst g2
    have HNE := Lib.hid (HN.out _ e0)
    clear HN
    go_enter Tryz.func18, Tryz.ntmps18
    go_wp2_with fail
    refine HNE.out.mono ?_
    rintro e w1 ⟨rfl, hb1⟩
    have e1 := below_after e0 hb1 (Nat.le_refl _)
    have d1 := keep_blk d0 hb1
    obtain ⟨f0, f1, _, _⟩ := d1.two
    have HOE := Lib.hid (HO.out _ e1)
    clear HO d0 hb1 e0
    go_wp2_with fail
    refine HOE.out.mono ?_
    rintro e w2 ⟨rfl, hb2⟩
    have e2 := below_after e1 hb2 (Nat.le_refl _)
    go_wp2_with fail
    go_ret
    exact ⟨rfl, e2⟩

set_option maxHeartbeats 8000000 in
set_option maxRecDepth 100000 in
theorem refCheckLayout_ok (A A2 A3 : Option Addr) (c c2 c3 B : Nat) (l : List NetAt) (order ts : List Int) (n : Int) (w : World) (h : NetsIn w B A l) (h2 : Row w B A2 (order.map (Value.int .i64))) (h3 : Row w B A3 (ts.map (Value.int .i64))) (hB : B ≤ w.heap.size) (hl : l.length ≤ 140737488355328) (hl2 : order.length ≤ 1000000) (hl3 : ts.length ≤ 1000000) (hc2 : order.length ≤ c2) (hE : Bus.bothErr (l.map NetAt.net) n order = 0) :
    Calls Tryz.prog 18 #[.slice A l.length c, .int .i64 n, .agg #[.slice A2 order.length c2, .slice A3 ts.length c3]] w fun e w' => e = .returned (.int .i64 (layErrR l n order ts)) ∧ Below w.heap.size w w' := by
  obtain ⟨z1, z2⟩ := both_zero hE
  have HN := Lib.hid (fun w' (hb : Below w.heap.size w w') => refNets_any A c B l n w' (h.below hb hB) (by have := hb.size; omega) hl)
  have HO := Lib.hid (fun w' (hb : Below w.heap.size w w') => refOrder_any A2 c2 B order n w' hl2 hc2 (h2.below hb hB) (by have := hb.size; omega))
  rw [z1] at HN
  rw [z2] at HO
  obtain ⟨n1, n97, l64, hcols⟩ := Bus.netsErr_zero z1
  obtain ⟨on, ond, oin⟩ := Bus.orderErr_zero z2
  rw [List.length_map] at l64
  have hol : order.length ≤ 1000 := by omega
  have HM := Lib.hid (fun (x y : NetAt) w' (hb : Below w.heap.size w w') (hx : Row w B x.loc (x.cols.map (Value.int .i64))) (hy : Row w B y.loc (y.cols.map (Value.int .i64))) (fx : x.cols.length ≤ 140737488355328) (fy : y.cols.length ≤ 140737488355328) => refMeet_any x y A2 c2 B order w' (hx.below hb hB) (hy.below hb hB) (h2.below hb hB) (by have := hb.size; omega) hol fx fy)
  obtain ⟨r, hr⟩ : ∃ r, layErrR l n order ts = r := ⟨_, rfl⟩
  rw [hr]
  unfold layErrR at hr
  rw [hE, if_neg (by decide)] at hr
  have H := Lib.hid h
  have H3 := Lib.hid h3
  have e0 := (Below.refl w.heap.size w).alloc (Nat.le_refl _) (.cells #[.slice A2 order.length c2, .slice A3 ts.length c3] 29)
  have d0 := Blk.new w 29 #[.slice A2 order.length c2, .slice A3 ts.length c3]
  have HNE := Lib.hid (HN.out _ e0)
  clear h h2 h3 hE z1 z2 n1 n97 hcols on ond oin HN
  go_enter Tryz.func18, Tryz.ntmps18
  go_wp2_with fail
  refine HNE.out.mono ?_
  rintro e w1 ⟨rfl, hb1⟩
  have e1 := below_after e0 hb1 (Nat.le_refl _)
  have d1 := keep_blk d0 hb1
  obtain ⟨f0, f1, _, _⟩ := d1.two
  have HOE := Lib.hid (HO.out _ e1)
  clear HO HNE d0 hb1 e0
  go_wp2_with fail
  refine HOE.out.mono ?_
  rintro e w2 ⟨rfl, hb2⟩
  have e2 := below_after e1 hb2 (Nat.le_refl _)
  have d2 := keep_blk d1 hb2
  obtain ⟨f0, f1, _, _⟩ := d2.two
  clear HOE d1 hb2 e1
  by_cases htl : ts.length = l.length
  · have hln : ((ts.length : Int) != (l.length : Int)) = false := by simp; omega
    rw [if_neg (by omega)] at hr
    have HTL := Lib.hid htl
    clear htl
    have s2 := e2.size
    have hG2 := d2.lt
    go_wp2_with fail
    go_loopw [8] (fun i wr => ∃ k : Nat, k ≤ ts.length ∧ i = .int .i64 k ∧ farB (ts.take k) = false ∧ Below w.heap.size w wr ∧ Blk wr w.heap.size 29 #[.slice A2 order.length c2, .slice A3 ts.length c3]) (fun i _ => ts.length - (intOf i).toNat)
    case atStart => exact ⟨0, Nat.zero_le _, rfl, rfl, e2, d2⟩
    case round =>
      obtain ⟨k, hk, rfl, hfk, eb, qb⟩ := hrel
      obtain ⟨f0, f1, _, _⟩ := qb.two
      have hszb := eb.size
      by_cases hlt : k < ts.length
      · obtain ⟨b, off, x, hA3, hbB, hx, hcx⟩ := H3.out.int k hlt
        have hA3' := hA3
        subst hA3
        have hcx2 := (eb.cell (p := ⟨b, off + k, none⟩) (by show b < _; omega)).trans hcx
        have hlt' : (k : Int) < (ts.length : Int) := by omega
        have hstep : farB (ts.take (k + 1)) = (farB (ts.take k) || (decide (x < 0) || decide (64 ≤ x))) := by
          rw [List.take_add_one, hx]; unfold farB; rw [List.any_append]; simp
        rw [hfk, Bool.false_or] at hstep
        have hhit : (decide (x < 0) || decide (64 ≤ x)) = true → farB ts = true := fun hh => (farB_iff ts).2 ⟨k, x, hx, by simpa using hh⟩
        clear hx hcx
        by_cases hx0 : x < 0
        · have hf := hhit (by simp [hx0])
          rw [if_pos hf] at hr
          have HR := Lib.hid hr
          clear hr hf hhit hstep hfk
          go_wp2_with fail
          all_goals (go_ret; exact ⟨ret_i64 HR.out, (by repeat (first | with_reducible exact Below.refl _ _ | with_reducible assumption | with_reducible refine Below.setCell ?_ (by first | omega | (simp; done) | (simp; omega)) _ | with_reducible refine below_drewN ?_ _ | with_reducible refine Below.drew ?_ | with_reducible refine Below.alloc ?_ (by first | omega | (simp; done) | (simp; omega)) _ | with_reducible refine below_after ?_ (by assumption) (by first | omega | (simp; done) | (simp; omega))))⟩)
        · by_cases hx64 : 64 ≤ x
          · have hf := hhit (by simp [hx64])
            rw [if_pos hf] at hr
            have HR := Lib.hid hr
            clear hr hf hhit hstep hfk
            go_wp2_with fail
            all_goals (go_ret; exact ⟨ret_i64 HR.out, (by repeat (first | with_reducible exact Below.refl _ _ | with_reducible assumption | with_reducible refine Below.setCell ?_ (by first | omega | (simp; done) | (simp; omega)) _ | with_reducible refine below_drewN ?_ _ | with_reducible refine Below.drew ?_ | with_reducible refine Below.alloc ?_ (by first | omega | (simp; done) | (simp; omega)) _ | with_reducible refine below_after ?_ (by assumption) (by first | omega | (simp; done) | (simp; omega))))⟩)
          · have HS := Lib.hid (show farB (ts.take (k + 1)) = false by rw [hstep]; simp; omega)
            clear hhit hstep hfk hr
            go_wp2_with fail
            go_roundw
            case rel => exact ⟨k + 1, by omega, by go_num, HS.out, eb, qb⟩
            case measure => simp [intOf]; omega
      · obtain rfl : k = ts.length := by omega
        rw [List.take_length] at hfk
        rw [if_neg (by rw [hfk]; decide)] at hr
        have HR := Lib.hid hr
        clear hr hfk
        obtain ⟨W, hW⟩ : ∃ W, wr = W := ⟨_, rfl⟩
        rw [hW] at eb qb hszb f0 f1 ⊢
        clear hW
        go_wp2_with fail
        go_loopw [9] (fun i wr => ∃ k : Nat, k ≤ l.length ∧ i = .int .i64 k ∧ allHit (clashR l order ts) k = false ∧ Below w.heap.size w wr ∧ Blk wr w.heap.size 29 #[.slice A2 order.length c2, .slice A3 ts.length c3]) (fun i _ => l.length - (intOf i).toNat)
        case atStart => exact ⟨0, Nat.zero_le _, rfl, rfl, eb, qb⟩
        case round =>
          obtain ⟨k, hk, rfl, hak, ek, qk⟩ := hrel
          have hszk := ek.size
          by_cases hlk : k < l.length
          · obtain ⟨W2, hW⟩ : ∃ W, wr = W := ⟨_, rfl⟩
            rw [hW] at ek qk hszk ⊢
            clear hW
            have HAK := Lib.hid hak
            clear hak
            go_wp2_with fail
            go_loopw [10] (fun i wz => ∃ j : Nat, j ≤ k ∧ i = .int .i64 j ∧ rowHit (clashR l order ts k) j = false ∧ Below w.heap.size w wz ∧ Blk wz w.heap.size 29 #[.slice A2 order.length c2, .slice A3 ts.length c3]) (fun i _ => k - (intOf i).toNat)
            case atStart => exact ⟨0, Nat.zero_le _, rfl, rfl, ek, qk⟩
            case round =>
              obtain ⟨j, hj, rfl, hrj, ez, qz⟩ := hrel
              have hszz := ez.size
              obtain ⟨f0, f1, _, _⟩ := qz.two
              by_cases hlj : j < k
              · obtain ⟨b, off, x, hA3, hbB, hx, hcx⟩ := H3.out.int k (by rw [HTL.out]; omega)
                obtain ⟨b', off', y, hA3', _, hy, hcy⟩ := H3.out.int j (by rw [HTL.out]; omega)
                subst hA3
                injection hA3' with hA3'; injection hA3' with h1 h2; subst h1; subst h2
                have hcx2 := (ez.cell (p := ⟨b, off + k, none⟩) (by show b < _; omega)).trans hcx
                have hcy2 := (ez.cell (p := ⟨b, off + j, none⟩) (by show b < _; omega)).trans hcy
                have gx : ts.getD k 0 = x := by rw [List.getD_eq_getElem?_getD, hx]; rfl
                have gy : ts.getD j 0 = y := by rw [List.getD_eq_getElem?_getD, hy]; rfl
                obtain ⟨bn, offn, nx, hAn, hbn, hnx, cn0, cn1, rn, fn, _, _⟩ := H.out.net k hlk
                obtain ⟨bn', offn', ny, hAn', _, hny, dn0, dn1, rn', fn', _, _⟩ := H.out.net j (by omega)
                subst hAn
                injection hAn' with hAn'; injection hAn' with h1 h2; subst h1; subst h2
                have cn0' := (ez.cell (p := ⟨bn, offn + k * 2, none⟩) (by show bn < _; omega)).trans cn0
                have cn1' := (ez.cell (p := ⟨bn, offn + k * 2 + 1, none⟩) (by show bn < _; omega)).trans cn1
                have dn0' := (ez.cell (p := ⟨bn, offn + j * 2, none⟩) (by show bn < _; omega)).trans dn0
                have dn1' := (ez.cell (p := ⟨bn, offn + j * 2 + 1, none⟩) (by show bn < _; omega)).trans dn1
                have hkt : (k : Int) < (ts.length : Int) := by rw [HTL.out]; omega
                have hjt : (j : Int) < (ts.length : Int) := by rw [HTL.out]; omega
                have hkl : (k : Int) < (l.length : Int) := by omega
                have hjl : (j : Int) < (l.length : Int) := by omega
                have hcl : clashR l order ts k j = (x == y && meetFrom (refExt order nx.cols) (refExt order ny.cols) order.length 0) := by
                  unfold clashR; rw [gx, gy]; simp only [List.getD_eq_getElem?_getD, List.getElem?_map, hnx, hny, Option.map_some, Option.getD_some]
                have HST := Lib.hid (show rowHit (clashR l order ts k) (j + 1) = (x == y && meetFrom (refExt order nx.cols) (refExt order ny.cols) order.length 0) by rw [rowHit, hrj, Bool.false_or, hcl])
                have HMM := Lib.hid (fun w' (hb : Below w.heap.size w w') => HM.out nx ny w' hb rn rn' fn fn')
                have HIT := Lib.hid (fun (hh : clashR l order ts k j = true) => (allHit_iff (clashR l order ts) l.length).2 ⟨k, j, hlj, hlk, hh⟩)
                rw [hcl] at HIT
                clear hx hy hcx hcy gx gy cn0 cn1 dn0 dn1 hnx hny hcl hrj rn rn' fn fn'
                unfold netV at HMM
                by_cases hxy : x = y
                · have hbe : (x == y) = true := by rw [beq_iff_eq]; exact hxy
                  rw [hbe, Bool.true_and] at HST HIT
                  go_wp2_with fail
                  go_still_tail 22, (by kernel_rfl)
                  have ezd := ez.drew
                  have qzd := qz.drew
                  have k0 : wr.drew.cell? ⟨b, off + k, none⟩ = some (.int .i64 x) := hcx2
                  have k1 : wr.drew.cell? ⟨b, off + j, none⟩ = some (.int .i64 y) := hcy2
                  have k2 : wr.drew.cell? ⟨bn, offn + k * 2, none⟩ = some (.int .i64 nx.sh) := cn0'
                  have k3 : wr.drew.cell? ⟨bn, offn + k * 2 + 1, none⟩ = some (.slice nx.loc nx.cols.length nx.cap) := cn1'
                  have k4 : wr.drew.cell? ⟨bn, offn + j * 2, none⟩ = some (.int .i64 ny.sh) := dn0'
                  have k5 : wr.drew.cell? ⟨bn, offn + j * 2 + 1, none⟩ = some (.slice ny.loc ny.cols.length ny.cap) := dn1'
                  have k6 : wr.drew.cell? ⟨w.heap.size, 0, none⟩ = some (.slice A2 order.length c2) := f0
                  have k7 : wr.drew.cell? ⟨w.heap.size, 1, none⟩ = some (.slice (some ⟨b, off, none⟩) ts.length c3) := f1
                  have HMW := Lib.hid (HMM.out _ ezd)
                  change wpList _ _ _ _ _ wr.drew
                  clear HMM hcx2 hcy2 cn0' cn1' dn0' dn1' f0 f1 ez qz
                  generalize wr.drew = W5 at k0 k1 k2 k3 k4 k5 k6 k7 ezd qzd HMW ⊢
                  generalize meetFrom (refExt order nx.cols) (refExt order ny.cols) order.length 0 = hit at *
                  go_wp2_with (first
                    | (go_at_call 55; refine HMW.out.mono ?_; rintro e w6 ⟨rfl, hb6⟩))
                  · rename_i hmt
                    have e6 := below_after ezd hb6 (Nat.le_refl _)
                    have hq := HR.out
                    rw [if_pos (HIT.out hmt)] at hq
                    have HQ := Lib.hid hq
                    clear hq
                    go_ret
                    exact ⟨ret_i64 HQ.out, e6⟩
                  · rename_i hmt
                    have e6 := below_after ezd hb6 (Nat.le_refl _)
                    exact ⟨⟨j + 1, by omega, by go_num, HST.out.trans hmt, e6, keep_blk qzd hb6⟩, by simp [intOf]; omega⟩
                · have hbe : (x == y) = false := by rw [beq_eq_false_iff_ne]; exact hxy
                  rw [hbe, Bool.false_and] at HST
                  go_wp2_with fail
                  go_quiet (fail)
                  go_wp2_with fail
                  go_roundw
                  case rel => exact ⟨j + 1, by omega, by go_num, HST.out, (by repeat (first | with_reducible exact Below.refl _ _ | with_reducible assumption | with_reducible refine Below.setCell ?_ (by first | omega | (simp; done) | (simp; omega)) _ | with_reducible refine below_drewN ?_ _ | with_reducible refine Below.drew ?_ | with_reducible refine Below.alloc ?_ (by first | omega | (simp; done) | (simp; omega)) _ | with_reducible refine below_after ?_ (by assumption) (by first | omega | (simp; done) | (simp; omega)))), by first | exact qz | exact qz.drew⟩
                  case measure => simp [intOf]; omega
              · obtain rfl : k = j := by omega
                have HC2 := Lib.hid (show allHit (clashR l order ts) (k + 1) = false by rw [allHit, HAK.out, hrj]; rfl)
                go_wp2_with fail
                go_roundw
                case rel => exact ⟨k + 1, by omega, by go_num, HC2.out, ez, qz⟩
                case measure => simp [intOf]; omega
          · obtain rfl : k = l.length := by omega
            have hq := HR.out
            rw [if_neg (by rw [hak]; decide)] at hq
            have HQ := Lib.hid hq
            clear hq
            go_wp2_with fail
            go_ret
            exact ⟨ret_i64 HQ.out, ek⟩
  · have hln : ((ts.length : Int) != (l.length : Int)) = true := by simp; omega
    rw [if_pos (by omega)] at hr
    have HR := Lib.hid hr
    clear hr
    go_wp2_with fail
    go_ret
    exact ⟨ret_i64 HR.out, e2⟩
end Go.Proofs.YtbldpojkpmafpaaGreatDoor

/- Package bus and its reference: they say the same of layouts and of cliques (plain law). -/
namespace Go.Proofs.YtbldpojkpmafpaaGreatDoor
open Go.RowKit

theorem foldMin (f : Int → Int) : ∀ (l : List Int) (a : Int), l.foldl (fun l c => min l (f c)) a ≤ a ∧ (∀ c ∈ l, l.foldl (fun l c => min l (f c)) a ≤ f c) ∧ ∀ m, m ≤ a → (∀ c ∈ l, m ≤ f c) → m ≤ l.foldl (fun l c => min l (f c)) a
  | [], a => ⟨Int.le_refl _, fun c h => (by cases h), fun m h _ => h⟩
  | d :: r, a => by
    obtain ⟨h1, h2, h3⟩ := foldMin f r (min a (f d))
    simp only [List.foldl_cons]
    refine ⟨by omega, fun c hc => ?_, fun m hm hall => h3 m (by have := hall d List.mem_cons_self; omega) fun c hc => hall c (List.mem_cons_of_mem _ hc)⟩
    rcases List.mem_cons.1 hc with rfl | hc
    · omega
    · exact h2 c hc
theorem foldMax (f : Int → Int) : ∀ (l : List Int) (a : Int), a ≤ l.foldl (fun h c => max h (f c)) a ∧ (∀ c ∈ l, f c ≤ l.foldl (fun h c => max h (f c)) a) ∧ ∀ m, a ≤ m → (∀ c ∈ l, f c ≤ m) → l.foldl (fun h c => max h (f c)) a ≤ m
  | [], a => ⟨Int.le_refl _, fun c h => (by cases h), fun m h _ => h⟩
  | d :: r, a => by
    obtain ⟨h1, h2, h3⟩ := foldMax f r (max a (f d))
    simp only [List.foldl_cons]
    refine ⟨by omega, fun c hc => ?_, fun m hm hall => h3 m (by have := hall d List.mem_cons_self; omega) fun c hc => hall c (List.mem_cons_of_mem _ hc)⟩
    rcases List.mem_cons.1 hc with rfl | hc
    · omega
    · exact h2 c hc

theorem valid_ext {l : List NetAt} {n : Int} {order : List Int} (hE : Bus.bothErr (l.map NetAt.net) n order = 0) (i : Nat) (hi : i < l.length) :
    (Bus.exts (Bus.atUp order order.length) (l.map NetAt.net)).getD i (0, 0) = refExt order ((l.map NetAt.cols).getD i []) ∧ 0 ≤ (refExt order ((l.map NetAt.cols).getD i [])).1 ∧ (refExt order ((l.map NetAt.cols).getD i [])).1 ≤ (refExt order ((l.map NetAt.cols).getD i [])).2 ∧
      (refExt order ((l.map NetAt.cols).getD i [])).2 < order.length := by
  obtain ⟨z1, z2⟩ := both_zero hE
  obtain ⟨n1, n97, l64, hcols⟩ := Bus.netsErr_zero z1
  obtain ⟨on, ond, oin⟩ := Bus.orderErr_zero z2
  have hall : ∀ c, 0 ≤ c → c < n → c ∈ order := fun c h0 h1 => has_all order.length order ond rfl (fun d hd => by have := oin d hd; omega) c h0 (by omega)
  obtain ⟨x, hx⟩ : ∃ x, l[i]? = some x := ⟨_, List.getElem?_eq_getElem hi⟩
  have hxm : x ∈ l := List.mem_of_getElem? hx
  have hc1 : (l.map NetAt.cols).getD i [] = x.cols := by simp only [List.getD_eq_getElem?_getD, List.getElem?_map, hx, Option.map_some, Option.getD_some]
  have hne := (hcols x.net (List.mem_map_of_mem hxm)).1
  have hin := (hcols x.net (List.mem_map_of_mem hxm)).2
  have hxe := ref_ext (order := order) (cols := x.cols) (n := n) ond on hne hin hall n97
  rw [hc1]
  have e1 : refExt order x.cols = Bus.ext (fun c => Bus.atUp order order.length c.toNat) x.cols := hxe
  have hp : ∀ c ∈ x.cols, 0 ≤ Bus.pos order c ∧ Bus.pos order c < order.length := fun c hc => Bus.pos_bd (hall c (hin c hc).1 (hin c hc).2)
  have hlow : Bus.refLow (Bus.pos order) (-1) x.cols = (Bus.ext (Bus.pos order) x.cols).1 := Bus.refLow_ext _ _ hne fun c hc => by have := hp c hc; omega
  obtain ⟨m1, m2, m3⟩ := foldMin (Bus.pos order) x.cols 97
  obtain ⟨k1, k2, k3⟩ := foldMax (Bus.pos order) x.cols (-1)
  obtain ⟨c0, hc0⟩ : ∃ c, c ∈ x.cols := List.exists_mem_of_ne_nil _ hne
  have hlo : (refExt order x.cols).1 = x.cols.foldl (fun l c => min l (Bus.pos order c)) 97 := hlow
  have hhi : (refExt order x.cols).2 = x.cols.foldl (fun h c => max h (Bus.pos order c)) (-1) := rfl
  refine ⟨?_, ?_, ?_, ?_⟩
  · rw [e1]
    simp [Bus.exts, hx, NetAt.net]
  · rw [hlo]; exact m3 0 (by omega) fun c hc => (hp c hc).1
  · rw [hlo, hhi]; exact Int.le_trans (m2 c0 hc0) (k2 c0 hc0)
  · rw [hhi]
    have hpos : (0 : Int) < order.length := by omega
    have := k3 (order.length - 1) (by omega) fun c hc => by have := (hp c hc).2; omega
    omega
theorem valid_meet {l : List NetAt} {n : Int} {order : List Int} (hE : Bus.bothErr (l.map NetAt.net) n order = 0) (i k : Nat) (hi : i < l.length) (hk : k < l.length) :
    meetB (Bus.exts (Bus.atUp order order.length) (l.map NetAt.net)) i k = meetFrom (refExt order ((l.map NetAt.cols).getD i [])) (refExt order ((l.map NetAt.cols).getD k [])) order.length 0 := by
  obtain ⟨a1, a2, a3, a4⟩ := valid_ext hE i hi
  obtain ⟨b1, b2, b3, b4⟩ := valid_ext hE k hk
  rw [meetFrom_eq _ _ _ ⟨a2, a3, a4⟩ ⟨b2, b3, b4⟩]
  unfold meetB
  rw [a1, b1]

theorem allHit_congr {p q : Nat → Nat → Bool} {n : Nat} (h : ∀ i k, k < i → i < n → p i k = q i k) : allHit p n = allHit q n := by
  rw [Bool.eq_iff_iff, allHit_iff, allHit_iff]
  exact ⟨fun ⟨i, k, h1, h2, h3⟩ => ⟨i, k, h1, h2, by rw [← h i k h1 h2]; exact h3⟩, fun ⟨i, k, h1, h2, h3⟩ => ⟨i, k, h1, h2, by rw [h i k h1 h2]; exact h3⟩⟩
theorem confRow_hit (xs : List (Int × Int)) (ts : List Int) (i : Nat) : ∀ k, confRow xs ts i k = rowHit (fun k => ts.getD i 0 == ts.getD k 0 && meetB xs i k) k
  | 0 => rfl
  | k + 1 => by rw [confRow, rowHit, confRow_hit xs ts i k]
theorem conf_hit (xs : List (Int × Int)) (ts : List Int) : ∀ n, conf xs ts n = allHit (fun i k => ts.getD i 0 == ts.getD k 0 && meetB xs i k) n
  | 0 => rfl
  | n + 1 => by rw [conf, allHit, conf_hit xs ts n, confRow_hit]

theorem lay_same (l : List NetAt) (n : Int) (order ts : List Int) : layErr (l.map NetAt.net) n order ts = layErrR l n order ts := by
  unfold layErr layErrR
  by_cases hE : Bus.bothErr (l.map NetAt.net) n order = 0
  · have h0 : ¬ Bus.bothErr (l.map NetAt.net) n order ≠ 0 := fun h => h hE
    rw [if_neg h0, if_neg h0, List.length_map, conf_hit]
    rw [allHit_congr (q := clashR l order ts) fun i k h1 h2 => by unfold clashR; rw [valid_meet hE i k h2 (by omega)]]
  · rw [if_pos hE, if_pos hE]
end Go.Proofs.YtbldpojkpmafpaaGreatDoor

/- The reference of package bus: Extent, Meet, covers as contracts on plain data; Clique. -/
namespace Go.Proofs.YtbldpojkpmafpaaGreatDoor
open Go.RowKit Sv
set_option maxRecDepth 100000
set_option linter.unusedVariables false
noncomputable section
abbrev tN : Ty := .pair (.int .i64) (.list false (.int .i64))
--{
--}

abbrev ob (j : Nat) (l : List Int) : AV := .osl 3 (.int .i64) j 0 l.length (capOf l.length)
abbrev oe (l : List Int) : Ent := .opt 3 (.int .i64) l
--{
theorem goalL_blk {P : Program} {w0 : World} {F : Env} {n : Nat} {T : Tr AV} {H : AHeap} {Q : Exit → Tr AV → AHeap → Prop} {l rest : List Code} {id : Nat} {c : Code} (hl : l = .block id c :: rest)
    (h : GoalL P w0 F n (flatC c) T H (inB id (onN (fun T H => GoalL P w0 F n rest T H Q) Q))) : GoalL P w0 F n l T H Q := by
  subst hl
  exact Goal.block (x := c) rfl (goal_flat h)
theorem cap_snoc (l : List Int) (x : Int) : Cap.full = capOf (l ++ [x]).length := by simp [capOf]
--}
end
end Go.Proofs.YtbldpojkpmafpaaGreatDoor

/- Package bus, with no program in sight: the tracks of the left ends in their order are the tracks that the reference finds. -/
namespace Go.Proofs.YtbldpojkpmafpaaGreatDoor
open Go.RowKit

def Lo (K : Nat → Int) (a b : Nat) : Prop := K a < K b ∨ K a = K b ∧ a < b
theorem Lo.trans {K : Nat → Int} {a b c : Nat} (h1 : Lo K a b) (h2 : Lo K b c) : Lo K a c := by
  unfold Lo at *; omega
theorem Lo.asymm {K : Nat → Int} {a b : Nat} (h1 : Lo K a b) (h2 : Lo K b a) : False := by
  unfold Lo at *; omega
def hit (meet : Nat → Nat → Bool) (out : List Int) (dn : List Nat) (i : Nat) : Bool := dn.any fun j => out.getD j 0 == out.getD i 0 && meet j i
def place (meet : Nat → Nat → Bool) (dn : List Nat) (i : Nat) : Nat → List Int → List Int
  | 0, out => out
  | m + 1, out => if hit meet out dn i = true then place meet dn i m (out.set i (out.getD i 0 + 1)) else out
theorem getD_set_ne {l : List Int} {i j : Nat} {x : Int} (h : i ≠ j) : (l.set i x).getD j 0 = l.getD j 0 := by simp [List.getD_eq_getElem?_getD, List.getElem?_set_ne h]
theorem cnt_spec (l : List Int) : ∀ k, k ≤ l.length → ∃ D : List Int, D.Nodup ∧ D.length = cntUp l k ∧ ∀ v, v ∈ D ↔ v ∈ l.take k
  | 0, _ => ⟨[], List.nodup_nil, rfl, fun v => by simp⟩
  | k + 1, hk => by
    obtain ⟨D, h1, h2, h3⟩ := cnt_spec l k (by omega)
    unfold cntUp
    split
    · rename_i h
      refine ⟨D, h1, h2, fun v => ?_⟩
      rw [h3, take_next hk, List.mem_append, List.mem_singleton]
      exact ⟨.inl, fun g => g.elim id fun e => e ▸ h⟩
    · rename_i h
      refine ⟨l.getD k 0 :: D, List.nodup_cons.2 ⟨fun g => h ((h3 _).1 g), h1⟩, by simp [h2], fun v => ?_⟩
      rw [take_next hk, List.mem_append, List.mem_singleton, List.mem_cons, h3]
      exact ⟨fun g => g.elim .inr .inl, fun g => g.elim .inr .inl⟩
theorem nodup_map_cast (m : Nat) : ((List.range m).map fun (x : Nat) => (x : Int)).Nodup := by
  unfold List.Nodup
  rw [List.pairwise_map]
  exact (List.nodup_range (n := m)).imp fun h e => h (Int.ofNat.inj e)
end Go.Proofs.YtbldpojkpmafpaaGreatDoor

/- The reference of package bus: Tracks. -/
namespace Go.Proofs.YtbldpojkpmafpaaGreatDoor
open Go.RowKit Sv
set_option maxRecDepth 100000
set_option linter.unusedVariables false
noncomputable section
def lowR (nets : List (Int × List Int)) (order : List Int) (i : Nat) : Int := Bus.refLow (Bus.pos order) (-1) (nets.getD i (0, [])).2
structure Far (nets : List (Int × List Int)) (order : List Int) (p i : Nat) (out : List Int) (dn : List Nat) : Prop where
  len : out.length = nets.length
  few : dn.length ≤ p * nets.length + i
  mem : ∀ j ∈ dn, j < nets.length ∧ 0 ≤ out.getD j 0 ∧ out.getD j 0 < dn.length ∧ (lowR nets order j < p ∨ lowR nets order j = p ∧ j < i)
  rest : ∀ j, j ∉ dn → out.getD j 0 = 0
theorem Far.next {nets : List (Int × List Int)} {order : List Int} {p : Nat} {out : List Int} {dn : List Nat} (h : Far nets order p nets.length out dn) : Far nets order (p + 1) 0 out dn :=
  ⟨h.len, by have := h.few; rw [Nat.add_mul]; omega, fun j hj => by obtain ⟨g1, g2, g3, g4⟩ := h.mem j hj; exact ⟨g1, g2, g3, by omega⟩, h.rest⟩
theorem goalL_nil {P : Program} {w0 : World} {F : Env} {n : Nat} {T : Tr AV} {H : AHeap} {Q : Exit → Tr AV → AHeap → Prop} {l : List Code} (e : l = []) (h : Q .normal T H) : GoalL P w0 F n l T H Q := by
  rw [e]; exact h
end
end Go.Proofs.YtbldpojkpmafpaaGreatDoor

/- Package bus: Tracks, Clique as contracts on plain data. -/
namespace Go.Proofs.YtbldpojkpmafpaaGreatDoor
open Go.RowKit Sv
set_option maxRecDepth 100000
set_option linter.unusedVariables false
noncomputable section
abbrev extsOf (nets : List (Int × List Int)) (order : List Int) : List (Int × Int) := Bus.exts (Bus.atUp order order.length) nets
end
end Go.Proofs.YtbldpojkpmafpaaGreatDoor

/- integraphlaw07.awake: it returns true in every world, and leaves what lay there: the kernel runs it. -/
namespace Go.Proofs.YtbldpojkpmafpaaGreatDoor
open Go.RowKit Sv

set_option maxRecDepth 1000000
theorem awake_runs : okv (acall Tryz.prog (acode Tryz.prog (sdraw Tryz.prog noS) 400) 8 [] H64) = true := by kernel_rfl
theorem awake_calls (w : World) : Calls Tryz.prog 8 #[] w fun e w' => e = .returned (.bool true) ∧ Below w.heap.size w w' := opened known mixed 400 awake_runs w
end Go.Proofs.YtbldpojkpmafpaaGreatDoor

/- Of integraphlaw07: what the laws share: awake; facts on plain data. -/
namespace Go.Proofs.YtbldpojkpmafpaaGreatDoor
open Go.RowKit Sv
set_option maxRecDepth 100000
set_option linter.unusedVariables false
noncomputable section
noncomputable def cAwake : Ctr := { f := 8, ps := [], rs := [.bool], fresh := true, pre := fun _ => true, fn := fun _ => (true, ()) }
--{
theorem cAwake_ok : cAwake.Ok Tryz.prog := fun _ _ => holds_raw fun w F xs hF hd => by
  cases hd
  exact awake_calls w
def mkNets (nets : List (Int × List Int)) : List NetAt := nets.map fun x => ⟨x.1, x.2, none, 0⟩
theorem mkNets_net (nets : List (Int × List Int)) : (mkNets nets).map NetAt.net = nets := by
  unfold mkNets
  rw [List.map_map]
  exact List.map_id _
theorem ext_at {nets : List (Int × List Int)} {n : Int} {order : List Int} (hE : Bus.bothErr nets n order = 0) (i : Nat) (hi : i < nets.length) :
    (extsOf nets order).getD i (0, 0) = refExt order (nets.getD i (0, [])).2 ∧ 0 ≤ (refExt order (nets.getD i (0, [])).2).1 ∧ (refExt order (nets.getD i (0, [])).2).1 ≤ (refExt order (nets.getD i (0, [])).2).2 ∧ (refExt order (nets.getD i (0, [])).2).2 < order.length := by
  have h := valid_ext (l := mkNets nets) (n := n) (order := order) (by rw [mkNets_net]; exact hE) i (by unfold mkNets; simpa using hi)
  have e : ((mkNets nets).map NetAt.cols).getD i [] = (nets.getD i (0, [])).2 := by
    unfold mkNets
    simp only [List.getD_eq_getElem?_getD, List.getElem?_map, List.getElem?_eq_getElem hi, Option.map_some, Option.getD_some]
  rw [mkNets_net, e] at h
  exact h
theorem extsOf_len (nets : List (Int × List Int)) (order : List Int) : (extsOf nets order).length = nets.length := by simp [Bus.exts]
theorem both_iff {nets : List (Int × List Int)} {n : Int} {order : List Int} : Bus.bothErr nets n order = 0 ↔ Bus.netsErr nets n = 0 ∧ Bus.orderErr order n = 0 := by
  unfold Bus.bothErr
  split
  · rename_i h; exact ⟨fun e => absurd e h, fun e => absurd e.1 h⟩
  · rename_i h; exact ⟨fun e => ⟨Classical.not_not.1 h, e⟩, fun e => e.2⟩
--}
end
end Go.Proofs.YtbldpojkpmafpaaGreatDoor

/- Package bus, plain: the tracks are a layout, as many as the nets of the clique; any layout has at least so many. -/
namespace Go.Proofs.YtbldpojkpmafpaaGreatDoor
open Go.RowKit Sv
set_option linter.unusedVariables false

section
variable {nets : List (Int × List Int)} {n : Int} {order : List Int}
theorem lay_zero {ts : List Int} (hE : Bus.bothErr nets n order = 0) (h : layErr nets n order ts = 0) : ts.length = nets.length ∧ (∀ t ∈ ts, 0 ≤ t ∧ t < 64) ∧ conf (extsOf nets order) ts nets.length = false := by
  unfold layErr at h
  rw [if_neg (fun g => g hE)] at h
  by_cases h1 : ts.length ≠ nets.length
  · rw [if_pos h1] at h; cases h
  · rw [if_neg h1] at h
    by_cases h2 : farB ts = true
    · rw [if_pos h2] at h; cases h
    · rw [if_neg h2] at h
      by_cases h3 : conf (extsOf nets order) ts nets.length = true
      · rw [if_pos h3] at h; cases h
      · refine ⟨Classical.not_not.1 h1, fun t ht => ?_, by simpa using h3⟩
        unfold farB at h2
        rw [List.any_eq_true] at h2
        by_cases hh : 0 ≤ t ∧ t < 64
        · exact hh
        · exact absurd ⟨t, ht, by rw [Bool.or_eq_true, decide_eq_true_eq, decide_eq_true_eq]; omega⟩ h2
end
end Go.Proofs.YtbldpojkpmafpaaGreatDoor

/- Package bus and its reference: CheckLayout, CheckClique, Width as contracts on plain data. -/
namespace Go.Proofs.YtbldpojkpmafpaaGreatDoor
open Go.RowKit Sv
set_option maxRecDepth 100000
set_option linter.unusedVariables false
theorem refCheckLayout_any (A A2 A3 : Option Addr) (c c2 c3 B : Nat) (l : List NetAt) (order ts : List Int) (n : Int) (w : World) (h : NetsIn w B A l) (h2 : Row w B A2 (order.map (Value.int .i64))) (h3 : Row w B A3 (ts.map (Value.int .i64))) (hB : B ≤ w.heap.size) (hl : l.length ≤ 140737488355328) (hl2 : order.length ≤ 1000000) (hl3 : ts.length ≤ 1000000) (hc2 : order.length ≤ c2) :
    Calls Tryz.prog 18 #[.slice A l.length c, .int .i64 n, .agg #[.slice A2 order.length c2, .slice A3 ts.length c3]] w fun e w' => e = .returned (.int .i64 (layErrR l n order ts)) ∧ Below w.heap.size w w' := by
  by_cases hE : Bus.bothErr (l.map NetAt.net) n order = 0
  · exact refCheckLayout_ok A A2 A3 c c2 c3 B l order ts n w h h2 h3 hB hl hl2 hl3 hc2 hE
  · have := refCheckLayout_bad A A2 A3 c c2 c3 B l order ts n w h h2 hB hl hl2 hc2 _ rfl hE
    unfold layErrR
    rw [if_pos hE]
    exact this
noncomputable section
abbrev yv (a b : List Int) : AV := .agg [lv a, lv b]
def okLay (nets : List (Int × List Int)) (order ts : List Int) : Bool := goodB nets && (decide (nets.length ≤ 1000) && (decide (order.length ≤ 1000) && (order.all (fun c => decide (I64 c)) && decide (ts.length ≤ 1000))))
theorem okLay_iff {nets : List (Int × List Int)} {order ts : List Int} (h : okLay nets order ts = true) : GoodNets nets ∧ nets.length ≤ 1000 ∧ order.length ≤ 1000 ∧ (∀ c ∈ order, I64 c) ∧ ts.length ≤ 1000 := by
  unfold okLay at h
  simp only [Bool.and_eq_true, decide_eq_true_eq, List.all_eq_true] at h
  obtain ⟨h1, h2, h3, h4, h5⟩ := h
  exact ⟨goodB_iff.1 h1, h2, h3, h4, h5⟩
noncomputable def cLayB : Ctr := { f := 51, ps := [.list false tN, .int .i64, .pair (.list false (.int .i64)) (.list false (.int .i64))], rs := [.int .i64], fresh := true, pre := fun d => okLay d.1 d.2.2.1.1 d.2.2.1.2, fn := fun d => (layErr d.1 d.2.1 d.2.2.1.1 d.2.2.1.2, ()) }
theorem dens_lay {F : Env} {w : World} {nets : List (Int × List Int)} {n : Int} {order ts : List Int} {xs : List Value} (hF : OkF w F) (hg : GoodNets nets) (hd : Dens F [nv nets, iv n, yv order ts] xs) :
    ∃ (A A2 A3 : Option Addr) (c c2 c3 : Nat) (l : List NetAt), xs = [.slice A l.length c, .int .i64 n, .agg #[.slice A2 order.length c2, .slice A3 ts.length c3]] ∧ l.map NetAt.net = nets ∧ NetsIn w w.heap.size A l ∧ Row w w.heap.size A2 (order.map (Value.int .i64)) ∧ Row w w.heap.size A3 (ts.map (Value.int .i64)) ∧ order.length ≤ c2 ∧ ts.length ≤ c3 := by
  cases hd with
  | cons d1 d2 =>
    cases d2 with
    | cons d2 d3 =>
      cases d3 with
      | cons d3 d4 =>
        cases d4
        obtain ⟨A, c, l, rfl, h1, h2⟩ := den_nets hF hg d1
        obtain ⟨ys, e1, rfl⟩ := Den.agg_inv (cs := [lv order, lv ts]) d3
        cases e1 with
        | cons e1 e2 =>
          cases e2 with
          | cons e2 e3 =>
            cases e3
            obtain ⟨A2, c2, rfl, hc2, h3⟩ := den_ints hF e1
            obtain ⟨A3, c3, rfl, hc3, h4⟩ := den_ints hF e2
            exact ⟨A, A2, A3, c, c2, c3, l, by rw [d2.raw_eq], h1, h2, h3, h4, hc2, hc3⟩
theorem cLayB_holds (nets : List (Int × List Int)) (n : Int) (order ts : List Int) (h : okLay nets order ts = true) : Holds Tryz.prog true 51 [nv nets, iv n, yv order ts] (iv (layErr nets n order ts)) := holds_raw fun w F xs hF hd => by
  obtain ⟨h1, h2, h3, h4, h5⟩ := okLay_iff h
  obtain ⟨A, A2, A3, c, c2, c3, l, rfl, hl, hN, hR, hS, q2, q3⟩ := dens_lay hF h1 hd
  have hll : l.length = nets.length := by rw [← hl, List.length_map]
  have := CheckLayout_any A A2 A3 c c2 c3 w.heap.size l order ts n w hN hR hS h4 (Nat.le_refl _) (by omega) (by omega) (by omega)
  rw [hl] at this
  exact this
theorem cLayB_ok : cLayB.Ok Tryz.prog := fun ⟨nets, n, ⟨order, ts⟩, _⟩ h => cLayB_holds nets n order ts h
theorem cLayR_holds (nets : List (Int × List Int)) (n : Int) (order ts : List Int) (h : okLay nets order ts = true) : Holds Tryz.prog true 18 [nv nets, iv n, yv order ts] (iv (layErr nets n order ts)) := holds_raw fun w F xs hF hd => by
  obtain ⟨h1, h2, h3, h4, h5⟩ := okLay_iff h
  obtain ⟨A, A2, A3, c, c2, c3, l, rfl, hl, hN, hR, hS, q2, q3⟩ := dens_lay hF h1 hd
  have hll : l.length = nets.length := by rw [← hl, List.length_map]
  have := refCheckLayout_any A A2 A3 c c2 c3 w.heap.size l order ts n w hN hR hS (Nat.le_refl _) (by omega) (by omega) (by omega) (by omega)
  rw [← lay_same, hl] at this
  exact this
def BWidth : Code := (Tryz.f27.body).getD .skip
theorem width_any (order ts : List Int) (h1 : List.length ts ≤ (1000000 : Nat)) :
    Tst.path (vrun0 Tryz.prog (ctrs [cCount]) (fl BWidth []) 10 6 [yv order ts]) [] (toRet Tryz.prog Tryz.f27 true (iv (cntUp ts ts.length))) := by
  have eTst : (Tst.path (vrun0 Tryz.prog (ctrs [cCount]) (fl BWidth []) 10 6 [yv order ts]) [] (toRet Tryz.prog Tryz.f27 true (iv (cntUp ts ts.length)))) = (((decide (List.length ts ≤ (1000000 : Nat))) = true) ∧ ((↑(cntUp ts (List.length ts)) : Int)) = ((↑(cntUp ts (List.length ts)) : Int))) := by kernel_rfl
  exact eTst.mpr ⟨decide_eq_true h1, rfl⟩
theorem width_holds (order ts : List Int) (hl : ts.length ≤ 1000000) : Holds Tryz.prog true 27 [yv order ts] (iv (cntUp ts ts.length)) := by
  refine holds_fl (c := BWidth) Tryz.func27 rfl rfl fun w F => ?_
  exact GoalL.ret known mixed (one_ok cCount_ok) 10 _ (width_any order ts hl) fun T H h => h
noncomputable def cWidth : Ctr := { f := 27, ps := [.pair (.list false (.int .i64)) (.list false (.int .i64))], rs := [.int .i64], fresh := true, pre := fun d => decide (List.length (α := Int) d.1.2 ≤ 1000000), fn := fun d => (((cntUp d.1.2 (List.length (α := Int) d.1.2) : Nat) : Int), ()) }
theorem cWidth_ok : cWidth.Ok Tryz.prog := fun ⟨⟨order, ts⟩, _⟩ h => width_holds order ts (of_decide_eq_true h)
def okOrd (n : Int) (order : List Int) : Bool := decide (order.length ≤ 1000000) || decide ((order.length : Int) ≠ n)
noncomputable def cOrder2 : Ctr := { f := 23, ps := [.int .i64, .list false (.int .i64)], rs := [.int .i64], fresh := true, pre := fun d => okOrd d.1 d.2.1, fn := fun d => (Bus.orderErr d.2.1 d.1, ()) }
def BOrd : Code := (Tryz.f23.body).getD .skip
theorem ord_shape (n : Int) (order : List Int) (h1 : ¬(↑(List.length order) : Int) = n) :
    Tst.path (vrun0 Tryz.prog (ctrs []) (fl BOrd []) 4 37 [iv n, lv order]) [true] (toRet Tryz.prog Tryz.f23 true (iv 2)) := by
  have eTst : (Tst.path (vrun0 Tryz.prog (ctrs []) (fl BOrd []) 4 37 [iv n, lv order]) [true] (toRet Tryz.prog Tryz.f23 true (iv 2))) = ((((↑(List.length order) : Int) != n) = true) ∧ ((2 : Int)) = ((2 : Int))) := by kernel_rfl
  exact eTst.mpr ⟨bne_iff_ne.mpr h1, rfl⟩
theorem okOrd_of {n : Int} {order : List Int} (h : n ≤ 97) : okOrd n order = true := by
  unfold okOrd
  rw [Bool.or_eq_true, decide_eq_true_eq, decide_eq_true_eq]
  omega
theorem order2_holds (n : Int) (order : List Int) (h : okOrd n order = true) : Holds Tryz.prog true 23 [iv n, lv order] (iv (Bus.orderErr order n)) := by
  unfold okOrd at h
  rw [Bool.or_eq_true, decide_eq_true_eq] at h
  by_cases h2 : (order.length : Int) = n
  · exact cOrder_ok (n, order, ()) (decide_eq_true (h.resolve_right fun g => (of_decide_eq_true g) h2))
  · have e : Bus.orderErr order n = 2 := by unfold Bus.orderErr; rw [if_pos h2]
    rw [e]
    refine holds_fl (c := BOrd) Tryz.func23 rfl rfl fun w F => ?_
    exact GoalL.ret known mixed none_ok 4 _ (ord_shape n order h2) fun T H h => h
theorem cOrder2_ok : cOrder2.Ok Tryz.prog := fun ⟨n, order, _⟩ h => order2_holds n order h
end
end Go.Proofs.YtbldpojkpmafpaaGreatDoor

/- Package bus: Crossings of a layout that the check refuses. -/
namespace Go.Proofs.YtbldpojkpmafpaaGreatDoor
open Go.RowKit

set_option maxHeartbeats 8000000 in
set_option maxRecDepth 100000 in
theorem Crossings_bad (A A2 A3 : Option Addr) (c c2 c3 B : Nat) (l : List NetAt) (order ts : List Int) (n : Int) (w : World) (h : NetsIn w B A l) (h2 : Row w B A2 (order.map (Value.int .i64))) (h3 : Row w B A3 (ts.map (Value.int .i64))) (hi : ∀ c ∈ order, I64 c) (hB : B ≤ w.heap.size) (hl : l.length ≤ 140737488355328) (hl2 : order.length ≤ 1000000) (hl3 : ts.length ≤ 1000000)
    (E : Int) (hE : layErr (l.map NetAt.net) n order ts = E) (h0 : E ≠ 0) :
    Calls Tryz.prog 15 #[.slice A l.length c, .int .i64 n, .agg #[.slice A2 order.length c2, .slice A3 ts.length c3]] w fun e w' => e = .returned (.tuple #[.int .i64 0, .int .i64 E]) ∧ Below w.heap.size w w' := by
  have HC := Lib.hid (fun w' (hb : Below w.heap.size w w') => CheckLayout_any A A2 A3 c c2 c3 B l order ts n w' (h.below hb hB) (h2.below hb hB) (h3.below hb hB) hi (by have := hb.size; omega) hl hl2 hl3)
  rw [hE] at HC
  have hne : (E != 0) = true := by rw [bne_iff_ne]; exact h0
  clear h h2 h3 hi hE
  go_enter Tryz.func15, Tryz.ntmps15
  go_wp2_with fail
  generalize hW0 : World.alloc w _ = W0
  have e0 : Below w.heap.size w W0 := by rw [← hW0]; exact (Below.refl _ w).alloc (Nat.le_refl _) _
  clear hW0
  refine (HC.out _ e0).mono ?_
  rintro e w1 ⟨rfl, hb1⟩
  have e1 := below_after e0 hb1 (Nat.le_refl _)
  go_wp2_with fail
  go_ret2
  exact ⟨rfl, e1⟩
end Go.Proofs.YtbldpojkpmafpaaGreatDoor

/- Package bus: Crossings of a layout that the check passes. -/
namespace Go.Proofs.YtbldpojkpmafpaaGreatDoor
open Go.RowKit

theorem col_few (n : Int) : ∀ (cs : List Int) (last : Int), last < n → Bus.colErr n last cs = 0 → (cs.length : Int) ≤ n - 1 - last
  | [], last, h, _ => by simp; omega
  | c :: r, last, h, he => by
    unfold Bus.colErr at he
    split at he
    · cases he
    · split at he
      · cases he
      · rename_i h1 h2
        have := col_few n r c (by omega) he
        simp; omega
theorem nets_few (n : Int) (hn : 1 ≤ n) : ∀ (l : List Bus.Net) (seen : List Int), Bus.netsFrom n seen l = 0 → ∀ x ∈ l, (x.2.length : Int) ≤ n
  | [], _, _ => by intro x hx; cases hx
  | x :: r, seen, h => by
    unfold Bus.netsFrom at h
    split at h
    · cases h
    · split at h
      · cases h
      · split at h
        · cases h
        · split at h
          · exact absurd h (by assumption)
          · intro y hy
            rcases List.mem_cons.1 hy with rfl | hy
            · have := col_few n y.2 (-1) (by omega) (by rename_i h4; exact Classical.not_not.1 h4)
              omega
            · exact nets_few n hn r _ h y hy
theorem cnt_bd (M : Nat) : ∀ (ls : List (List Int)), (∀ x ∈ ls, x.length ≤ M) → cntTo ls ls.length ≤ ls.length * M
  | [], _ => by simp [cntTo]
  | c :: r, h => by
    have h1 := h c List.mem_cons_self
    have h2 := cnt_bd M r fun x hx => h x (List.mem_cons_of_mem _ hx)
    show c.length + cntTo r r.length ≤ (r.length + 1) * M
    rw [Nat.add_mul, Nat.one_mul]; omega
theorem taps_few {l : List NetAt} {n : Int} (h : Bus.netsErr (l.map NetAt.net) n = 0) (Fp : Nat → Int) : (tapFrom Fp 0 (l.map NetAt.cols)).length ≤ 6208 := by
  obtain ⟨n1, n97, l64, _⟩ := Bus.netsErr_zero h
  have hf : Bus.netsFrom n [] (l.map NetAt.net) = 0 := by
    unfold Bus.netsErr at h
    rw [if_neg (by omega), if_neg (by omega)] at h
    exact h
  have hc : ∀ x ∈ l.map NetAt.cols, x.length ≤ 97 := fun x hx => by
    obtain ⟨y, hy, rfl⟩ := List.mem_map.1 hx
    have := nets_few n n1 _ [] hf y.net (List.mem_map_of_mem hy)
    have e : y.net.2 = y.cols := rfl
    rw [e] at this
    omega
  have := cnt_bd 97 (l.map NetAt.cols) hc
  rw [tap_len]
  rw [List.length_map] at this l64 ⊢
  omega

def crossOf (nets : List Bus.Net) (order ts : List Int) (most : Int) : Int :=
  (crossRun (tapF (Bus.exts (Bus.atUp order order.length) nets) ts (tapFrom (Bus.atUp order order.length) 0 (nets.map Prod.snd))) most 0 (List.range (tapFrom (Bus.atUp order order.length) 0 (nets.map Prod.snd)).length)).1

set_option maxHeartbeats 8000000 in
set_option maxRecDepth 100000 in
theorem Crossings_ok (A A2 A3 : Option Addr) (c c2 c3 B : Nat) (l : List NetAt) (order ts : List Int) (n : Int) (w : World) (h : NetsIn w B A l) (h2 : Row w B A2 (order.map (Value.int .i64))) (h3 : Row w B A3 (ts.map (Value.int .i64))) (hi : ∀ c ∈ order, I64 c) (hB : B ≤ w.heap.size) (hl : l.length ≤ 140737488355328) (hl2 : order.length ≤ 1000000) (hl3 : ts.length ≤ 1000000)
    (hE : Bus.bothErr (l.map NetAt.net) n order = 0) (hL : layErr (l.map NetAt.net) n order ts = 0) :
    Calls Tryz.prog 15 #[.slice A l.length c, .int .i64 n, .agg #[.slice A2 order.length c2, .slice A3 ts.length c3]] w fun e w' => e = .returned (.tuple #[.int .i64 (crossOf (l.map NetAt.net) order ts 1099511627776), .int .i64 0]) ∧ Below w.heap.size w w' := by
  have HC := Lib.hid (fun w' (hb : Below w.heap.size w w') => CheckLayout_any A A2 A3 c c2 c3 B l order ts n w' (h.below hb hB) (h2.below hb hB) (h3.below hb hB) hi (by have := hb.size; omega) hl hl2 hl3)
  rw [hL] at HC
  obtain ⟨z1, z2⟩ := both_zero hE
  have htl : ts.length = l.length := by
    unfold layErr at hL
    rw [if_neg (fun g => g hE)] at hL
    by_cases h1 : ts.length ≠ (l.map NetAt.net).length
    · rw [if_pos h1] at hL; cases hL
    · rw [List.length_map] at h1; exact Classical.not_not.1 h1
  obtain ⟨n1, n97, l64, hcols⟩ := Bus.netsErr_zero z1
  rw [List.length_map] at l64
  have hc97 : ∀ x ∈ l, ∀ c ∈ x.cols, 0 ≤ c ∧ c < 97 := fun x hx c hc => by
    have := (hcols x.net (List.mem_map_of_mem hx)).2 c hc
    omega
  have hT := taps_few z1 (Bus.atUp order order.length)
  have e1 : (l.map NetAt.net).map Prod.snd = l.map NetAt.cols := by rw [List.map_map]; rfl
  obtain ⟨r, hr⟩ : ∃ r, crossOf (l.map NetAt.net) order ts 1099511627776 = r := ⟨_, rfl⟩
  rw [hr]
  unfold crossOf at hr
  rw [e1] at hr
  have HST := Lib.hid (fun w' (hb : Below w.heap.size w w') => stand_any A A2 c c2 B l order n w' (h.below hb hB) (h2.below hb hB) (by have := hb.size; omega) z2 z1)
  obtain ⟨F, hF⟩ : ∃ F, Bus.atUp order order.length = F := ⟨_, rfl⟩
  rw [hF] at HST hr hT
  have hlen := exts_len F l
  obtain ⟨xs, hxs⟩ : ∃ xs, Bus.exts F (l.map NetAt.net) = xs := ⟨_, rfl⟩
  rw [hxs] at hlen hr
  have HXS := Lib.hid hxs
  obtain ⟨M, hM⟩ : ∃ M : Int, (1099511627776 : Int) = M := ⟨_, rfl⟩
  rw [hM] at hr
  have HCR0 : ∀ (g : Nat) (Ax : Option Addr) (cx : Nat) w' (_ : Below w.heap.size w w') (_ : RowAt w' g (.slice A l.length c) F (.slice Ax xs.length cx)) (_ : Row w' w'.heap.size Ax (xcells xs)),
      Calls Tryz.prog 44 #[.pointer (some ⟨g, 0, none⟩), .slice A3 ts.length c3, .int .i64 M] w' fun e w'' => e = .returned (.int .i64 r) ∧ Below w'.heap.size w' w'' := fun g Ax cx w' hb hrow hx => by
    have := crossings_any g A Ax A3 c cx c3 xs ts F l M w' hrow hx ((h.below hb hB).more (by have := hb.size; omega)) ((h3.below hb hB).more (by have := hb.size; omega)) hlen htl (by omega) hc97 (by omega)
    rw [hr] at this
    exact this
  rw [← hM] at HCR0
  have HCR := Lib.hid HCR0
  clear HCR0 hM
  clear h h2 h3 hi hE hL z1 z2 hcols hc97 hT e1 hr hF hxs M htl
  have HL := Lib.hid hlen
  clear hlen
  go_enter Tryz.func15, Tryz.ntmps15
  go_wp2_with fail
  generalize hW0 : World.alloc w _ = W0
  have d0 : Blk W0 w.heap.size 29 #[.slice A2 order.length c2, .slice A3 ts.length c3] := by rw [← hW0]; exact Blk.new _ _ _
  have e0 : Below w.heap.size w W0 := by rw [← hW0]; exact (Below.refl _ w).alloc (Nat.le_refl _) _
  clear hW0
  refine (HC.out _ e0).mono ?_
  rintro e w1 ⟨rfl, hb1⟩
  have e1 := below_after e0 hb1 (Nat.le_refl _)
  have d1 := d0.below hb1 d0.lt
  have x0 := d1.cell 0
  have x1 := d1.cell 1
  clear d0 e0 hb1 HC
  have e1d := e1.drew
  have d1d := d1.drew
  clear e1 d1
  go_wp2_with fail
  go_region_with (first
    | (go_at_call 42; refine (HST.out _ (by with_reducible assumption)).mono ?_; rintro e w2 ⟨g, v, rfl, hg, hrow, hown, hb2⟩; rw [HXS.out] at hown; obtain ⟨Av, cv, rfl, _, hr⟩ := own_cap hown; have hrow2 : RowAt w2 g (.slice A l.length c) F (.slice Av xs.length cv) := (by rw [HL.out]; exact hrow); have e2 := below_after (B := w.heap.size) (by with_reducible assumption) hb2 (Nat.le_refl _); have HRW := Lib.hid (And.intro hrow2 hr); have x1' := (Blk.below d1d hb2 d1d.lt).cell 1; clear hown hrow hrow2 hr)
    | (go_at_call 44; refine (HCR.out _ _ _ _ (by with_reducible assumption) HRW.out.1 HRW.out.2).mono ?_; rintro e w3 ⟨rfl, hb3⟩))
  all_goals go_wp2_with fail
  all_goals go_ret2
  all_goals exact ⟨rfl, below_after (W := w2) (by with_reducible assumption) (by with_reducible assumption) (Nat.le_refl _)⟩
end Go.Proofs.YtbldpojkpmafpaaGreatDoor

/- Package bus: Crossings and Extents as contracts on plain data. -/
namespace Go.Proofs.YtbldpojkpmafpaaGreatDoor
open Go.RowKit Sv
set_option maxRecDepth 100000
set_option linter.unusedVariables false
theorem holds_pair {f : FuncId} {args : List AV} {a b : Int} {fresh : Bool} (h : ∀ (w : World) (F : Env) (xs : List Value), OkF w F → Dens F args xs → Calls Tryz.prog f xs.toArray w fun e w' => e = .returned (.tuple #[.int .i64 a, .int .i64 b]) ∧ Below w.heap.size w w') :
    Holds Tryz.prog fresh f args (.tuple [iv a, iv b]) := fun w F xs hF hd =>
  (h w F xs hF hd).mono fun e w' ⟨g1, g2⟩ => ⟨_, ⟨F.at', fun _ => none⟩, g1, .tuple (.cons (.raw _) (.cons (.raw _) .nil)), ⟨hF.glob, hF.all, fun b A h => by cases h⟩, (fun b A h => by cases h), g2⟩
noncomputable section
def crsB (nets : List (Int × List Int)) (n : Int) (order ts : List Int) : Int × Int := if layErr nets n order ts = 0 then (crossOf nets order ts 1099511627776, 0) else (0, layErr nets n order ts)
noncomputable def cCrossB : Ctr := { f := 15, ps := [.list false tN, .int .i64, .pair (.list false (.int .i64)) (.list false (.int .i64))], rs := [.int .i64, .int .i64], fresh := true, pre := fun d => okLay d.1 d.2.2.1.1 d.2.2.1.2, fn := fun d => ((crsB d.1 d.2.1 d.2.2.1.1 d.2.2.1.2).1, ((crsB d.1 d.2.1 d.2.2.1.1 d.2.2.1.2).2, ())) }
theorem both_of_lay {nets : List (Int × List Int)} {n : Int} {order ts : List Int} (h : layErr nets n order ts = 0) : Bus.bothErr nets n order = 0 := by
  unfold layErr at h
  by_cases hE : Bus.bothErr nets n order = 0
  · exact hE
  · rw [if_pos hE] at h; exact absurd h hE
theorem cross_holds (nets : List (Int × List Int)) (n : Int) (order ts : List Int) (h : okLay nets order ts = true) : Holds Tryz.prog true 15 [nv nets, iv n, yv order ts] (.tuple [iv (crsB nets n order ts).1, iv (crsB nets n order ts).2]) := by
  obtain ⟨h1, h2, h3, h4, h5⟩ := okLay_iff h
  refine holds_pair fun w F xs hF hd => ?_
  obtain ⟨A, A2, A3, c, c2, c3, l, rfl, hl, hN, hR, hS, q2, q3⟩ := dens_lay hF h1 hd
  have hll : l.length = nets.length := by rw [← hl, List.length_map]
  by_cases hE : layErr nets n order ts = 0
  · have e : crsB nets n order ts = (crossOf nets order ts 1099511627776, 0) := by unfold crsB; rw [if_pos hE]
    rw [e]
    have := Crossings_ok A A2 A3 c c2 c3 w.heap.size l order ts n w hN hR hS h4 (Nat.le_refl _) (by omega) (by omega) (by omega) (by rw [hl]; exact both_of_lay hE) (by rw [hl]; exact hE)
    rw [hl] at this
    exact this
  · have e : crsB nets n order ts = (0, layErr nets n order ts) := by unfold crsB; rw [if_neg hE]
    rw [e]
    exact Crossings_bad A A2 A3 c c2 c3 w.heap.size l order ts n w hN hR hS h4 (Nat.le_refl _) (by omega) (by omega) (by omega) (layErr nets n order ts) (by rw [hl]) hE
theorem cCrossB_ok : cCrossB.Ok Tryz.prog := fun ⟨nets, n, ⟨order, ts⟩, _⟩ h => cross_holds nets n order ts h

theorem fresh_den {w' : World} {n0 : Nat} {at' : Nat → Option (Nat × Nat)} {t : Ty} {xs : List t.den} {ys : List Value} {A : Option Addr} {c : Nat} (h : Row w' w'.heap.size A ys) (hd : Dens ⟨at', fun b => if n0 ≤ b then cellsOf? w' b else none⟩ (t.flat xs) ys) (hs : 1 ≤ t.size) (hf : xs = [] ∨ FreshA n0 A) (hc : xs.length ≤ c) :
    Den ⟨at', fun b => if n0 ≤ b then cellsOf? w' b else none⟩ (.lst false t xs) (.slice A xs.length c) := by
  by_cases hx : xs = []
  · subst hx; exact .lstNil fun e => by cases e
  · have hf := hf.resolve_left hx
    have hlen := hd.length
    rw [t.flat_len] at hlen
    have hxl : 0 < xs.length := List.length_pos_iff.2 hx
    have hpos : 0 < ys.length := by rw [hlen]; exact Nat.mul_pos hxl hs
    rcases h with h | ⟨b, off, rfl, hlt, hcs⟩
    · subst h; exact absurd hpos (Nat.lt_irrefl 0)
    · have hb := hf b off rfl
      have h0 := hcs 0 hpos
      cases ho : w'.heap[b]? with
      | none => simp [World.cell?, ho] at h0
      | some o =>
        cases o with
        | cells Arr e fr =>
          have hall : ∀ i (hi : i < ys.length), Arr[off + i]? = some ys[i] := fun i hi => by
            have := hcs i hi
            rw [cell_of ho] at this
            rw [this]
            simp [List.getD_eq_getElem?_getD, List.getElem?_eq_getElem hi]
          have hsz : off + ys.length ≤ Arr.size := by
            have := hall (ys.length - 1) (by omega)
            have := (Array.getElem?_eq_some_iff.1 this).1
            omega
          have hfl : (t.flat xs).length = ys.length := hd.length.symm
          have hys : (Arr.toList.drop off).take (t.flat xs).length = ys := by
            rw [hfl]
            apply List.ext_getElem?
            intro i
            rw [List.getElem?_take]
            by_cases hi : i < ys.length
            · rw [if_pos hi, List.getElem?_drop, Array.getElem?_toList, hall i hi, List.getElem?_eq_getElem hi]
            · rw [if_neg hi, List.getElem?_eq_none (by omega)]
          refine .lst (A := Arr) (b := b) (off := off) ?_ (by rw [hfl]; exact hsz) hys hd hc fun e => by cases e
          show (if n0 ≤ b then cellsOf? w' b else none) = some Arr
          rw [if_pos hb]; exact cellsOf?_some.2 ⟨e, fr, ho⟩
        | _ => simp [World.cell?, ho] at h0
end
noncomputable section
end
end Go.Proofs.YtbldpojkpmafpaaGreatDoor
