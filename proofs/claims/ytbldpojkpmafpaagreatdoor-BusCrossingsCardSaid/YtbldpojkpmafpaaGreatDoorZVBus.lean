/- The reference of package bus: the check of a layout. -/
import Derived.Test.YtbldpojkpmafpaaGreatDoorZBusRefMeet
import Derived.Test.YtbldpojkpmafpaaGreatDoorZBusTaps
import Derived.Test.YtbldpojkpmafpaaGreatDoorZBusRefNets
namespace Go.Proofs.YtbldpojkpmafpaaGreatDoor
open Go.RowKit

def rowHit (p : Nat → Bool) : Nat → Bool
  | 0 => false
  | k + 1 => rowHit p k || p k
def allHit (p : Nat → Nat → Bool) : Nat → Bool
  | 0 => false
  | i + 1 => allHit p i || rowHit (p i) i
theorem rowHit_iff (p : Nat → Bool) : ∀ n, rowHit p n = true ↔ ∃ k, k < n ∧ p k = true
  | 0 => by simp [rowHit]
  | n + 1 => by
    rw [rowHit, Bool.or_eq_true, rowHit_iff p n]
    constructor
    · rintro (⟨k, h1, h2⟩ | h)
      · exact ⟨k, by omega, h2⟩
      · exact ⟨n, by omega, h⟩
    · rintro ⟨k, h1, h2⟩
      by_cases hk : k = n
      · subst hk; exact .inr h2
      · exact .inl ⟨k, by omega, h2⟩
theorem allHit_iff (p : Nat → Nat → Bool) : ∀ n, allHit p n = true ↔ ∃ i k, k < i ∧ i < n ∧ p i k = true
  | 0 => by simp [allHit]
  | n + 1 => by
    rw [allHit, Bool.or_eq_true, allHit_iff p n, rowHit_iff]
    constructor
    · rintro (⟨i, k, h1, h2, h3⟩ | ⟨k, h1, h2⟩)
      · exact ⟨i, k, h1, by omega, h3⟩
      · exact ⟨n, k, h1, by omega, h2⟩
    · rintro ⟨i, k, h1, h2, h3⟩
      by_cases hk : i = n
      · subst hk; exact .inr ⟨k, h1, h3⟩
      · exact .inl ⟨i, k, h1, by omega, h3⟩
/-- do two nets stand on one track, and meet, as the reference asks it? -/
def clashR (l : List NetAt) (order ts : List Int) (i k : Nat) : Bool :=
  ts.getD i 0 == ts.getD k 0 && meetFrom (refExt order ((l.map NetAt.cols).getD i [])) (refExt order ((l.map NetAt.cols).getD k [])) order.length 0
def layErrR (l : List NetAt) (n : Int) (order ts : List Int) : Int :=
  if Bus.bothErr (l.map NetAt.net) n order ≠ 0 then Bus.bothErr (l.map NetAt.net) n order else if ts.length ≠ l.length then 2 else if farB ts = true then 3 else if allHit (clashR l order ts) l.length = true then 30 else 0
theorem farB_iff (ts : List Int) : farB ts = true ↔ ∃ (k : Nat) (t : Int), ts[k]? = some t ∧ (t < 0 ∨ 64 ≤ t) := by
  unfold farB
  rw [List.any_eq_true]
  constructor
  · rintro ⟨t, h1, h2⟩
    obtain ⟨k, hk⟩ := List.mem_iff_getElem?.1 h1
    exact ⟨k, t, hk, by simpa using h2⟩
  · rintro ⟨k, t, h1, h2⟩
    exact ⟨t, List.mem_of_getElem? h1, by simpa using h2⟩

theorem both_cases (l : List Bus.Net) (n : Int) (order : List Int) : (Bus.netsErr l n ≠ 0 ∧ Bus.bothErr l n order = Bus.netsErr l n) ∨ (Bus.netsErr l n = 0 ∧ Bus.bothErr l n order = Bus.orderErr order n) := by
  unfold Bus.bothErr
  by_cases h : Bus.netsErr l n = 0
  · exact .inr ⟨h, by rw [if_neg (by omega)]⟩
  · exact .inl ⟨h, by rw [if_pos h]⟩

set_option maxHeartbeats 8000000 in
set_option maxRecDepth 100000 in
/-- where the nets or the order are refused -/
theorem refCheckLayout_bad (A A2 A3 : Option Addr) (c c2 c3 B : Nat) (l : List NetAt) (order ts : List Int) (n : Int) (w : World) (h : NetsIn w B A l) (h2 : Row w B A2 (order.map (Value.int .i64))) (hB : B ≤ w.heap.size) (hl : l.length ≤ 140737488355328) (hl2 : order.length ≤ 1000000) (hc2 : order.length ≤ c2) (E : Int) (hE : Bus.bothErr (l.map NetAt.net) n order = E) (h0 : E ≠ 0) :
    Calls Tryz.prog 18 #[.slice A l.length c, .int .i64 n, .agg #[.slice A2 order.length c2, .slice A3 ts.length c3]] w fun e w' => e = .returned (.int .i64 E) ∧ Below w.heap.size w w' := by
  have HN := Lib.hid (fun w' (hb : Below w.heap.size w w') => refNets_any A c B l n w' (h.below hb hB) (by have := hb.size; omega) hl)
  have HO := Lib.hid (fun w' (hb : Below w.heap.size w w') => refOrder_any A2 c2 B order n w' hl2 hc2 (h2.below hb hB) (by have := hb.size; omega))
  have hcase := both_cases (l.map NetAt.net) n order
  rw [hE] at hcase
  have hne : (E != 0) = true := by rw [bne_iff_ne]; exact h0
  have hne2 : (E == 0) = false := by rw [beq_eq_false_iff_ne]; exact h0
  generalize Bus.netsErr (l.map NetAt.net) n = e1 at *
  generalize Bus.orderErr order n = e2 at *
  have e0 := (Below.refl w.heap.size w).alloc (Nat.le_refl _) (.cells #[.slice A2 order.length c2, .slice A3 ts.length c3] 29)
  have d0 := Blk.new w 29 #[.slice A2 order.length c2, .slice A3 ts.length c3]
  clear h h2 hE
  rcases hcase with ⟨g1, g2⟩ | ⟨g1, g2⟩
  · subst g2
    have HNE := Lib.hid (HN.out _ e0)
    clear HN HO e2 g1
    go_enter Tryz.func18, Tryz.ntmps18
    go_wp2_with fail
    refine HNE.out.mono ?_
    rintro e w1 ⟨rfl, hb1⟩
    have e1 := below_after e0 hb1 (Nat.le_refl _)
    go_wp2_with fail
    go_ret
    exact ⟨rfl, e1⟩
  · subst g1; subst g2
    have HNE := Lib.hid (HN.out _ e0)
    clear HN
    go_enter Tryz.func18, Tryz.ntmps18
    go_wp2_with fail
    refine HNE.out.mono ?_
    rintro e w1 ⟨rfl, hb1⟩
    have e1 := below_after e0 hb1 (Nat.le_refl _)
    have d1 := keep_blk d0 hb1
    obtain ⟨f0, f1, _, _⟩ := d1.two
    have HOE := Lib.hid (HO.out _ e1)
    clear HO d0 hb1 e0
    go_wp2_with fail
    refine HOE.out.mono ?_
    rintro e w2 ⟨rfl, hb2⟩
    have e2 := below_after e1 hb2 (Nat.le_refl _)
    go_wp2_with fail
    go_ret
    exact ⟨rfl, e2⟩

set_option maxHeartbeats 8000000 in
set_option maxRecDepth 100000 in
/-- where the nets and the order stand -/
theorem refCheckLayout_ok (A A2 A3 : Option Addr) (c c2 c3 B : Nat) (l : List NetAt) (order ts : List Int) (n : Int) (w : World) (h : NetsIn w B A l) (h2 : Row w B A2 (order.map (Value.int .i64))) (h3 : Row w B A3 (ts.map (Value.int .i64))) (hB : B ≤ w.heap.size) (hl : l.length ≤ 140737488355328) (hl2 : order.length ≤ 1000000) (hl3 : ts.length ≤ 1000000) (hc2 : order.length ≤ c2) (hE : Bus.bothErr (l.map NetAt.net) n order = 0) :
    Calls Tryz.prog 18 #[.slice A l.length c, .int .i64 n, .agg #[.slice A2 order.length c2, .slice A3 ts.length c3]] w fun e w' => e = .returned (.int .i64 (layErrR l n order ts)) ∧ Below w.heap.size w w' := by
  obtain ⟨z1, z2⟩ := both_zero hE
  have HN := Lib.hid (fun w' (hb : Below w.heap.size w w') => refNets_any A c B l n w' (h.below hb hB) (by have := hb.size; omega) hl)
  have HO := Lib.hid (fun w' (hb : Below w.heap.size w w') => refOrder_any A2 c2 B order n w' hl2 hc2 (h2.below hb hB) (by have := hb.size; omega))
  rw [z1] at HN
  rw [z2] at HO
  obtain ⟨n1, n97, l64, hcols⟩ := Bus.netsErr_zero z1
  obtain ⟨on, ond, oin⟩ := Bus.orderErr_zero z2
  rw [List.length_map] at l64
  have hol : order.length ≤ 1000 := by omega
  have HM := Lib.hid (fun (x y : NetAt) w' (hb : Below w.heap.size w w') (hx : Row w B x.loc (x.cols.map (Value.int .i64))) (hy : Row w B y.loc (y.cols.map (Value.int .i64))) (fx : x.cols.length ≤ 140737488355328) (fy : y.cols.length ≤ 140737488355328) => refMeet_any x y A2 c2 B order w' (hx.below hb hB) (hy.below hb hB) (h2.below hb hB) (by have := hb.size; omega) hol fx fy)
  obtain ⟨r, hr⟩ : ∃ r, layErrR l n order ts = r := ⟨_, rfl⟩
  rw [hr]
  unfold layErrR at hr
  rw [hE, if_neg (by decide)] at hr
  have H := Lib.hid h
  have H3 := Lib.hid h3
  have e0 := (Below.refl w.heap.size w).alloc (Nat.le_refl _) (.cells #[.slice A2 order.length c2, .slice A3 ts.length c3] 29)
  have d0 := Blk.new w 29 #[.slice A2 order.length c2, .slice A3 ts.length c3]
  have HNE := Lib.hid (HN.out _ e0)
  clear h h2 h3 hE z1 z2 n1 n97 hcols on ond oin HN
  go_enter Tryz.func18, Tryz.ntmps18
  go_wp2_with fail
  refine HNE.out.mono ?_
  rintro e w1 ⟨rfl, hb1⟩
  have e1 := below_after e0 hb1 (Nat.le_refl _)
  have d1 := keep_blk d0 hb1
  obtain ⟨f0, f1, _, _⟩ := d1.two
  have HOE := Lib.hid (HO.out _ e1)
  clear HO HNE d0 hb1 e0
  go_wp2_with fail
  refine HOE.out.mono ?_
  rintro e w2 ⟨rfl, hb2⟩
  have e2 := below_after e1 hb2 (Nat.le_refl _)
  have d2 := keep_blk d1 hb2
  obtain ⟨f0, f1, _, _⟩ := d2.two
  clear HOE d1 hb2 e1
  by_cases htl : ts.length = l.length
  · have hln : ((ts.length : Int) != (l.length : Int)) = false := by simp; omega
    rw [if_neg (by omega)] at hr
    have HTL := Lib.hid htl
    clear htl
    have s2 := e2.size
    have hG2 := d2.lt
    go_wp2_with fail
    go_loopw [8] (fun i wr => ∃ k : Nat, k ≤ ts.length ∧ i = .int .i64 k ∧ farB (ts.take k) = false ∧ Below w.heap.size w wr ∧ Blk wr w.heap.size 29 #[.slice A2 order.length c2, .slice A3 ts.length c3]) (fun i _ => ts.length - (intOf i).toNat)
    case atStart => exact ⟨0, Nat.zero_le _, rfl, rfl, e2, d2⟩
    case round =>
      obtain ⟨k, hk, rfl, hfk, eb, qb⟩ := hrel
      obtain ⟨f0, f1, _, _⟩ := qb.two
      have hszb := eb.size
      by_cases hlt : k < ts.length
      · obtain ⟨b, off, x, hA3, hbB, hx, hcx⟩ := H3.out.int k hlt
        have hA3' := hA3
        subst hA3
        have hcx2 := (eb.cell (p := ⟨b, off + k, none⟩) (by show b < _; omega)).trans hcx
        have hlt' : (k : Int) < (ts.length : Int) := by omega
        have hstep : farB (ts.take (k + 1)) = (farB (ts.take k) || (decide (x < 0) || decide (64 ≤ x))) := by
          rw [List.take_add_one, hx]; unfold farB; rw [List.any_append]; simp
        rw [hfk, Bool.false_or] at hstep
        have hhit : (decide (x < 0) || decide (64 ≤ x)) = true → farB ts = true := fun hh => (farB_iff ts).2 ⟨k, x, hx, by simpa using hh⟩
        clear hx hcx
        by_cases hx0 : x < 0
        · have hf := hhit (by simp [hx0])
          rw [if_pos hf] at hr
          have HR := Lib.hid hr
          clear hr hf hhit hstep hfk
          go_wp2_with fail
          all_goals (go_ret; exact ⟨ret_i64 HR.out, (by repeat (first | with_reducible exact Below.refl _ _ | with_reducible assumption | with_reducible refine Below.setCell ?_ (by first | omega | (simp; done) | (simp; omega)) _ | with_reducible refine below_drewN ?_ _ | with_reducible refine Below.drew ?_ | with_reducible refine Below.alloc ?_ (by first | omega | (simp; done) | (simp; omega)) _ | with_reducible refine below_after ?_ (by assumption) (by first | omega | (simp; done) | (simp; omega))))⟩)
        · by_cases hx64 : 64 ≤ x
          · have hf := hhit (by simp [hx64])
            rw [if_pos hf] at hr
            have HR := Lib.hid hr
            clear hr hf hhit hstep hfk
            go_wp2_with fail
            all_goals (go_ret; exact ⟨ret_i64 HR.out, (by repeat (first | with_reducible exact Below.refl _ _ | with_reducible assumption | with_reducible refine Below.setCell ?_ (by first | omega | (simp; done) | (simp; omega)) _ | with_reducible refine below_drewN ?_ _ | with_reducible refine Below.drew ?_ | with_reducible refine Below.alloc ?_ (by first | omega | (simp; done) | (simp; omega)) _ | with_reducible refine below_after ?_ (by assumption) (by first | omega | (simp; done) | (simp; omega))))⟩)
          · have HS := Lib.hid (show farB (ts.take (k + 1)) = false by rw [hstep]; simp; omega)
            clear hhit hstep hfk hr
            go_wp2_with fail
            go_roundw
            case rel => exact ⟨k + 1, by omega, by go_num, HS.out, eb, qb⟩
            case measure => simp [intOf]; omega
      · obtain rfl : k = ts.length := by omega
        rw [List.take_length] at hfk
        rw [if_neg (by rw [hfk]; decide)] at hr
        have HR := Lib.hid hr
        clear hr hfk
        obtain ⟨W, hW⟩ : ∃ W, wr = W := ⟨_, rfl⟩
        rw [hW] at eb qb hszb f0 f1 ⊢
        clear hW
        go_wp2_with fail
        go_loopw [9] (fun i wr => ∃ k : Nat, k ≤ l.length ∧ i = .int .i64 k ∧ allHit (clashR l order ts) k = false ∧ Below w.heap.size w wr ∧ Blk wr w.heap.size 29 #[.slice A2 order.length c2, .slice A3 ts.length c3]) (fun i _ => l.length - (intOf i).toNat)
        case atStart => exact ⟨0, Nat.zero_le _, rfl, rfl, eb, qb⟩
        case round =>
          obtain ⟨k, hk, rfl, hak, ek, qk⟩ := hrel
          have hszk := ek.size
          by_cases hlk : k < l.length
          · obtain ⟨W2, hW⟩ : ∃ W, wr = W := ⟨_, rfl⟩
            rw [hW] at ek qk hszk ⊢
            clear hW
            have HAK := Lib.hid hak
            clear hak
            go_wp2_with fail
            go_loopw [10] (fun i wz => ∃ j : Nat, j ≤ k ∧ i = .int .i64 j ∧ rowHit (clashR l order ts k) j = false ∧ Below w.heap.size w wz ∧ Blk wz w.heap.size 29 #[.slice A2 order.length c2, .slice A3 ts.length c3]) (fun i _ => k - (intOf i).toNat)
            case atStart => exact ⟨0, Nat.zero_le _, rfl, rfl, ek, qk⟩
            case round =>
              obtain ⟨j, hj, rfl, hrj, ez, qz⟩ := hrel
              have hszz := ez.size
              obtain ⟨f0, f1, _, _⟩ := qz.two
              by_cases hlj : j < k
              · obtain ⟨b, off, x, hA3, hbB, hx, hcx⟩ := H3.out.int k (by rw [HTL.out]; omega)
                obtain ⟨b', off', y, hA3', _, hy, hcy⟩ := H3.out.int j (by rw [HTL.out]; omega)
                subst hA3
                injection hA3' with hA3'; injection hA3' with h1 h2; subst h1; subst h2
                have hcx2 := (ez.cell (p := ⟨b, off + k, none⟩) (by show b < _; omega)).trans hcx
                have hcy2 := (ez.cell (p := ⟨b, off + j, none⟩) (by show b < _; omega)).trans hcy
                have gx : ts.getD k 0 = x := by rw [List.getD_eq_getElem?_getD, hx]; rfl
                have gy : ts.getD j 0 = y := by rw [List.getD_eq_getElem?_getD, hy]; rfl
                obtain ⟨bn, offn, nx, hAn, hbn, hnx, cn0, cn1, rn, fn, _, _⟩ := H.out.net k hlk
                obtain ⟨bn', offn', ny, hAn', _, hny, dn0, dn1, rn', fn', _, _⟩ := H.out.net j (by omega)
                subst hAn
                injection hAn' with hAn'; injection hAn' with h1 h2; subst h1; subst h2
                have cn0' := (ez.cell (p := ⟨bn, offn + k * 2, none⟩) (by show bn < _; omega)).trans cn0
                have cn1' := (ez.cell (p := ⟨bn, offn + k * 2 + 1, none⟩) (by show bn < _; omega)).trans cn1
                have dn0' := (ez.cell (p := ⟨bn, offn + j * 2, none⟩) (by show bn < _; omega)).trans dn0
                have dn1' := (ez.cell (p := ⟨bn, offn + j * 2 + 1, none⟩) (by show bn < _; omega)).trans dn1
                have hkt : (k : Int) < (ts.length : Int) := by rw [HTL.out]; omega
                have hjt : (j : Int) < (ts.length : Int) := by rw [HTL.out]; omega
                have hkl : (k : Int) < (l.length : Int) := by omega
                have hjl : (j : Int) < (l.length : Int) := by omega
                have hcl : clashR l order ts k j = (x == y && meetFrom (refExt order nx.cols) (refExt order ny.cols) order.length 0) := by
                  unfold clashR; rw [gx, gy]; simp only [List.getD_eq_getElem?_getD, List.getElem?_map, hnx, hny, Option.map_some, Option.getD_some]
                have HST := Lib.hid (show rowHit (clashR l order ts k) (j + 1) = (x == y && meetFrom (refExt order nx.cols) (refExt order ny.cols) order.length 0) by rw [rowHit, hrj, Bool.false_or, hcl])
                have HMM := Lib.hid (fun w' (hb : Below w.heap.size w w') => HM.out nx ny w' hb rn rn' fn fn')
                have HIT := Lib.hid (fun (hh : clashR l order ts k j = true) => (allHit_iff (clashR l order ts) l.length).2 ⟨k, j, hlj, hlk, hh⟩)
                rw [hcl] at HIT
                clear hx hy hcx hcy gx gy cn0 cn1 dn0 dn1 hnx hny hcl hrj rn rn' fn fn'
                unfold netV at HMM
                by_cases hxy : x = y
                · have hbe : (x == y) = true := by rw [beq_iff_eq]; exact hxy
                  rw [hbe, Bool.true_and] at HST HIT
                  go_wp2_with fail
                  go_still_tail 22, (by kernel_rfl)
                  have ezd := ez.drew
                  have qzd := qz.drew
                  have k0 : wr.drew.cell? ⟨b, off + k, none⟩ = some (.int .i64 x) := hcx2
                  have k1 : wr.drew.cell? ⟨b, off + j, none⟩ = some (.int .i64 y) := hcy2
                  have k2 : wr.drew.cell? ⟨bn, offn + k * 2, none⟩ = some (.int .i64 nx.sh) := cn0'
                  have k3 : wr.drew.cell? ⟨bn, offn + k * 2 + 1, none⟩ = some (.slice nx.loc nx.cols.length nx.cap) := cn1'
                  have k4 : wr.drew.cell? ⟨bn, offn + j * 2, none⟩ = some (.int .i64 ny.sh) := dn0'
                  have k5 : wr.drew.cell? ⟨bn, offn + j * 2 + 1, none⟩ = some (.slice ny.loc ny.cols.length ny.cap) := dn1'
                  have k6 : wr.drew.cell? ⟨w.heap.size, 0, none⟩ = some (.slice A2 order.length c2) := f0
                  have k7 : wr.drew.cell? ⟨w.heap.size, 1, none⟩ = some (.slice (some ⟨b, off, none⟩) ts.length c3) := f1
                  have HMW := Lib.hid (HMM.out _ ezd)
                  change wpList _ _ _ _ _ wr.drew
                  clear HMM hcx2 hcy2 cn0' cn1' dn0' dn1' f0 f1 ez qz
                  generalize wr.drew = W5 at k0 k1 k2 k3 k4 k5 k6 k7 ezd qzd HMW ⊢
                  generalize meetFrom (refExt order nx.cols) (refExt order ny.cols) order.length 0 = hit at *
                  go_wp2_with (first
                    | (go_at_call 55; refine HMW.out.mono ?_; rintro e w6 ⟨rfl, hb6⟩))
                  · rename_i hmt
                    have e6 := below_after ezd hb6 (Nat.le_refl _)
                    have hq := HR.out
                    rw [if_pos (HIT.out hmt)] at hq
                    have HQ := Lib.hid hq
                    clear hq
                    go_ret
                    exact ⟨ret_i64 HQ.out, e6⟩
                  · rename_i hmt
                    have e6 := below_after ezd hb6 (Nat.le_refl _)
                    exact ⟨⟨j + 1, by omega, by go_num, HST.out.trans hmt, e6, keep_blk qzd hb6⟩, by simp [intOf]; omega⟩
                · have hbe : (x == y) = false := by rw [beq_eq_false_iff_ne]; exact hxy
                  rw [hbe, Bool.false_and] at HST
                  go_wp2_with fail
                  go_quiet (fail)
                  go_wp2_with fail
                  go_roundw
                  case rel => exact ⟨j + 1, by omega, by go_num, HST.out, (by repeat (first | with_reducible exact Below.refl _ _ | with_reducible assumption | with_reducible refine Below.setCell ?_ (by first | omega | (simp; done) | (simp; omega)) _ | with_reducible refine below_drewN ?_ _ | with_reducible refine Below.drew ?_ | with_reducible refine Below.alloc ?_ (by first | omega | (simp; done) | (simp; omega)) _ | with_reducible refine below_after ?_ (by assumption) (by first | omega | (simp; done) | (simp; omega)))), by first | exact qz | exact qz.drew⟩
                  case measure => simp [intOf]; omega
              · obtain rfl : k = j := by omega
                have HC2 := Lib.hid (show allHit (clashR l order ts) (k + 1) = false by rw [allHit, HAK.out, hrj]; rfl)
                go_wp2_with fail
                go_roundw
                case rel => exact ⟨k + 1, by omega, by go_num, HC2.out, ez, qz⟩
                case measure => simp [intOf]; omega
          · obtain rfl : k = l.length := by omega
            have hq := HR.out
            rw [if_neg (by rw [hak]; decide)] at hq
            have HQ := Lib.hid hq
            clear hq
            go_wp2_with fail
            go_ret
            exact ⟨ret_i64 HQ.out, ek⟩
  · have hln : ((ts.length : Int) != (l.length : Int)) = true := by simp; omega
    rw [if_pos (by omega)] at hr
    have HR := Lib.hid hr
    clear hr
    go_wp2_with fail
    go_ret
    exact ⟨ret_i64 HR.out, e2⟩
end Go.Proofs.YtbldpojkpmafpaaGreatDoor

/- Package bus and its reference: they say the same of layouts and of cliques (plain law). -/
namespace Go.Proofs.YtbldpojkpmafpaaGreatDoor
open Go.RowKit

theorem foldMin (f : Int → Int) : ∀ (l : List Int) (a : Int), l.foldl (fun l c => min l (f c)) a ≤ a ∧ (∀ c ∈ l, l.foldl (fun l c => min l (f c)) a ≤ f c) ∧ ∀ m, m ≤ a → (∀ c ∈ l, m ≤ f c) → m ≤ l.foldl (fun l c => min l (f c)) a
  | [], a => ⟨Int.le_refl _, fun c h => (by cases h), fun m h _ => h⟩
  | d :: r, a => by
    obtain ⟨h1, h2, h3⟩ := foldMin f r (min a (f d))
    simp only [List.foldl_cons]
    refine ⟨by omega, fun c hc => ?_, fun m hm hall => h3 m (by have := hall d List.mem_cons_self; omega) fun c hc => hall c (List.mem_cons_of_mem _ hc)⟩
    rcases List.mem_cons.1 hc with rfl | hc
    · omega
    · exact h2 c hc
theorem foldMax (f : Int → Int) : ∀ (l : List Int) (a : Int), a ≤ l.foldl (fun h c => max h (f c)) a ∧ (∀ c ∈ l, f c ≤ l.foldl (fun h c => max h (f c)) a) ∧ ∀ m, a ≤ m → (∀ c ∈ l, f c ≤ m) → l.foldl (fun h c => max h (f c)) a ≤ m
  | [], a => ⟨Int.le_refl _, fun c h => (by cases h), fun m h _ => h⟩
  | d :: r, a => by
    obtain ⟨h1, h2, h3⟩ := foldMax f r (max a (f d))
    simp only [List.foldl_cons]
    refine ⟨by omega, fun c hc => ?_, fun m hm hall => h3 m (by have := hall d List.mem_cons_self; omega) fun c hc => hall c (List.mem_cons_of_mem _ hc)⟩
    rcases List.mem_cons.1 hc with rfl | hc
    · omega
    · exact h2 c hc

/-- of valid nets in a valid order: both extents are one, and lie in the order -/
theorem valid_ext {l : List NetAt} {n : Int} {order : List Int} (hE : Bus.bothErr (l.map NetAt.net) n order = 0) (i : Nat) (hi : i < l.length) :
    (Bus.exts (Bus.atUp order order.length) (l.map NetAt.net)).getD i (0, 0) = refExt order ((l.map NetAt.cols).getD i []) ∧ 0 ≤ (refExt order ((l.map NetAt.cols).getD i [])).1 ∧ (refExt order ((l.map NetAt.cols).getD i [])).1 ≤ (refExt order ((l.map NetAt.cols).getD i [])).2 ∧
      (refExt order ((l.map NetAt.cols).getD i [])).2 < order.length := by
  obtain ⟨z1, z2⟩ := both_zero hE
  obtain ⟨n1, n97, l64, hcols⟩ := Bus.netsErr_zero z1
  obtain ⟨on, ond, oin⟩ := Bus.orderErr_zero z2
  have hall : ∀ c, 0 ≤ c → c < n → c ∈ order := fun c h0 h1 => has_all order.length order ond rfl (fun d hd => by have := oin d hd; omega) c h0 (by omega)
  obtain ⟨x, hx⟩ : ∃ x, l[i]? = some x := ⟨_, List.getElem?_eq_getElem hi⟩
  have hxm : x ∈ l := List.mem_of_getElem? hx
  have hc1 : (l.map NetAt.cols).getD i [] = x.cols := by simp only [List.getD_eq_getElem?_getD, List.getElem?_map, hx, Option.map_some, Option.getD_some]
  have hne := (hcols x.net (List.mem_map_of_mem hxm)).1
  have hin := (hcols x.net (List.mem_map_of_mem hxm)).2
  have hxe := ref_ext (order := order) (cols := x.cols) (n := n) ond on hne hin hall n97
  rw [hc1]
  have e1 : refExt order x.cols = Bus.ext (fun c => Bus.atUp order order.length c.toNat) x.cols := hxe
  have hp : ∀ c ∈ x.cols, 0 ≤ Bus.pos order c ∧ Bus.pos order c < order.length := fun c hc => Bus.pos_bd (hall c (hin c hc).1 (hin c hc).2)
  have hlow : Bus.refLow (Bus.pos order) (-1) x.cols = (Bus.ext (Bus.pos order) x.cols).1 := Bus.refLow_ext _ _ hne fun c hc => by have := hp c hc; omega
  obtain ⟨m1, m2, m3⟩ := foldMin (Bus.pos order) x.cols 97
  obtain ⟨k1, k2, k3⟩ := foldMax (Bus.pos order) x.cols (-1)
  obtain ⟨c0, hc0⟩ : ∃ c, c ∈ x.cols := List.exists_mem_of_ne_nil _ hne
  have hlo : (refExt order x.cols).1 = x.cols.foldl (fun l c => min l (Bus.pos order c)) 97 := hlow
  have hhi : (refExt order x.cols).2 = x.cols.foldl (fun h c => max h (Bus.pos order c)) (-1) := rfl
  refine ⟨?_, ?_, ?_, ?_⟩
  · rw [e1]
    simp [Bus.exts, hx, NetAt.net]
  · rw [hlo]; exact m3 0 (by omega) fun c hc => (hp c hc).1
  · rw [hlo, hhi]; exact Int.le_trans (m2 c0 hc0) (k2 c0 hc0)
  · rw [hhi]
    have hpos : (0 : Int) < order.length := by omega
    have := k3 (order.length - 1) (by omega) fun c hc => by have := (hp c hc).2; omega
    omega
theorem valid_meet {l : List NetAt} {n : Int} {order : List Int} (hE : Bus.bothErr (l.map NetAt.net) n order = 0) (i k : Nat) (hi : i < l.length) (hk : k < l.length) :
    meetB (Bus.exts (Bus.atUp order order.length) (l.map NetAt.net)) i k = meetFrom (refExt order ((l.map NetAt.cols).getD i [])) (refExt order ((l.map NetAt.cols).getD k [])) order.length 0 := by
  obtain ⟨a1, a2, a3, a4⟩ := valid_ext hE i hi
  obtain ⟨b1, b2, b3, b4⟩ := valid_ext hE k hk
  rw [meetFrom_eq _ _ _ ⟨a2, a3, a4⟩ ⟨b2, b3, b4⟩]
  unfold meetB
  rw [a1, b1]

theorem allHit_congr {p q : Nat → Nat → Bool} {n : Nat} (h : ∀ i k, k < i → i < n → p i k = q i k) : allHit p n = allHit q n := by
  rw [Bool.eq_iff_iff, allHit_iff, allHit_iff]
  exact ⟨fun ⟨i, k, h1, h2, h3⟩ => ⟨i, k, h1, h2, by rw [← h i k h1 h2]; exact h3⟩, fun ⟨i, k, h1, h2, h3⟩ => ⟨i, k, h1, h2, by rw [h i k h1 h2]; exact h3⟩⟩
theorem confRow_hit (xs : List (Int × Int)) (ts : List Int) (i : Nat) : ∀ k, confRow xs ts i k = rowHit (fun k => ts.getD i 0 == ts.getD k 0 && meetB xs i k) k
  | 0 => rfl
  | k + 1 => by rw [confRow, rowHit, confRow_hit xs ts i k]
theorem conf_hit (xs : List (Int × Int)) (ts : List Int) : ∀ n, conf xs ts n = allHit (fun i k => ts.getD i 0 == ts.getD k 0 && meetB xs i k) n
  | 0 => rfl
  | n + 1 => by rw [conf, allHit, conf_hit xs ts n, confRow_hit]

/-- the check of a layout: the program's and the reference's are one -/
theorem lay_same (l : List NetAt) (n : Int) (order ts : List Int) : layErr (l.map NetAt.net) n order ts = layErrR l n order ts := by
  unfold layErr layErrR
  by_cases hE : Bus.bothErr (l.map NetAt.net) n order = 0
  · have h0 : ¬ Bus.bothErr (l.map NetAt.net) n order ≠ 0 := fun h => h hE
    rw [if_neg h0, if_neg h0, List.length_map, conf_hit]
    rw [allHit_congr (q := clashR l order ts) fun i k h1 h2 => by unfold clashR; rw [valid_meet hE i k h2 (by omega)]]
  · rw [if_pos hE, if_pos hE]
end Go.Proofs.YtbldpojkpmafpaaGreatDoor

/- The reference of package bus: Extent, Meet, covers as contracts on plain data; Clique. -/
namespace Go.Proofs.YtbldpojkpmafpaaGreatDoor
open Go.RowKit Sv
set_option maxRecDepth 100000
set_option linter.unusedVariables false
noncomputable section
abbrev tN : Ty := .pair (.int .i64) (.list false (.int .i64))
noncomputable def cCovers : Ctr := { f := 99, ps := [tN, .list false (.int .i64), .int .i64], rs := [.bool], fresh := true, pre := fun d => decide (List.length (α := Int) d.2.1 ≤ 1000) && decide (List.length (α := Int) d.1.2 ≤ 140737488355328), fn := fun d => ((covR (refExt d.2.1 d.1.2) d.2.2.1 : Bool), ()) }
--{
theorem den_net {F : Env} {w : World} {x : Int × List Int} {v : Value} (hF : OkF w F) (h : Den F (valV tN x) v) : ∃ A c, v = netV ⟨x.1, x.2, A, c⟩ ∧ Row w w.heap.size A (x.2.map (Value.int .i64)) := by
  obtain ⟨xs, h1, rfl⟩ := Den.agg_inv (cs := [.raw (.int .i64 x.1), .lst false tInt x.2]) h
  cases h1 with
  | cons h1 h2 =>
    cases h2 with
    | cons h2 h3 =>
      cases h3
      obtain ⟨A, c, rfl, _, hR⟩ := den_ints hF h2
      rw [h1.raw_eq]
      exact ⟨A, c, rfl, hR⟩
theorem cCovers_ok : cCovers.Ok Tryz.prog := fun ⟨x, order, p, _⟩ h => holds_raw fun w F xs hF hd => by
  obtain ⟨h1, h2⟩ := Bool.and_eq_true_iff.1 h
  cases hd with
  | cons d1 d2 =>
    cases d2 with
    | cons d2 d3 =>
      cases d3 with
      | cons d3 d4 =>
        cases d4
        obtain ⟨A, c, rfl, hx⟩ := den_net hF d1
        obtain ⟨A2, c2, rfl, _, hR⟩ := den_ints hF d2
        rw [d3.raw_eq]
        exact refCovers_any ⟨x.1, x.2, A, c⟩ A2 c2 w.heap.size order p w hx hR (Nat.le_refl _) (of_decide_eq_true h1) (of_decide_eq_true h2)
--}

/-! ### Clique -/
abbrev ob (j : Nat) (l : List Int) : AV := .osl 3 (.int .i64) j 0 l.length (capOf l.length)
abbrev oe (l : List Int) : Ent := .opt 3 (.int .i64) l
--{
theorem goalL_blk {P : Program} {w0 : World} {F : Env} {n : Nat} {T : Tr AV} {H : AHeap} {Q : Exit → Tr AV → AHeap → Prop} {l rest : List Code} {id : Nat} {c : Code} (hl : l = .block id c :: rest)
    (h : GoalL P w0 F n (flatC c) T H (inB id (onN (fun T H => GoalL P w0 F n rest T H Q) Q))) : GoalL P w0 F n l T H Q := by
  subst hl
  exact Goal.block (x := c) rfl (goal_flat h)
theorem cap_snoc (l : List Int) (x : Int) : Cap.full = capOf (l ++ [x]).length := by simp [capOf]
theorem lst_back (l : List Int) : l = List.take l.length (List.drop 0 l) := by simp
theorem own_back (e : TypeId) (l : List Int) : l.length = 0 ∨ ownHas e (.int .i64) (optOwn e (.int .i64) l) (0 + l.length - 1) = true := by
  by_cases h : l.length = 0
  · exact .inl h
  · exact .inr (by rw [ownHas_optOwn]; exact decide_eq_true (show 0 + l.length - 1 < l.length by omega))
--}
end
end Go.Proofs.YtbldpojkpmafpaaGreatDoor

/- Package bus, with no program in sight: the tracks of the left ends in their order are the tracks that the reference finds. -/
namespace Go.Proofs.YtbldpojkpmafpaaGreatDoor
open Go.RowKit

/-! ### a stable sort -/
/-- by low, then by place -/
def Lo (K : Nat → Int) (a b : Nat) : Prop := K a < K b ∨ K a = K b ∧ a < b
theorem Lo.trans {K : Nat → Int} {a b c : Nat} (h1 : Lo K a b) (h2 : Lo K b c) : Lo K a c := by
  unfold Lo at *; omega
/-! ### one net more -/
/-- a net that is done stands on the track of net i, and meets it -/
def hit (meet : Nat → Nat → Bool) (out : List Int) (dn : List Nat) (i : Nat) : Bool := dn.any fun j => out.getD j 0 == out.getD i 0 && meet j i
def place (meet : Nat → Nat → Bool) (dn : List Nat) (i : Nat) : Nat → List Int → List Int
  | 0, out => out
  | m + 1, out => if hit meet out dn i = true then place meet dn i m (out.set i (out.getD i 0 + 1)) else out
theorem getD_set_ne {l : List Int} {i j : Nat} {x : Int} (h : i ≠ j) : (l.set i x).getD j 0 = l.getD j 0 := by simp [List.getD_eq_getElem?_getD, List.getElem?_set_ne h]
/-! ### all nets -/
end Go.Proofs.YtbldpojkpmafpaaGreatDoor

/- The reference of package bus: Tracks. -/
namespace Go.Proofs.YtbldpojkpmafpaaGreatDoor
open Go.RowKit Sv
set_option maxRecDepth 100000
set_option linter.unusedVariables false
noncomputable section
/-- the low of a net, and whether two nets meet, as the reference has them -/
def lowR (nets : List (Int × List Int)) (order : List Int) (i : Nat) : Int := Bus.refLow (Bus.pos order) (-1) (nets.getD i (0, [])).2
/-- what holds of the tracks so far -/
structure Far (nets : List (Int × List Int)) (order : List Int) (p i : Nat) (out : List Int) (dn : List Nat) : Prop where
  len : out.length = nets.length
  few : dn.length ≤ p * nets.length + i
  mem : ∀ j ∈ dn, j < nets.length ∧ 0 ≤ out.getD j 0 ∧ out.getD j 0 < dn.length ∧ (lowR nets order j < p ∨ lowR nets order j = p ∧ j < i)
  rest : ∀ j, j ∉ dn → out.getD j 0 = 0
theorem Far.other {nets : List (Int × List Int)} {order : List Int} {p i : Nat} {out : List Int} {dn : List Nat} (h : Far nets order p i out dn) : Far nets order p (i + 1) out dn :=
  ⟨h.len, by have := h.few; omega, fun j hj => by obtain ⟨g1, g2, g3, g4⟩ := h.mem j hj; exact ⟨g1, g2, g3, by omega⟩, h.rest⟩
theorem Far.next {nets : List (Int × List Int)} {order : List Int} {p : Nat} {out : List Int} {dn : List Nat} (h : Far nets order p nets.length out dn) : Far nets order (p + 1) 0 out dn :=
  ⟨h.len, by have := h.few; rw [Nat.add_mul]; omega, fun j hj => by obtain ⟨g1, g2, g3, g4⟩ := h.mem j hj; exact ⟨g1, g2, g3, by omega⟩, h.rest⟩
theorem goalL_nil {P : Program} {w0 : World} {F : Env} {n : Nat} {T : Tr AV} {H : AHeap} {Q : Exit → Tr AV → AHeap → Prop} {l : List Code} (e : l = []) (h : Q .normal T H) : GoalL P w0 F n l T H Q := by
  rw [e]; exact h
end
end Go.Proofs.YtbldpojkpmafpaaGreatDoor

/- The reference of package bus: Tracks whole; Tracks and Clique as contracts. -/
namespace Go.Proofs.YtbldpojkpmafpaaGreatDoor
open Go.RowKit Sv
set_option maxRecDepth 100000
set_option linter.unusedVariables false
noncomputable section
def okNets (nets : List (Int × List Int)) (order : List Int) : Bool := decide (nets.length ≤ 500) && (decide (order.length ≤ 1000) && nets.all fun x => decide (x.2.length ≤ 140737488355328))
theorem okNets_iff {nets : List (Int × List Int)} {order : List Int} (h : okNets nets order = true) : nets.length ≤ 500 ∧ order.length ≤ 1000 ∧ ∀ x ∈ nets, x.2.length ≤ 140737488355328 := by
  unfold okNets at h
  simp only [Bool.and_eq_true, decide_eq_true_eq, List.all_eq_true] at h
  exact ⟨h.1, h.2.1, h.2.2⟩
end
end Go.Proofs.YtbldpojkpmafpaaGreatDoor

/- Package bus: Tracks, Clique as contracts on plain data. -/
namespace Go.Proofs.YtbldpojkpmafpaaGreatDoor
open Go.RowKit Sv
set_option maxRecDepth 100000
set_option linter.unusedVariables false
noncomputable section
abbrev extsOf (nets : List (Int × List Int)) (order : List Int) : List (Int × Int) := Bus.exts (Bus.atUp order order.length) nets
end
end Go.Proofs.YtbldpojkpmafpaaGreatDoor
