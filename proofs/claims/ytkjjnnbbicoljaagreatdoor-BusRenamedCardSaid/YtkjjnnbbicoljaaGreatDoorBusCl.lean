/- Package bus: the check of a clique. -/
import Derived.Test.YtkjjnnbbicoljaaGreatDoorBusRefCl
namespace Go.Proofs.YtkjjnnbbicoljaaGreatDoor
open Go.RowKit

def findAt (x : Int) (k : Nat) : List Int → Int
  | [] => -1
  | t :: r => if t = x then (k : Int) else findAt x (k + 1) r
theorem findAt_sign (x : Int) : ∀ (ts : List Int) (k : Nat), decide (0 ≤ findAt x k ts) = decide (x ∈ ts)
  | [], k => by simp [findAt]
  | t :: r, k => by
      have := findAt_sign x r (k + 1)
      unfold findAt
      by_cases h : t = x
      · rw [if_pos h]; subst h; simp
      · rw [if_neg h, this]
        have h' : ¬ x = t := fun e => h e.symm
        simp [h']
set_option maxRecDepth 100000 in
theorem Index_any (A : Option Addr) (c B : Nat) (es : List Int) (x : Int) (w : World) (hl : es.length ≤ 1000000) (h : Row w B A (es.map (Value.int .i64))) :
    Calls Tryz.prog 76 #[.slice A es.length c, .int .i64 x] w fun e w' => e = .returned (.int .i64 (findAt x 0 es)) ∧ w = w' := by
  have H := Lib.hid h
  clear h
  obtain ⟨r, hr⟩ : ∃ r, findAt x 0 es = r := ⟨_, rfl⟩
  rw [hr]
  have HR := Lib.hid hr
  clear hr
  go_enter Tryz.func76, Tryz.ntmps76
  go_wp2_with fail
  go_loop [8] (fun i => ∃ k : Nat, k ≤ es.length ∧ i = .int .i64 k ∧ findAt x k (es.drop k) = r) (fun i => es.length - (intOf i).toNat)
  case atStart => exact ⟨0, Nat.zero_le _, rfl, HR.out⟩
  case round =>
    obtain ⟨k, hk, rfl, hpre⟩ := hrel
    have HP := Lib.hid hpre
    clear hpre
    by_cases hlt : k < es.length
    · obtain ⟨b, off, y, rfl, hbB, hx, hc⟩ := H.out.int k hlt
      have hd : es.drop k = y :: es.drop (k + 1) := by
        rw [List.drop_eq_getElem_cons hlt]
        rw [List.getElem?_eq_getElem hlt] at hx
        rw [Option.some.inj hx]
      have hp := HP.out
      rw [hd] at hp
      unfold findAt at hp
      have hlt' : (k : Int) < (es.length : Int) := by omega
      clear hx hd HP
      by_cases hy : y = x
      · rw [if_pos hy] at hp
        have HN := Lib.hid hp
        have hbe : (x == y) = true := by rw [beq_iff_eq]; exact hy.symm
        clear hp
        go_wp2_with fail
        go_ret
        exact ⟨ret_i64 HN.out, rfl⟩
      · rw [if_neg hy] at hp
        have HN := Lib.hid hp
        have hbe : (x == y) = false := by rw [beq_eq_false_iff_ne]; exact fun e => hy e.symm
        clear hp
        go_wp2_with fail
        go_round
        case rel => exact ⟨k + 1, by omega, by go_num, HN.out⟩
        case measure => simp [intOf]; omega
    · obtain rfl : k = es.length := by omega
      have HN := Lib.hid (show (-1 : Int) = r by rw [← HP.out, List.drop_length]; rfl)
      go_wp2_with fail
      go_ret
      exact ⟨ret_i64 HN.out, rfl⟩
set_option maxRecDepth 100000 in
theorem Contains_any (A : Option Addr) (c B : Nat) (es : List Int) (x : Int) (w : World) (hl : es.length ≤ 1000000) (h : Row w B A (es.map (Value.int .i64))) :
    Calls Tryz.prog 63 #[.slice A es.length c, .int .i64 x] w fun e w' => e = .returned (.bool (decide (x ∈ es))) ∧ w = w' := by
  have H := Lib.hid (Index_any A c B es x w hl h)
  have hs := findAt_sign x es 0
  generalize findAt x 0 es = f at *
  clear h
  go_enter Tryz.func63, Tryz.ntmps63
  go_wp2_with (refine H.out.mono ?_; rintro e w' ⟨rfl, rfl⟩)
  go_ret
  exact ⟨by rw [← hs]; rfl, rfl⟩

/-- do two nets of a list not meet? -/
def apartB (xs : List (Int × Int)) (cl : List Int) (i k : Nat) : Bool := !meetB xs (cl.getD i 0).toNat (cl.getD k 0).toNat
def cliqueErr (l : List Bus.Net) (n : Int) (order cl : List Int) : Int :=
  if Bus.bothErr l n order ≠ 0 then Bus.bothErr l n order else if Bus.orderFrom l.length [] cl ≠ 0 then Bus.orderFrom l.length [] cl else if allHit (apartB (Bus.exts (Bus.atUp order order.length) l) cl) cl.length = true then 20 else 0

set_option maxHeartbeats 8000000 in
set_option maxRecDepth 100000 in
theorem CheckClique_bad (A A2 A3 : Option Addr) (c c2 c3 B : Nat) (l : List NetAt) (order cl : List Int) (n : Int) (w : World) (h : NetsIn w B A l) (h2 : Row w B A2 (order.map (Value.int .i64))) (hi : ∀ c ∈ order, I64 c) (hB : B ≤ w.heap.size) (hl : l.length ≤ 140737488355328) (hl2 : order.length ≤ 1000000)
    (E : Int) (hE : Bus.bothErr (l.map NetAt.net) n order = E) (h0 : E ≠ 0) :
    Calls Tryz.prog 26 #[.slice A l.length c, .int .i64 n, .slice A2 order.length c2, .slice A3 cl.length c3] w fun e w' => e = .returned (.int .i64 E) ∧ Below w.heap.size w w' := by
  have HC := Lib.hid (checked_any A A2 c c2 B l order n w h h2 hi hB hl hl2)
  rw [hE] at HC
  have hne : (E != 0) = true := by rw [bne_iff_ne]; exact h0
  clear h h2 hi hE
  go_enter Tryz.func26, Tryz.ntmps26
  go_wp2_with fail
  refine HC.out.mono ?_
  rintro e w1 ⟨rfl, hb1⟩
  go_wp2_with fail
  go_ret
  exact ⟨rfl, hb1⟩

set_option maxHeartbeats 8000000 in
set_option maxRecDepth 100000 in
theorem CheckClique_ok (A A2 A3 : Option Addr) (c c2 c3 B : Nat) (l : List NetAt) (order cl : List Int) (n : Int) (w : World) (h : NetsIn w B A l) (h2 : Row w B A2 (order.map (Value.int .i64))) (h3 : Row w B A3 (cl.map (Value.int .i64))) (hi : ∀ c ∈ order, I64 c) (hB : B ≤ w.heap.size) (hl : l.length ≤ 140737488355328) (hl2 : order.length ≤ 1000000) (hl3 : cl.length ≤ 1000000) (hc3 : cl.length ≤ c3)
    (hE : Bus.bothErr (l.map NetAt.net) n order = 0) :
    Calls Tryz.prog 26 #[.slice A l.length c, .int .i64 n, .slice A2 order.length c2, .slice A3 cl.length c3] w fun e w' => e = .returned (.int .i64 (cliqueErr (l.map NetAt.net) n order cl)) ∧ Below w.heap.size w w' := by
  have HC := Lib.hid (checked_any A A2 c c2 B l order n w h h2 hi hB hl hl2)
  rw [hE] at HC
  obtain ⟨z1, z2⟩ := both_zero hE
  have HST := Lib.hid (fun w' (hb : Below w.heap.size w w') => stand_any A A2 c c2 B l order n w' (h.below hb hB) (h2.below hb hB) (by have := hb.size; omega) z2 z1)
  obtain ⟨r, hr⟩ : ∃ r, cliqueErr (l.map NetAt.net) n order cl = r := ⟨_, rfl⟩
  rw [hr]
  unfold cliqueErr at hr
  rw [hE, if_neg (by decide), List.length_map] at hr
  have H3 := Lib.hid h3
  clear h h2 h3 hi hE z1 z2
  go_enter Tryz.func26, Tryz.ntmps26
  go_wp2_with fail
  refine HC.out.mono ?_
  rintro e w1 ⟨rfl, hb1⟩
  go_wp2_with fail
  obtain ⟨q, hq⟩ : ∃ q, Bus.orderFrom (l.length : Int) [] cl = q := ⟨_, rfl⟩
  rw [hq] at hr
  have HQ := Lib.hid hq
  have HR := Lib.hid hr
  clear hr hq
  go_loopw [27] (fun i wr => ∃ k : Nat, k ≤ cl.length ∧ i = .int .i64 k ∧ Bus.orderFrom (l.length : Int) (cl.take k) (cl.drop k) = q ∧ Below w.heap.size w wr) (fun i _ => cl.length - (intOf i).toNat)
  case atStart => exact ⟨0, Nat.zero_le _, rfl, HQ.out, hb1⟩
  case round =>
    obtain ⟨k, hk, rfl, hpre, eb⟩ := hrel
    have hsz := eb.size
    have HP := Lib.hid hpre
    clear hpre
    by_cases hlt : k < cl.length
    · have hrowk := H3.out.take (n := k)
      rw [← List.map_take] at hrowk
      obtain ⟨b, off, x, rfl, hbB, hx, hc1⟩ := H3.out.int k hlt
      have hck := (eb.cell (p := ⟨b, off + k, none⟩) (by show b < _; omega)).trans hc1
      have hd : cl.drop k = x :: cl.drop (k + 1) := by
        rw [List.drop_eq_getElem_cons hlt]
        rw [List.getElem?_eq_getElem hlt] at hx
        rw [Option.some.inj hx]
      have HT := Lib.hid (show cl.take (k + 1) = cl.take k ++ [x] by rw [List.take_add_one, hx]; rfl)
      have hp := HP.out
      rw [hd] at hp
      unfold Bus.orderFrom at hp
      have hin : Calls Tryz.prog 63 #[.slice (some ⟨b, off, none⟩) k c3, .int .i64 x] wr.drew fun e w' => e = .returned (.bool (decide (x ∈ cl.take k))) ∧ w' = wr.drew := by
        have h := Contains_any (some ⟨b, off, none⟩) c3 B (cl.take k) x wr.drew (by rw [List.length_take]; omega) (hrowk.below eb.drew hB)
        rw [List.length_take, Nat.min_eq_left hk] at h
        exact h.mono fun _ _ h => ⟨h.1, h.2.symm⟩
      have hlt' : (k : Int) < (cl.length : Int) := by omega
      have hkc : k ≤ c3 := by omega
      clear hx hd hc1 hrowk
      have bad : ∀ E : Int, E ≠ 0 → E = q → E = r := fun E h0 h1 => by
        have := HR.out
        rw [← h1, if_pos h0] at this
        exact this
      by_cases hx0 : x < 0 ∨ (l.length : Int) ≤ x
      · have hb1 : (decide (x < 0) || decide ((l.length : Int) ≤ x)) = true := by rw [Bool.or_eq_true, decide_eq_true_eq, decide_eq_true_eq]; exact hx0
        rw [if_pos hx0] at hp
        have HB := Lib.hid (bad 10 (by decide) hp)
        obtain ⟨v2, hv2⟩ : ∃ v2, decide (x ∈ cl.take k) = v2 := ⟨_, rfl⟩
        rw [hv2] at hin
        have HI := Lib.hid hin
        clear hp HP hin bad hv2
        have hsplit : x < 0 ∨ (¬ x < 0 ∧ (l.length : Int) ≤ x) := by omega
        clear hx0
        rcases hsplit with hx1 | ⟨hx1, hx2⟩
        all_goals
          go_wp2_with fail
          go_still_tail 15, (by kernel_rfl)
          still_call (when_on _ _ _ (by first | rfl | assumption | simp))
          repeat still_step
          still_call HI.out
          repeat still_step
          still_call (when_st v2 _ _)
          repeat still_step
          refine wpStill_nil ?_
          change wpList _ _ _ _ _ wr.drew
          generalize hW2 : wr.drew = W2
          have eb2 : Below w.heap.size w W2 := by rw [← hW2]; exact eb.drew
          have hsz2 := eb2.size
          clear hW2 eb hck HI
          obtain ⟨E, hE⟩ : ∃ E : Int, (if v2 = true then 9 else 0) = E := ⟨_, rfl⟩
          rw [hE]
          have HF := Lib.hid (first_two 10 E W2 26)
          rw [firstOf_hit 10 _ (by decide)] at HF
          go_wp2_with (go_at_call 60; refine HF.out.mono ?_; rintro e w1 ⟨rfl, rfl⟩)
          go_ret
          exact ⟨ret_i64 HB.out, eb2.alloc hsz2 _⟩
      · have hx1 : ¬ x < 0 := fun h => hx0 (.inl h)
        have hx2 : ¬ (l.length : Int) ≤ x := fun h => hx0 (.inr h)
        have hb1 : (decide (x < 0) || decide ((l.length : Int) ≤ x)) = false := by simp; omega
        rw [if_neg hx0] at hp
        clear hx0
        by_cases h2 : x ∈ cl.take k
        · have hd2 : decide (x ∈ cl.take k) = true := decide_eq_true h2
          rw [if_pos h2] at hp
          rw [hd2] at hin
          have HB := Lib.hid (bad 9 (by decide) hp)
          have HI := Lib.hid hin
          clear hp HP hin hd2 h2 bad
          go_wp2_with fail
          go_still_tail 15, (by kernel_rfl)
          still_call (when_off _ _ _ (by first | rfl | assumption | simp))
          repeat still_step
          still_call HI.out
          repeat still_step
          still_call (when_on _ _ _ rfl)
          repeat still_step
          refine wpStill_nil ?_
          change wpList _ _ _ _ _ wr.drew
          generalize hW2 : wr.drew = W2
          have eb2 : Below w.heap.size w W2 := by rw [← hW2]; exact eb.drew
          have hsz2 := eb2.size
          clear hW2 eb hck HI
          have HF := Lib.hid (first_two 0 9 W2 26)
          rw [firstOf_miss, firstOf_hit 9 _ (by decide)] at HF
          go_wp2_with (go_at_call 60; refine HF.out.mono ?_; rintro e w1 ⟨rfl, rfl⟩)
          go_ret
          exact ⟨ret_i64 HB.out, eb2.alloc hsz2 _⟩
        · have hd2 : decide (x ∈ cl.take k) = false := decide_eq_false h2
          rw [if_neg h2, ← HT.out] at hp
          rw [hd2] at hin
          have HB := Lib.hid hp
          have HI := Lib.hid hin
          clear hp HP hin hd2 h2 bad
          go_wp2_with fail
          go_still_tail 15, (by kernel_rfl)
          still_call (when_off _ _ _ (by first | rfl | assumption | simp))
          repeat still_step
          still_call HI.out
          repeat still_step
          still_call (when_off _ _ _ rfl)
          repeat still_step
          refine wpStill_nil ?_
          change wpList _ _ _ _ _ wr.drew
          generalize hW2 : wr.drew = W2
          have eb2 : Below w.heap.size w W2 := by rw [← hW2]; exact eb.drew
          have hsz2 := eb2.size
          clear hW2 eb hck HI
          have HF := Lib.hid (first_two 0 0 W2 26)
          rw [show firstOf [0, 0] = 0 from rfl] at HF
          go_wp2_with (go_at_call 60; refine HF.out.mono ?_; rintro e w1 ⟨rfl, rfl⟩)
          go_roundw
          case rel => exact ⟨k + 1, by omega, by go_num, HB.out, eb2.alloc hsz2 _⟩
          case measure => simp [intOf]; omega
    · obtain rfl : k = cl.length := by omega
      have hq0 : q = 0 := by rw [← HP.out, List.drop_length]; rfl
      have hof : Bus.orderFrom (l.length : Int) [] cl = 0 := HQ.out.trans hq0
      have HIN := Lib.hid (fun (x : Int) (hx : x ∈ cl) => Bus.orderFrom_mem (l.length : Int) cl [] hof x hx)
      have hr := HR.out
      rw [hq0, if_neg (by decide)] at hr
      have HRR := Lib.hid hr
      obtain ⟨W, hW⟩ : ∃ W, wr = W := ⟨_, rfl⟩
      rw [hW] at eb hsz ⊢
      clear hW hr HP hq0 hof HR HQ
      go_wp2_with fail
      have e2a := eb
      refine (HST.out _ eb).mono ?_
      rintro e w2 ⟨g, v, rfl, hg, hrow, hown, hb2⟩
      have e2 := below_after eb hb2 (Nat.le_refl _)
      have hlen := exts_len (Bus.atUp order order.length) l
      obtain ⟨xs, hxs⟩ : ∃ xs, Bus.exts (Bus.atUp order order.length) (l.map NetAt.net) = xs := ⟨_, rfl⟩
      rw [hxs] at hown hlen
      have HRX := HRR.out
      rw [hxs] at HRX
      obtain ⟨Av, cv, rfl, _, hr⟩ := own_cap hown
      rw [← hlen] at hrow
      have HMT := Lib.hid (fun (i j : Nat) w' (hb : Below w2.heap.size w2 w') (hi : i < xs.length) (hj : j < xs.length) => meet_any g _ _ Av cv w2.heap.size i j xs w' (hrow.below hb) (hr.below hb (Nat.le_refl _)) hb.size hi hj)
      have HLX := Lib.hid hlen
      have HRR := Lib.hid HRX
      have s2 := e2.size
      clear hown hrow hr hb2 e2a HST HRX hlen hxs
      go_wp2_with fail
      go_loopw [58] (fun i wr => ∃ k : Nat, k ≤ cl.length ∧ i = .int .i64 k ∧ allHit (apartB xs cl) k = false ∧ Below w2.heap.size w2 wr) (fun i _ => cl.length - (intOf i).toNat)
      case atStart => exact ⟨0, Nat.zero_le _, rfl, rfl, Below.refl _ _⟩
      case round =>
        obtain ⟨k, hk, rfl, hak, ek⟩ := hrel
        have hszk := ek.size
        by_cases hlk : k < cl.length
        · obtain ⟨W2, hW⟩ : ∃ W, wr = W := ⟨_, rfl⟩
          rw [hW] at ek hszk ⊢
          clear hW
          have HAK := Lib.hid hak
          obtain ⟨b, off, x, hA3, hbB, hx, hcx⟩ := H3.out.int k hlk
          have ewk := below_after e2 ek (Nat.le_refl _)
          have hcx2 := (ewk.cell (p := ⟨b, off + k, none⟩) (by show b < _; omega)).trans hcx
          subst hA3
          have hkc : k ≤ c3 := by omega
          have hkt : (k : Int) < (cl.length : Int) := by omega
          clear hak hcx
          go_wp2_with fail
          go_loopw [67] (fun i wz => ∃ j : Nat, j ≤ k ∧ i = .int .i64 j ∧ rowHit (apartB xs cl k) j = false ∧ Below w2.heap.size w2 wz) (fun i _ => k - (intOf i).toNat)
          case atStart => exact ⟨0, Nat.zero_le _, rfl, rfl, ek⟩
          case round =>
            obtain ⟨j, hj, rfl, hrj, ez⟩ := hrel
            have hszz := ez.size
            by_cases hlj : j < k
            · obtain ⟨b', off', y, hA3', _, hy, hcy⟩ := H3.out.int j (by omega)
              injection hA3' with hA3'; injection hA3' with h1 h2; subst h1; subst h2
              have ewz := below_after e2 ez (Nat.le_refl _)
              have hcy2 := (ewz.cell (p := ⟨b, off + j, none⟩) (by show b < _; omega)).trans hcy
              obtain ⟨x0, x1, _⟩ := HIN.out x (List.mem_of_getElem? hx)
              obtain ⟨y0, y1, _⟩ := HIN.out y (List.mem_of_getElem? hy)
              have hll := HLX.out
              have gx : cl.getD k 0 = x := by rw [List.getD_eq_getElem?_getD, hx]; rfl
              have gy : cl.getD j 0 = y := by rw [List.getD_eq_getElem?_getD, hy]; rfl
              have hmt := HMT.out x.toNat y.toNat wr ez (by omega) (by omega)
              rw [Int.toNat_of_nonneg x0, Int.toNat_of_nonneg y0] at hmt
              have hcl : apartB xs cl k j = !meetB xs x.toNat y.toNat := by unfold apartB; rw [gx, gy]
              have HST := Lib.hid (show rowHit (apartB xs cl k) (j + 1) = !meetB xs x.toNat y.toNat by rw [rowHit, hrj, Bool.false_or, hcl])
              have HIT := Lib.hid (fun (hh : apartB xs cl k j = true) => (allHit_iff (apartB xs cl) cl.length).2 ⟨k, j, hlj, hlk, hh⟩)
              rw [hcl] at HIT
              generalize meetB xs x.toNat y.toNat = hit at *
              have HMM := Lib.hid hmt
              have hjk : (j : Int) < (k : Int) := by omega
              clear hmt gx gy hcl hrj hy hcy
              cases hit
              · go_wp2_with (first
                  | (go_at_call 62; refine HMM.out.mono ?_; rintro e w6 ⟨rfl, hb6⟩))
                have e6 := below_after ewz hb6 (Nat.le_refl _)
                have hq := HRR.out
                rw [if_pos (HIT.out rfl)] at hq
                have HQ := Lib.hid hq
                clear hq
                go_ret
                exact ⟨ret_i64 HQ.out, e6⟩
              · go_wp2_with (first
                  | (go_at_call 62; refine HMM.out.mono ?_; rintro e w6 ⟨rfl, hb6⟩))
                have e6 := below_after ez hb6 (Nat.le_refl _)
                go_roundw
                case rel => exact ⟨j + 1, by omega, by go_num, HST.out, e6⟩
                case measure => simp [intOf]; omega
            · obtain rfl : k = j := by omega
              have HC2 := Lib.hid (show allHit (apartB xs cl) (k + 1) = false by rw [allHit, HAK.out, hrj]; rfl)
              go_wp2_with fail
              go_roundw
              case rel => exact ⟨k + 1, by omega, by go_num, HC2.out, ez⟩
              case measure => simp [intOf]; omega
        · obtain rfl : k = cl.length := by omega
          have hq := HRR.out
          rw [if_neg (by rw [hak]; decide)] at hq
          have HQ := Lib.hid hq
          have e3 := below_after e2 ek (Nat.le_refl _)
          clear hq
          go_wp2_with fail
          go_ret
          exact ⟨ret_i64 HQ.out, e3⟩
end Go.Proofs.YtkjjnnbbicoljaaGreatDoor
