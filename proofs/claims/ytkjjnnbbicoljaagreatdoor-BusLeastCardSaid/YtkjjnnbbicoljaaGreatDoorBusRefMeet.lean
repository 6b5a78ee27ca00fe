/- The reference of package bus: whether a net covers a position, and whether two nets meet. -/
import Derived.Test.YtkjjnnbbicoljaaGreatDoorBusRefExt
namespace Go.Proofs.YtkjjnnbbicoljaaGreatDoor
open Go.RowKit

/-- the extent that the reference gives a net -/
def refExt (order : List Int) (cols : List Int) : Int × Int := (Bus.refLow (Bus.pos order) (-1) cols, refHigh (Bus.pos order) cols)
def covR (a : Int × Int) (p : Int) : Bool := decide (a.1 ≤ p) && decide (p ≤ a.2)
def netV (x : NetAt) : Value := .agg #[.int .i64 x.sh, .slice x.loc x.cols.length x.cap]

set_option maxRecDepth 100000 in
theorem refCovers_any (x : NetAt) (A : Option Addr) (c B : Nat) (order : List Int) (p : Int) (w : World) (hr : Row w B x.loc (x.cols.map (Value.int .i64))) (h : Row w B A (order.map (Value.int .i64))) (hB : B ≤ w.heap.size) (hl : order.length ≤ 1000) (hf : x.cols.length ≤ 140737488355328) :
    Calls Tryz.prog 56 #[netV x, .slice A order.length c, .int .i64 p] w fun e w' => e = .returned (.bool (covR (refExt order x.cols) p)) ∧ Below w.heap.size w w' := by
  have HE := Lib.hid (fun w' (hb : Below w.heap.size w w') => refExtent_any x A c B order w' (hr.below hb hB) (h.below hb hB) (by have := hb.size; omega) hl hf)
  unfold refExt
  generalize Bus.refLow (Bus.pos order) (-1) x.cols = lo at *
  generalize refHigh (Bus.pos order) x.cols = hi at *
  unfold netV
  clear h hr
  by_cases hd : lo ≤ p
  · have h1 : decide (lo ≤ p) = true := decide_eq_true hd
    go_enter Tryz.func56, Tryz.ntmps56
    go_wp2_with fail
    have e0 := (Below.refl w.heap.size w).alloc (Nat.le_refl _) (.cells #[.int .i64 x.sh, .slice x.loc x.cols.length x.cap] 37)
    refine (HE.out _ e0).mono ?_
    rintro e w1 ⟨rfl, hb1⟩
    have e1 := below_after e0 hb1 (Nat.le_refl _)
    go_wp2_with fail
    go_ret
    exact ⟨by unfold covR; rw [h1]; rfl, e1⟩
  · have h1 : decide (lo ≤ p) = false := decide_eq_false hd
    go_enter Tryz.func56, Tryz.ntmps56
    go_wp2_with fail
    have e0 := (Below.refl w.heap.size w).alloc (Nat.le_refl _) (.cells #[.int .i64 x.sh, .slice x.loc x.cols.length x.cap] 37)
    refine (HE.out _ e0).mono ?_
    rintro e w1 ⟨rfl, hb1⟩
    have e1 := below_after e0 hb1 (Nat.le_refl _)
    go_wp2_with fail
    go_ret
    exact ⟨by unfold covR; rw [h1]; rfl, e1⟩

def meetFrom (a b : Int × Int) : Nat → Nat → Bool
  | 0, _ => false
  | m + 1, k => (covR a k && covR b k) || meetFrom a b m (k + 1)
theorem meetFrom_step (a b : Int × Int) (n k : Nat) (h : k < n) : meetFrom a b (n - k) k = ((covR a k && covR b k) || meetFrom a b (n - (k + 1)) (k + 1)) := by
  rw [show n - k = (n - (k + 1)) + 1 by omega]; rfl
theorem meetFrom_iff (a b : Int × Int) : ∀ (m k : Nat), meetFrom a b m k = true ↔ ∃ p : Nat, k ≤ p ∧ p < k + m ∧ covR a p = true ∧ covR b p = true
  | 0, k => by simp [meetFrom]; omega
  | m + 1, k => by
    rw [meetFrom, Bool.or_eq_true, Bool.and_eq_true, meetFrom_iff a b m (k + 1)]
    constructor
    · rintro (⟨h1, h2⟩ | ⟨p, h1, h2, h3⟩)
      · exact ⟨k, Nat.le_refl _, by omega, h1, h2⟩
      · exact ⟨p, by omega, by omega, h3⟩
    · rintro ⟨p, h1, h2, h3, h4⟩
      by_cases hp : p = k
      · subst hp; exact .inl ⟨h3, h4⟩
      · exact .inr ⟨p, by omega, by omega, h3, h4⟩
/-- for extents that lie in the order, the reference's word is the plain one -/
theorem meetFrom_eq (a b : Int × Int) (n : Nat) (ha : 0 ≤ a.1 ∧ a.1 ≤ a.2 ∧ a.2 < n) (hb : 0 ≤ b.1 ∧ b.1 ≤ b.2 ∧ b.2 < n) : meetFrom a b n 0 = (decide (a.1 ≤ b.2) && decide (b.1 ≤ a.2)) := by
  rw [Bool.eq_iff_iff, meetFrom_iff, Bool.and_eq_true, decide_eq_true_eq, decide_eq_true_eq]
  constructor
  · rintro ⟨p, _, _, h1, h2⟩
    simp only [covR, Bool.and_eq_true, decide_eq_true_eq] at h1 h2
    omega
  · rintro ⟨h1, h2⟩
    refine ⟨(max a.1 b.1).toNat, by omega, by omega, ?_, ?_⟩ <;> simp only [covR, Bool.and_eq_true, decide_eq_true_eq] <;> omega

set_option maxRecDepth 100000 in
set_option maxHeartbeats 2000000 in
theorem refMeet_any (x y : NetAt) (A : Option Addr) (c B : Nat) (order : List Int) (w : World) (hx : Row w B x.loc (x.cols.map (Value.int .i64))) (hy : Row w B y.loc (y.cols.map (Value.int .i64))) (h : Row w B A (order.map (Value.int .i64))) (hB : B ≤ w.heap.size) (hl : order.length ≤ 1000) (hfx : x.cols.length ≤ 140737488355328) (hfy : y.cols.length ≤ 140737488355328) :
    Calls Tryz.prog 54 #[netV x, netV y, .slice A order.length c] w fun e w' => e = .returned (.bool (meetFrom (refExt order x.cols) (refExt order y.cols) order.length 0)) ∧ Below w.heap.size w w' := by
  have HX := Lib.hid (fun w' (hb : Below w.heap.size w w') p => refCovers_any x A c B order p w' (hx.below hb hB) (h.below hb hB) (by have := hb.size; omega) hl hfx)
  have HY := Lib.hid (fun w' (hb : Below w.heap.size w w') p => refCovers_any y A c B order p w' (hy.below hb hB) (h.below hb hB) (by have := hb.size; omega) hl hfy)
  obtain ⟨r, hr⟩ : ∃ r, meetFrom (refExt order x.cols) (refExt order y.cols) order.length 0 = r := ⟨_, rfl⟩
  rw [hr]
  have HR := Lib.hid hr
  clear hx hy h hr
  generalize refExt order x.cols = ex at *
  generalize refExt order y.cols = ey at *
  unfold netV at *
  go_enter Tryz.func54, Tryz.ntmps54
  go_wp2_with fail
  generalize hW0 : World.alloc _ _ = W0
  have e0 : Below w.heap.size w W0 := by rw [← hW0]; exact ((Below.refl _ w).alloc (Nat.le_refl _) _).alloc (by simp) _
  have d0 : Blk W0 w.heap.size 37 #[.int .i64 x.sh, .slice x.loc x.cols.length x.cap] := by rw [← hW0]; exact (Blk.new _ _ _).alloc _
  have d1 : Blk W0 (w.heap.size + 1) 37 #[.int .i64 y.sh, .slice y.loc y.cols.length y.cap] := by rw [← hW0]; exact Blk.new' _ _ _ _ (by simp)
  clear hW0
  go_loopw [7] (fun i wr => ∃ k : Nat, k ≤ order.length ∧ i = .int .i64 k ∧ meetFrom ex ey (order.length - k) k = r ∧ Below w.heap.size w wr ∧ Blk wr w.heap.size 37 #[.int .i64 x.sh, .slice x.loc x.cols.length x.cap] ∧ Blk wr (w.heap.size + 1) 37 #[.int .i64 y.sh, .slice y.loc y.cols.length y.cap]) (fun i _ => order.length - (intOf i).toNat)
  case atStart => exact ⟨0, Nat.zero_le _, rfl, HR.out, e0, d0, d1⟩
  case round =>
    obtain ⟨k, hk, rfl, hm, eb, q0, q1⟩ := hrel
    obtain ⟨c00, c01⟩ := q0.two
    obtain ⟨c10, c11⟩ := q1.two
    by_cases hlt : k < order.length
    · rw [meetFrom_step _ _ _ _ hlt] at hm
      have hlt' : (k : Int) < (order.length : Int) := by omega
      have HcX := Lib.hid (HX.out wr eb (k : Int))
      have HcY := Lib.hid (fun w' (hb : Below w.heap.size w w') => HY.out w' hb (k : Int))
      generalize covR ex (k : Int) = bx at *
      generalize covR ey (k : Int) = by' at *
      have HM := Lib.hid hm
      clear hm
      cases bx
      · go_wp2_with fail
        refine HcX.out.mono ?_
        rintro e w1 ⟨rfl, hb1⟩
        have e1 := below_after eb hb1 (Nat.le_refl _)
        go_wp2_with fail
        go_roundw
        case rel => exact ⟨k + 1, by omega, by go_num, by simpa using HM.out, e1, keep_blk q0 hb1, keep_blk q1 hb1⟩
        case measure => simp [intOf]; omega
      · go_wp2_with fail
        refine HcX.out.mono ?_
        rintro e w1 ⟨rfl, hb1⟩
        have e1 := below_after eb hb1 (Nat.le_refl _)
        have p0 := keep_blk q0 hb1
        have p1 := keep_blk q1 hb1
        obtain ⟨f10, f11⟩ := p1.two
        cases by'
        · go_wp2_with fail
          refine (HcY.out _ e1).mono ?_
          rintro e w2 ⟨rfl, hb2⟩
          have e2 := below_after e1 hb2 (Nat.le_refl _)
          go_wp2_with fail
          go_roundw
          case rel => exact ⟨k + 1, by omega, by go_num, by simpa using HM.out, e2, keep_blk p0 hb2, keep_blk p1 hb2⟩
          case measure => simp [intOf]; omega
        · go_wp2_with fail
          refine (HcY.out _ e1).mono ?_
          rintro e w2 ⟨rfl, hb2⟩
          have e2 := below_after e1 hb2 (Nat.le_refl _)
          go_wp2_with fail
          go_ret
          exact ⟨by rw [← HM.out]; rfl, e2⟩
    · obtain rfl : k = order.length := by omega
      have HM := Lib.hid (show false = r by rw [← hm, Nat.sub_self]; rfl)
      go_wp2_with fail
      go_ret
      exact ⟨by rw [← HM.out]; rfl, eb⟩
end Go.Proofs.YtkjjnnbbicoljaaGreatDoor
