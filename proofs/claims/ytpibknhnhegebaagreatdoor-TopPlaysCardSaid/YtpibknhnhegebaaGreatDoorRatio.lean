/- Package gear: the ratio of a train. -/
import Derived.Test.YtpibknhnhegebaaGreatDoorTrain
import Derived.Test.YtpibknhnhegebaaGreatDoorRatioLaw
namespace Go.Proofs.YtpibknhnhegebaaGreatDoor
open Go.RowKit
attribute [local go_sem] nil_eql nil_neq

theorem Make_nat (x y : Nat) (w : World) (hx : x ≤ 1000000000000000000) (hy : 0 < y) (hy2 : y ≤ 1000000000000000000) :
    Calls Tryz.prog 100 #[.agg #[.int .i64 (x : Int), .slice none 0 0], .agg #[.int .i64 (y : Int), .slice none 0 0]] w fun e w' => e = .returned (.agg #[.int .i64 (Fr.num x y : Nat), .slice none 0 0, .int .i64 (Fr.den x y : Nat), .slice none 0 0]) ∧ Below w.heap.size w w' :=
  Make_any (x : Int) (y : Int) w (by omega) (by omega) (by omega) (by omega)
theorem FMul_nat (a b c d n m : Nat) (w : World) (hn : a * c = n) (hm : b * d = m) (ha : a ≤ 1000000000000000000) (hb : 0 < b) (hb2 : b ≤ 1000000000000000000) (hc : c ≤ 1000000000000000000) (hd : 0 < d) (hd2 : d ≤ 1000000000000000000)
    (hn2 : n ≤ 1000000000000000000) (hm2 : m ≤ 1000000000000000000) :
    Calls Tryz.prog 60 #[.agg #[.int .i64 (a : Int), .slice none 0 0, .int .i64 (b : Int), .slice none 0 0], .agg #[.int .i64 (c : Int), .slice none 0 0, .int .i64 (d : Int), .slice none 0 0]] w fun e w' => e = .returned (.agg #[.int .i64 (Fr.num n m : Nat), .slice none 0 0, .int .i64 (Fr.den n m : Nat), .slice none 0 0]) ∧ Below w.heap.size w w' := by
  have hm0 : 0 < m := by rw [← hm]; exact Nat.mul_pos hb hd
  exact FMul_at a b c d n m _ w (by omega) (by omega) (by omega) (by omega) (by omega) (by omega) (by omega) (by omega) (by rw [← hn]; exact (Int.natCast_mul a c).symm) (by rw [← hm]; exact (Int.natCast_mul b d).symm) (by omega) (by omega) (by omega) (by omega) rfl

def px (ps : List (Int × Int)) : Nat := ps.foldl (fun a p => a * p.1.toNat) 1
def py (ps : List (Int × Int)) : Nat := ps.foldl (fun a p => a * p.2.toNat) 1
theorem px_snoc (l : List (Int × Int)) (p : Int × Int) : px (l ++ [p]) = px l * p.1.toNat := by simp [px]
theorem py_snoc (l : List (Int × Int)) (p : Int × Int) : py (l ++ [p]) = py l * p.2.toNat := by simp [py]
theorem pxy_bd (ps : List (Int × Int)) (h : ps.all fine = true) : ∀ k, k ≤ ps.length → 0 < px (ps.take k) ∧ px (ps.take k) ≤ 400 ^ k ∧ 0 < py (ps.take k) ∧ py (ps.take k) ≤ 400 ^ k := by
  intro k
  induction k with
  | zero => intro _; simp [px, py]
  | succ k ih =>
    intro hk
    obtain ⟨a1, a2, a3, a4⟩ := ih (by omega)
    have hs : ps.take (k + 1) = ps.take k ++ [ps[k]] := by rw [List.take_add_one, List.getElem?_eq_getElem (by omega)]; rfl
    have hf := List.all_eq_true.1 h ps[k] (List.getElem_mem _)
    obtain ⟨f1, f2, f3, f4⟩ := of_decide_eq_true hf
    rw [hs, px_snoc, py_snoc, Nat.pow_succ]
    exact ⟨Nat.mul_pos a1 (by omega), Nat.mul_le_mul a2 (by omega), Nat.mul_pos a3 (by omega), Nat.mul_le_mul a4 (by omega)⟩
theorem pow400 {k : Nat} (h : k ≤ 4) : 400 ^ k ≤ 25600000000 := Nat.le_trans (Nat.pow_le_pow_right (by omega) h) (by omega)

set_option maxHeartbeats 8000000 in
set_option maxRecDepth 100000 in
theorem ratio_any (A : Option Addr) (c B : Nat) (ps : List (Int × Int)) (w : World) (h4 : ps.length ≤ 4) (hf : ps.all fine = true) (h : Row w B A (pcells ps)) (hB : B ≤ w.heap.size) :
    Calls Tryz.prog 46 #[.slice A ps.length c] w fun e w' => e = .returned (.agg #[.int .i64 (Fr.num (px ps) (py ps) : Nat), .slice none 0 0, .int .i64 (Fr.den (px ps) (py ps) : Nat), .slice none 0 0]) ∧ Below w.heap.size w w' := by
  have H := Lib.hid h
  have HF := Lib.hid hf
  clear h hf
  obtain ⟨rn, hrn⟩ : ∃ rn, Fr.num (px ps) (py ps) = rn := ⟨_, rfl⟩
  obtain ⟨rd, hrd⟩ : ∃ rd, Fr.den (px ps) (py ps) = rd := ⟨_, rfl⟩
  rw [hrn, hrd]
  have HN := Lib.hid hrn
  have HD := Lib.hid hrd
  clear hrn hrd
  go_enter Tryz.func46, Tryz.ntmps46
  go_wp2_with fail
  generalize hW0 : World.alloc w _ = W0
  have d0 : Blk W0 w.heap.size 84 #[.int .i64 0, .slice none 0 0, .int .i64 0, .slice none 0 0] := by rw [← hW0]; exact Blk.new _ _ _
  have e0 : Below w.heap.size w W0 := by rw [← hW0]; exact (by repeat (first | with_reducible exact Below.refl _ _ | with_reducible assumption | with_reducible refine Below.setCell ?_ (by first | omega | (simp; done) | (simp; omega)) _ | with_reducible refine below_drewN ?_ _ | with_reducible refine Below.drew ?_ | with_reducible refine Below.alloc ?_ (by first | omega | (simp; done) | (simp; omega)) _ | with_reducible refine below_after ?_ (by assumption) (by first | omega | (simp; done) | (simp; omega))))
  clear hW0
  refine (F_any _ _).mono ?_
  rintro e w1 ⟨rfl, hb1⟩
  have c0 := keep_blk (g := w.heap.size) (by with_reducible assumption) hb1; have P0 := c0.four; have s0 := c0.lt; have e1 := below_after (B := w.heap.size) (by with_reducible assumption) hb1 (Nat.le_refl _)
  clear d0 e0 P0
  go_wp2_with fail
  generalize hW1 : World.alloc w1 _ = W1
  have k0 : Blk W1 w.heap.size 84 #[.int .i64 0, .slice none 0 0, .int .i64 0, .slice none 0 0] := by rw [← hW1]; exact c0.alloc _
  have k1 : Blk W1 w1.heap.size 84 #[.int .i64 1, .slice none 0 0, .int .i64 1, .slice none 0 0] := by rw [← hW1]; exact Blk.new _ _ _
  have k2 : Below w.heap.size w W1 := by rw [← hW1]; exact (by repeat (first | with_reducible exact Below.refl _ _ | with_reducible assumption | with_reducible refine Below.setCell ?_ (by first | omega | (simp; done) | (simp; omega)) _ | with_reducible refine below_drewN ?_ _ | with_reducible refine Below.drew ?_ | with_reducible refine Below.alloc ?_ (by first | omega | (simp; done) | (simp; omega)) _ | with_reducible refine below_after ?_ (by assumption) (by first | omega | (simp; done) | (simp; omega))))
  clear hW1 c0 e1 hb1
  generalize hG : w1.heap.size = G at *
  clear hG
  go_loopw [9] (fun i wr => ∃ k : Nat, k ≤ ps.length ∧ i = .int .i64 k ∧ w.heap.size < G ∧ Blk wr w.heap.size 84 #[.int .i64 0, .slice none 0 0, .int .i64 0, .slice none 0 0] ∧ Blk wr G 84 #[.int .i64 (Fr.num (px (ps.take k)) (py (ps.take k)) : Nat), .slice none 0 0, .int .i64 (Fr.den (px (ps.take k)) (py (ps.take k)) : Nat), .slice none 0 0] ∧ Below w.heap.size w wr) (fun i _ => ps.length - (intOf i).toNat)
  case atStart => exact ⟨0, Nat.zero_le _, rfl, s0, k0, by
    rw [show Fr.num (px (ps.take 0)) (py (ps.take 0)) = 1 by simp [px, py, Fr.num], show Fr.den (px (ps.take 0)) (py (ps.take 0)) = 1 by simp [px, py, Fr.den]]; exact k1, k2⟩
  case round =>
    obtain ⟨k, hk, rfl, hgg, c0, c1, e1⟩ := hrel
    have hsz := e1.size
    clear k0 k1 k2 s0
    obtain ⟨b1, b2, b3, b4⟩ := pxy_bd ps HF.out k hk
    have b5 := pow400 (show k ≤ 4 by omega)
    have n1 := Fr.num_le (px (ps.take k)) (py (ps.take k))
    have n2 := Fr.den_le (px (ps.take k)) (py (ps.take k))
    have n3 := Fr.den_pos (px (ps.take k)) (py (ps.take k)) b3
    by_cases hlt : k < ps.length
    · obtain ⟨b, off, x, y, rfl, hbB, hx, hc1, hc2⟩ := H.out.pair k hlt
      have hf := List.all_eq_true.1 HF.out (x, y) (List.mem_of_getElem? hx)
      obtain ⟨f1, f2, f3, f4⟩ := of_decide_eq_true hf
      simp only at f1 f2 f3 f4
      obtain ⟨X, rfl⟩ : ∃ X : Nat, x = (X : Int) := ⟨x.toNat, by omega⟩
      obtain ⟨Y, rfl⟩ : ∃ Y : Nat, y = (Y : Int) := ⟨y.toNat, by omega⟩
      obtain ⟨c1', c2', c3', c4'⟩ := pxy_bd ps HF.out (k + 1) (by omega)
      have c5' := pow400 (show k + 1 ≤ 4 by omega)
      have hs : ps.take (k + 1) = ps.take k ++ [((X : Int), (Y : Int))] := by rw [List.take_add_one, hx]; rfl
      rw [hs, px_snoc] at c1' c2'
      rw [hs, py_snoc] at c3' c4'
      simp only [Int.toNat_natCast] at c1' c2' c3' c4'
      have hm := Fr.both_mul (px (ps.take k)) (py (ps.take k)) X Y b3 (by omega)
      have m1 := Fr.num_le X Y
      have m2 := Fr.den_le X Y
      have m3 := Fr.den_pos X Y (by omega)
      have q1 : Fr.num (px (ps.take k)) (py (ps.take k)) * Fr.num X Y ≤ 25600000000 := Nat.le_trans (Nat.mul_le_mul n1 m1) (by omega)
      have q2 : Fr.den (px (ps.take k)) (py (ps.take k)) * Fr.den X Y ≤ 25600000000 := Nat.le_trans (Nat.mul_le_mul n2 m2) (by omega)
      have HS := Lib.hid (show Fr.num (px (ps.take (k + 1))) (py (ps.take (k + 1))) = Fr.num (Fr.num (px (ps.take k)) (py (ps.take k)) * Fr.num X Y) (Fr.den (px (ps.take k)) (py (ps.take k)) * Fr.den X Y) ∧ Fr.den (px (ps.take (k + 1))) (py (ps.take (k + 1))) = Fr.den (Fr.num (px (ps.take k)) (py (ps.take k)) * Fr.num X Y) (Fr.den (px (ps.take k)) (py (ps.take k)) * Fr.den X Y) by
        rw [hs, px_snoc, py_snoc]; simp only [Int.toNat_natCast]; exact ⟨hm.1.symm, hm.2.symm⟩)
      have HM := Lib.hid (fun w => FMul_nat (Fr.num (px (ps.take k)) (py (ps.take k))) (Fr.den (px (ps.take k)) (py (ps.take k))) (Fr.num X Y) (Fr.den X Y) _ _ w rfl rfl (by omega) n3 (by omega) (by omega) m3 (by omega) (by omega) (by omega))
      have HK := Lib.hid (fun w => Make_nat X Y w (by omega) (by omega) (by omega))
      have hk1 := (e1.cell (p := ⟨b, off + k * 2, none⟩) (by show b < _; omega)).trans hc1
      have hk2 := (e1.cell (p := ⟨b, off + k * 2 + 1, none⟩) (by show b < _; omega)).trans hc2
      clear hm m1 m2 m3 q1 q2 hs c1' c2' c3' c4' c5' hx hf hc1 hc2 b1 b2 b3 b4 b5 n1 n2 n3
      generalize Fr.num (px (ps.take k)) (py (ps.take k)) = n at *
      generalize Fr.den (px (ps.take k)) (py (ps.take k)) = d at *
      generalize Fr.num (n * Fr.num X Y) (d * Fr.den X Y) = n' at *
      generalize Fr.den (n * Fr.num X Y) (d * Fr.den X Y) = d' at *
      generalize Fr.num X Y = xn at *
      generalize Fr.den X Y = yd at *
      have hBB : B ≤ wr.heap.size := by omega
      have s1 := c1.lt
      go_wp2_with fail
      generalize hW3 : World.alloc wr _ = W3
      have d0 : Blk W3.drew w.heap.size 84 #[.int .i64 0, .slice none 0 0, .int .i64 0, .slice none 0 0] := by rw [← hW3]; exact (c0.alloc _).drew
      have d1 : Blk W3.drew G 84 #[.int .i64 (n : Int), .slice none 0 0, .int .i64 (d : Int), .slice none 0 0] := by rw [← hW3]; exact (c1.alloc _).drew
      have d2 : Blk W3.drew wr.heap.size 59 #[.int .i64 (X : Int), .int .i64 (Y : Int)] := by rw [← hW3]; exact (Blk.new _ _ _).drew
      have d3 : Below w.heap.size w W3.drew := by rw [← hW3]; exact (by repeat (first | with_reducible exact Below.refl _ _ | with_reducible assumption | with_reducible refine Below.setCell ?_ (by first | omega | (simp; done) | (simp; omega)) _ | with_reducible refine below_drewN ?_ _ | with_reducible refine Below.drew ?_ | with_reducible refine Below.alloc ?_ (by first | omega | (simp; done) | (simp; omega)) _ | with_reducible refine below_after ?_ (by assumption) (by first | omega | (simp; done) | (simp; omega))))
      have m1 : W3.cell? ⟨G, 0, none⟩ = some (.int .i64 (n : Int)) ∧ W3.cell? ⟨G, 1, none⟩ = some (.slice none 0 0) ∧ W3.cell? ⟨G, 2, none⟩ = some (.int .i64 (d : Int)) ∧ W3.cell? ⟨G, 3, none⟩ = some (.slice none 0 0) := ⟨d1.cell 0, d1.cell 1, d1.cell 2, d1.cell 3⟩
      have m2 : W3.cell? ⟨wr.heap.size, 0, none⟩ = some (.int .i64 (X : Int)) ∧ W3.cell? ⟨wr.heap.size, 1, none⟩ = some (.int .i64 (Y : Int)) := ⟨d2.cell 0, d2.cell 1⟩
      clear hW3 c0 c1 e1 hk1 hk2
      go_region_with (first
        | (go_at_call 97; refine (Of_any _ _).mono ?_; rintro e w1 ⟨rfl, hb1⟩; have c0 := keep_blk (g := w.heap.size) (by with_reducible assumption) hb1; have P0 := c0.four; have s0 := c0.lt; have c1 := keep_blk (g := G) (by with_reducible assumption) hb1; have P1 := c1.four; have s1 := c1.lt; have c2 := keep_blk (g := wr.heap.size) (by with_reducible assumption) hb1; have P2 := c2.two; have s2 := c2.lt; have e1 := below_after (B := w.heap.size) (by with_reducible assumption) hb1 (Nat.le_refl _))
        | (go_at_call 100; refine (HK.out _).mono ?_; rintro e w1 ⟨rfl, hb1⟩; have c0 := keep_blk (g := w.heap.size) (by with_reducible assumption) hb1; have P0 := c0.four; have s0 := c0.lt; have c1 := keep_blk (g := G) (by with_reducible assumption) hb1; have P1 := c1.four; have s1 := c1.lt; have c2 := keep_blk (g := wr.heap.size) (by with_reducible assumption) hb1; have P2 := c2.two; have s2 := c2.lt; have e1 := below_after (B := w.heap.size) (by with_reducible assumption) hb1 (Nat.le_refl _))
        | (go_at_call 60; refine (HM.out _).mono ?_; rintro e w1 ⟨rfl, hb1⟩; have c0 := keep_blk (g := w.heap.size) (by with_reducible assumption) hb1; have P0 := c0.four; have s0 := c0.lt; have c1 := keep_blk (g := G) (by with_reducible assumption) hb1; have P1 := c1.four; have s1 := c1.lt; have c2 := keep_blk (g := wr.heap.size) (by with_reducible assumption) hb1; have P2 := c2.two; have s2 := c2.lt; have e1 := below_after (B := w.heap.size) (by with_reducible assumption) hb1 (Nat.le_refl _)))
      all_goals
        go_wp2_with fail
        go_roundw
        case rel => exact ⟨k + 1, by omega, by go_num, by omega, (by repeat (first | with_reducible assumption | with_reducible refine Blk.off2 ?_ (by omega) _ _ | with_reducible refine Blk.off4 ?_ (by omega) _ _ _ _ | with_reducible apply Blk.put2 | with_reducible apply Blk.put4 | with_reducible apply Blk.drew | with_reducible apply Blk.drewN | with_reducible refine Blk.alloc ?_ _)), by rw [HS.out.1, HS.out.2]; exact (by repeat (first | with_reducible assumption | with_reducible refine Blk.off2 ?_ (by omega) _ _ | with_reducible refine Blk.off4 ?_ (by omega) _ _ _ _ | with_reducible apply Blk.put2 | with_reducible apply Blk.put4 | with_reducible apply Blk.drew | with_reducible apply Blk.drewN | with_reducible refine Blk.alloc ?_ _)), (by repeat (first | with_reducible exact Below.refl _ _ | with_reducible assumption | with_reducible refine Below.setCell ?_ (by first | omega | (simp; done) | (simp; omega)) _ | with_reducible refine below_drewN ?_ _ | with_reducible refine Below.drew ?_ | with_reducible refine Below.alloc ?_ (by first | omega | (simp; done) | (simp; omega)) _ | with_reducible refine below_after ?_ (by assumption) (by first | omega | (simp; done) | (simp; omega))))⟩
        case measure => simp [intOf]; omega
    · obtain rfl : k = ps.length := by omega
      rw [List.take_length] at c1
      rw [HN.out, HD.out] at c1
      have P1 := c1.four
      have P0 := c0.four
      go_wp2_with fail
      exact bodyPost_ret (v := .agg #[.int .i64 (rn : Int), .slice none 0 0, .int .i64 (rd : Int), .slice none 0 0]) (by simp [results, Tryz.results46, go_sem, P0]) rfl ⟨rfl, (by repeat (first | with_reducible exact Below.refl _ _ | with_reducible assumption | with_reducible refine Below.setCell ?_ (by first | omega | (simp; done) | (simp; omega)) _ | with_reducible refine below_drewN ?_ _ | with_reducible refine Below.drew ?_ | with_reducible refine Below.alloc ?_ (by first | omega | (simp; done) | (simp; omega)) _ | with_reducible refine below_after ?_ (by assumption) (by first | omega | (simp; done) | (simp; omega))))⟩
end Go.Proofs.YtpibknhnhegebaaGreatDoor
