/- Package gear: the lost motion of a train of equal wheels, of whole numbers. -/
import Derived.Test.YtpibknhnhegebaaGreatDoorRatio
import Derived.IntWalk
namespace Go.Proofs.YtpibknhnhegebaaGreatDoor
open Go.RowKit
attribute [local go_sem] nil_eql nil_neq

theorem FMul_whole (a b p : Nat) (w : World) (h : a * b = p) (ha : a ≤ 1000000000000000000) (hb : b ≤ 1000000000000000000) (hp : p ≤ 1000000000000000000) :
    Calls Tryz.prog 60 #[.agg #[.int .i64 (a : Int), .slice none 0 0, .int .i64 1, .slice none 0 0], .agg #[.int .i64 (b : Int), .slice none 0 0, .int .i64 1, .slice none 0 0]] w fun e w' => e = .returned (.agg #[.int .i64 (p : Int), .slice none 0 0, .int .i64 1, .slice none 0 0]) ∧ Below w.heap.size w w' := by
  have := FMul_nat a 1 b 1 p 1 w h rfl ha (by omega) (by omega) hb (by omega) (by omega) hp (by omega)
  have e1 : Fr.num p 1 = p := by simp [Fr.num]
  have e2 : Fr.den p 1 = 1 := by simp [Fr.den]
  rw [e1, e2] at this
  exact this
theorem px_eq_py (ps : List (Int × Int)) (h : ∀ p ∈ ps, p.1 = p.2) : px ps = py ps := by
  have : ∀ (l : List (Int × Int)) (a : Nat), (∀ p ∈ l, p.1 = p.2) → l.foldl (fun a p => a * p.1.toNat) a = l.foldl (fun a p => a * p.2.toNat) a := by
    intro l
    induction l with
    | nil => intro _ _; rfl
    | cons p r ih => intro a h; simp only [List.foldl_cons]; rw [h p (by simp)]; exact ih _ (fun q hq => h q (by simp [hq]))
  exact this ps 1 h
theorem ratio_one (A : Option Addr) (c B : Nat) (ps : List (Int × Int)) (w : World) (h4 : ps.length ≤ 4) (hf : ps.all fine = true) (he : ∀ p ∈ ps, p.1 = p.2) (h : Row w B A (pcells ps)) (hB : B ≤ w.heap.size) :
    Calls Tryz.prog 46 #[.slice A ps.length c] w fun e w' => e = .returned (.agg #[.int .i64 1, .slice none 0 0, .int .i64 1, .slice none 0 0]) ∧ Below w.heap.size w w' := by
  have := ratio_any A c B ps w h4 hf h hB
  have hp := (pxy_bd ps hf ps.length (Nat.le_refl _)).2.2.1
  rw [List.take_length] at hp
  have e1 : Fr.num (px ps) (py ps) = 1 := by rw [px_eq_py ps he]; simp [Fr.num, Nat.div_self hp]
  have e2 : Fr.den (px ps) (py ps) = 1 := by rw [px_eq_py ps he]; simp [Fr.den, Nat.div_self hp]
  rw [e1, e2] at this
  exact this
theorem pcells_drop (ps : List (Int × Int)) (k : Nat) : pcells (ps.drop k) = (pcells ps).drop (k * 2) := by
  induction k generalizing ps with
  | zero => simp
  | succ k ih =>
    cases ps with
    | nil => simp [pcells]
    | cons p r =>
      rw [List.drop_succ_cons, ih, show (k + 1) * 2 = k * 2 + 1 + 1 by omega]
      simp [pcells]
theorem Row.cut {w : World} {B b off n : Nat} {vs : List Value} (h : Row w B (some ⟨b, off, none⟩) vs) (_ : n ≤ vs.length) : Row w B (some ⟨b, off + n, none⟩) (vs.drop n) := by
  rcases Nat.lt_or_ge n vs.length with hlt | hge
  · obtain ⟨b', off', e, hb, hc⟩ := h.open (by omega)
    injection e with e; injection e with e1 e2; subst e1; subst e2
    refine .inr ⟨_, _, rfl, hb, fun i hi => ?_⟩
    rw [Nat.add_assoc, hc (n + i) (by rw [List.length_drop] at hi; omega)]
    simp [List.getD_eq_getElem?_getD]
  · exact .inl (List.drop_eq_nil_of_le hge)
/-- the k-th string, under a name of its own -/
theorem Row.str {w : World} {B : Nat} {A : Option Addr} {xs : List ByteArray} (h : Row w B A (xs.map Value.string)) (k : Nat) (hk : k < xs.length) :
    ∃ b off x, A = some ⟨b, off, none⟩ ∧ b < B ∧ xs[k]? = some x ∧ w.cell? ⟨b, off + k, none⟩ = some (.string x) := by
  obtain ⟨b, off, h1, h2, h3⟩ := h.open (by simp; omega)
  refine ⟨b, off, xs[k], h1, h2, List.getElem?_eq_getElem hk, ?_⟩
  rw [h3 k (by simpa using hk)]; simp [List.getD_eq_getElem?_getD, hk]

/-- the sum of the first numbers -/
def sumTo (ns : List Nat) (k : Nat) : Nat := (ns.take k).foldl (· + ·) 0
theorem sumTo_succ (ns : List Nat) (k n : Nat) (h : ns[k]? = some n) : sumTo ns (k + 1) = sumTo ns k + n := by
  unfold sumTo; rw [List.take_add_one, h]; simp
theorem sumTo_le (ns : List Nat) (M : Nat) (h : ∀ n ∈ ns, n ≤ M) : ∀ k, sumTo ns k ≤ k * M := by
  intro k
  induction k with
  | zero => simp [sumTo]
  | succ k ih =>
    cases hk : ns[k]? with
    | none =>
      have : sumTo ns (k + 1) = sumTo ns k := by unfold sumTo; rw [List.take_add_one, hk]; simp
      rw [this, Nat.add_mul]; omega
    | some n => rw [sumTo_succ ns k n hk, Nat.add_mul]; have := h n (List.mem_of_getElem? hk); omega

set_option maxHeartbeats 8000000 in
set_option maxRecDepth 100000 in
theorem Lost_equal (A A2 : Option Addr) (c c2 B : Nat) (ps : List (Int × Int)) (ss : List ByteArray) (ns : List Nat) (w : World) (hE : Env w) (h4 : ps.length ≤ 4) (hf : ps.all fine = true) (heq : ∀ p ∈ ps, p.1 = p.2)
    (hcap : ps.length ≤ c) (hl : ss.length = ps.length) (hn : ns.length = ps.length) (hd : ∀ (i : Nat) (s : ByteArray) (n : Nat), ss[i]? = some s → ns[i]? = some n → IsDec s n) (hM : ∀ n ∈ ns, n ≤ 1000000)
    (h : Row w B A (pcells ps)) (h2 : Row w B A2 (ss.map Value.string)) (hB : B ≤ w.heap.size) :
    Calls Tryz.prog 17 #[.slice A ps.length c, .slice A2 ps.length c2] w fun e w' => e = .returned (.tuple #[.string ⟨(Lib.decDigits (sumTo ns ps.length)).toArray⟩, .int .i64 0]) ∧ Below w.heap.size w w' := by
  have H := Lib.hid h
  have H2 := Lib.hid h2
  have HF := Lib.hid hf
  have HQ := Lib.hid heq
  have HL := Lib.hid hl
  have HN := Lib.hid hn
  have HD := Lib.hid hd
  have HM := Lib.hid hM
  have HT := Lib.hid (checkTrain_any A c B ps w (by omega) h hB)
  have ht : trainErr ps = 0 := by unfold trainErr; rw [if_neg (by omega), if_pos hf]
  rw [ht] at HT
  obtain ⟨S, hS⟩ : ∃ S, sumTo ns ps.length = S := ⟨_, rfl⟩
  rw [hS]
  have HS := Lib.hid hS
  clear h h2 hf heq hl hn hd hM ht hS
  go_enter Tryz.func17, Tryz.ntmps17
  go_wp2_with fail
  refine HT.out.mono ?_
  rintro e w1 ⟨rfl, hb1⟩
  have hE1 := hE.below hb1
  go_wp2_with fail
  refine (F_any _ _).mono ?_
  rintro e w2 ⟨rfl, hb2⟩
  have hE2 := hE1.below hb2
  have e2 := below_after hb1 hb2 (Nat.le_refl _)
  clear hb1 hb2 hE1
  go_wp2_with fail
  generalize hW1 : World.alloc w2 _ = W1
  have k1 : Blk W1 w2.heap.size 84 #[.int .i64 0, .slice none 0 0, .int .i64 1, .slice none 0 0] := by rw [← hW1]; exact Blk.new _ _ _
  have k2 : Below w.heap.size w W1 := by rw [← hW1]; exact e2.alloc e2.size _
  have hGG := e2.size
  clear hW1 hE2 e2
  generalize hG : w2.heap.size = G at *
  clear hG
  go_loopw [24] (fun i wr => ∃ k : Nat, k ≤ ps.length ∧ i = .int .i64 k ∧ Blk wr G 84 #[.int .i64 (sumTo ns k : Nat), .slice none 0 0, .int .i64 1, .slice none 0 0] ∧ Below w.heap.size w wr) (fun i _ => ps.length - (intOf i).toNat)
  case atStart => exact ⟨0, Nat.zero_le _, rfl, k1, k2⟩
  case round =>
    obtain ⟨k, hk, rfl, c0, e1⟩ := hrel
    have hsz := e1.size
    have hEr := hE.below e1
    clear k1 k2
    have hsum := sumTo_le ns 1000000 HM.out k
    by_cases hlt : k < ps.length
    · obtain ⟨b2, off2, s, rfl, hbB2, hs, hc2⟩ := H2.out.str k (by rw [HL.out]; exact hlt)
      obtain ⟨n, hn⟩ : ∃ n, ns[k]? = some n := ⟨_, List.getElem?_eq_getElem (by rw [HN.out]; exact hlt)⟩
      have hdec := HD.out k s n hs hn
      have hn2 := HM.out n (List.mem_of_getElem? hn)
      have hk2 := (e1.cell (p := ⟨b2, off2 + k, none⟩) (by show b2 < _; omega)).trans hc2
      have HS2 := Lib.hid (sumTo_succ ns k n hn)
      obtain ⟨b, off, x, y, rfl, hbB, hx, _⟩ := H.out.pair k hlt
      have hrow := (H.out.cut (n := (k + 1) * 2) (by rw [pcells_len]; omega))
      rw [← pcells_drop] at hrow
      have HR := Lib.hid (fun (A' : Option Addr) (c' : Nat) (w' : World) (hb : Below w.heap.size w w') (hA : k + 1 < ps.length → A' = some ⟨b, off + (k + 1) * 2, none⟩) =>
        ratio_one A' c' B (ps.drop (k + 1)) w' (by rw [List.length_drop]; omega) (List.all_eq_true.2 fun p hp => List.all_eq_true.1 HF.out p (List.mem_of_mem_drop hp)) (fun p hp => HQ.out p (List.mem_of_mem_drop hp))
          (by
            rcases Nat.lt_or_ge (k + 1) ps.length with h | h
            · rw [hA h]; exact hrow.below hb hB
            · rw [List.drop_eq_nil_of_le h]; exact .nil) (by have := hb.size; omega))
      rw [List.length_drop] at HR
      have HC := Lib.hid (fun (w' : World) (hb : Below w.heap.size w w') => Check_dec s n w' (hE.below hb) hdec (by omega))
      have HFr := Lib.hid (fun (w' : World) (hb : Below w.heap.size w w') => From_dec s n w' (hE.below hb) hdec (by omega))
      have HMu := Lib.hid (fun (w' : World) => FMul_whole n 1 n w' (by omega) (by omega) (by omega) (by omega))
      have HA := Lib.hid (fun (w' : World) => FAdd_whole (sumTo ns k : Int) (n : Int) ((sumTo ns k + n : Nat) : Int) w' (by omega) (by omega) (by omega) (by omega) (by omega))
      have hsg : decide (sgn (n : Int) < 0) = false := decide_eq_false (by unfold sgn; omega)
      clear hs hn hdec hx hc2 hrow
      generalize sumTo ns k = sk at *
      go_wp2_with fail
      refine (HC.out _ e1).mono ?_
      rintro e w3 ⟨rfl, hb1⟩
      have c0 := keep_blk (g := G) (by with_reducible assumption) hb1; have P0 := c0.four; have s0 := c0.lt; have e1 := below_after (B := w.heap.size) (by with_reducible assumption) hb1 (Nat.le_refl _)
      have hE3 := e1
      clear hb1
      go_wp2_with fail
      refine (HFr.out _ hE3).mono ?_
      rintro e w4 ⟨rfl, hb1⟩
      have c0 := keep_blk (g := G) (by with_reducible assumption) hb1; have P0 := c0.four; have s0 := c0.lt; have e1 := below_after (B := w.heap.size) (by with_reducible assumption) hb1 (Nat.le_refl _)
      clear hb1
      go_wp2_with fail
      refine (FSign_any _ _ _).mono ?_
      rintro e w5 ⟨rfl, hb1⟩
      have c0 := keep_blk (g := G) (by with_reducible assumption) hb1; have P0 := c0.four; have s0 := c0.lt; have e1 := below_after (B := w.heap.size) (by with_reducible assumption) hb1 (Nat.le_refl _)
      clear hb1
      go_wp2_with fail
      have d0 : Blk w5.drew G 84 #[.int .i64 (sk : Int), .slice none 0 0, .int .i64 1, .slice none 0 0] := c0.drew
      have d1 : Below w.heap.size w w5.drew := e1.drew
      clear c0 e1 hE3 hk2 H H2 HF HQ HL HN HD HM HT HC HS
      obtain ⟨A', hif⟩ : ∃ A', (if c = k + 1 then some (⟨b, off, none⟩ : Addr) else some (⟨b, off + (k + 1) * 2, none⟩ : Addr)) = A' := ⟨_, rfl⟩
      have HX := Lib.hid (show k + 1 < ps.length → A' = some ⟨b, off + (k + 1) * 2, none⟩ from fun h => by rw [← hif, if_neg (by omega)])
      have hi0 : (0 : Int) ≤ (k : Int) + 1 := by omega
      have hi2 : IntKind.i64.wrap ((k : Int) + 1) = (k : Int) + 1 := IntWalk.i64_in _ (by omega)
      have hi3 : ((k : Int) + 1).toNat = k + 1 := by omega
      have hi1 : (k : Int) + 1 ≤ (ps.length : Int) := by omega
      go_region_with (first
        | (go_at_call 59; refine (HFr.out _ (by with_reducible assumption)).mono ?_; rintro e w1 ⟨rfl, hb1⟩; have c0 := keep_blk (g := G) (by with_reducible assumption) hb1; have P0 := c0.four; have s0 := c0.lt; have e1 := below_after (B := w.heap.size) (by with_reducible assumption) hb1 (Nat.le_refl _))
        | (go_at_call 46; refine (HR.out _ _ _ (by with_reducible assumption) HX.out).mono ?_; rintro e w1 ⟨rfl, hb1⟩; have c0 := keep_blk (g := G) (by with_reducible assumption) hb1; have P0 := c0.four; have s0 := c0.lt; have e1 := below_after (B := w.heap.size) (by with_reducible assumption) hb1 (Nat.le_refl _))
        | (go_at_call 60; refine (HMu.out _).mono ?_; rintro e w1 ⟨rfl, hb1⟩; have c0 := keep_blk (g := G) (by with_reducible assumption) hb1; have P0 := c0.four; have s0 := c0.lt; have e1 := below_after (B := w.heap.size) (by with_reducible assumption) hb1 (Nat.le_refl _))
        | (go_at_call 62; refine (HA.out _).mono ?_; rintro e w1 ⟨rfl, hb1⟩; have c0 := keep_blk (g := G) (by with_reducible assumption) hb1; have P0 := c0.four; have s0 := c0.lt; have e1 := below_after (B := w.heap.size) (by with_reducible assumption) hb1 (Nat.le_refl _)))
      all_goals
        clear hi0 hi1 hi2 hi3 hif
        go_wp2_with fail
        go_roundw
        case rel => exact ⟨k + 1, by omega, by go_num, by rw [HS2.out, Int.natCast_add]; exact (by repeat (first | with_reducible assumption | with_reducible refine Blk.off2 ?_ (by omega) _ _ | with_reducible refine Blk.off4 ?_ (by omega) _ _ _ _ | with_reducible apply Blk.put2 | with_reducible apply Blk.put4 | with_reducible apply Blk.drew | with_reducible apply Blk.drewN | with_reducible refine Blk.alloc ?_ _)), (by repeat (first | with_reducible exact Below.refl _ _ | with_reducible assumption | with_reducible refine Below.setCell ?_ (by first | omega | (simp; done) | (simp; omega)) _ | with_reducible refine below_drewN ?_ _ | with_reducible refine Below.drew ?_ | with_reducible refine Below.alloc ?_ (by first | omega | (simp; done) | (simp; omega)) _ | with_reducible refine below_after ?_ (by assumption) (by first | omega | (simp; done) | (simp; omega))))⟩
        case measure => simp [intOf]; omega
    · obtain rfl : k = ps.length := by omega
      rw [HS.out] at c0 hsum
      have P0 := c0.four
      have HL2 := Lib.hid (fun w => Large_no (S : Int) 1 w (by omega) (by omega) (by omega) (by omega))
      have HTx := Lib.hid (fun (w : World) (he : Env w) => Text_whole (S : Int) w he (by omega) (by omega))
      rw [Dec.itoa_nat] at HTx
      go_wp2_with fail
      refine (HL2.out _).mono ?_
      rintro e w3 ⟨rfl, hb1⟩
      have hE3 := hEr.below hb1
      have c0 := keep_blk (g := G) (by with_reducible assumption) hb1; have P0 := c0.four; have s0 := c0.lt; have e1 := below_after (B := w.heap.size) (by with_reducible assumption) hb1 (Nat.le_refl _)
      clear hb1
      go_wp2_with fail
      refine (HTx.out _ hE3).mono ?_
      rintro e w4 ⟨rfl, hb1⟩
      have e4 := below_after e1 hb1 (Nat.le_refl _)
      go_wp2_with fail
      go_ret2
      exact ⟨rfl, e4⟩
end Go.Proofs.YtpibknhnhegebaaGreatDoor
