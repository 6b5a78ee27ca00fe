/- Package num: integers read from their decimal notation. -/
import Derived.Test.YtjcbbabaabcdgaaGreatDoorZgVIo
import Derived.Test.YtjcbbabaabcdgaaGreatDoorZgVNc
namespace Go.Proofs.YtjcbbabaabcdgaaGreatDoor
open Go.RowKit Sv
set_option maxRecDepth 100000
set_option linter.unusedVariables false
set_option pp.structureInstances false
noncomputable section
abbrev mns : ByteArray := ⟨#[45]⟩
abbrev s2 : Sv.Ren := [(64, 64, none), (65, 65, none)]
theorem rd_start (s : ByteArray)  :
    Tst.path (vrun0 Tryz.prog rdCs (fl BRead []) 4 41 [sv s]) [] (toSt Tryz.prog 41 .normal s2 (SRd (trimPre s mns) (0, []) (hasPre s mns))) :=
  mp (an rt (an rt (an (rr (trimPre s (ByteArray.mk #[(45 : UInt8)]))) (an (rr ((0 : Nat))) (an (rr (hasPre s (ByteArray.mk #[(45 : UInt8)]))) (an (rr ((0 : Nat))) (an (an (rr ((0 : Int))) (an (rr (Value.slice none (0 : Nat) (0 : Nat))) trivial)) (an (an (rr ((0 : Int))) (an (rr nilI) trivial)) trivial))))))))
theorem rd_go (s s' : ByteArray) (o o' : NI) (neg : Bool) (h1 : (↑s.size : Int) > 0) (h2 : (okAtoi (ByteArray.extract s (0 : Nat) (Int.toNat (if (↑s.size : Int) < 18 then (↑s.size : Int) else (18 : Int))))) = true) (h3 : (okPw ((iOf (10 : Int)).1, (iOf (10 : Int)).2) (if (↑s.size : Int) < 18 then (↑s.size : Int) else (18 : Int))) = true) (h4 : (okI (o.1, o.2) && okI ((iPow ((iOf (10 : Int)).1, (iOf (10 : Int)).2) (if (↑s.size : Int) < 18 then (↑s.size : Int) else (18 : Int))).1, (iPow ((iOf (10 : Int)).1, (iOf (10 : Int)).2) (if (↑s.size : Int) < 18 then (↑s.size : Int) else (18 : Int))).2)) = true) (h5 : (okI ((iMul (o.1, o.2) ((iPow ((iOf (10 : Int)).1, (iOf (10 : Int)).2) (if (↑s.size : Int) < 18 then (↑s.size : Int) else (18 : Int))).1, (iPow ((iOf (10 : Int)).1, (iOf (10 : Int)).2) (if (↑s.size : Int) < 18 then (↑s.size : Int) else (18 : Int))).2)).1, (iMul (o.1, o.2) ((iPow ((iOf (10 : Int)).1, (iOf (10 : Int)).2) (if (↑s.size : Int) < 18 then (↑s.size : Int) else (18 : Int))).1, (iPow ((iOf (10 : Int)).1, (iOf (10 : Int)).2) (if (↑s.size : Int) < 18 then (↑s.size : Int) else (18 : Int))).2)).2) && okI ((iOf (atoiI (ByteArray.extract s (0 : Nat) (Int.toNat (if (↑s.size : Int) < 18 then (↑s.size : Int) else (18 : Int)))))).1, (iOf (atoiI (ByteArray.extract s (0 : Nat) (Int.toNat (if (↑s.size : Int) < 18 then (↑s.size : Int) else (18 : Int)))))).2)) = true) (h6 : (ByteArray.extract s (Int.toNat (if (↑s.size : Int) < 18 then (↑s.size : Int) else (18 : Int))) s.size) = (s')) (h7 : (iAdd ((iMul (o.1, o.2) ((iPow ((iOf (10 : Int)).1, (iOf (10 : Int)).2) (if (↑s.size : Int) < 18 then (↑s.size : Int) else (18 : Int))).1, (iPow ((iOf (10 : Int)).1, (iOf (10 : Int)).2) (if (↑s.size : Int) < 18 then (↑s.size : Int) else (18 : Int))).2)).1, (iMul (o.1, o.2) ((iPow ((iOf (10 : Int)).1, (iOf (10 : Int)).2) (if (↑s.size : Int) < 18 then (↑s.size : Int) else (18 : Int))).1, (iPow ((iOf (10 : Int)).1, (iOf (10 : Int)).2) (if (↑s.size : Int) < 18 then (↑s.size : Int) else (18 : Int))).2)).2) ((iOf (atoiI (ByteArray.extract s (0 : Nat) (Int.toNat (if (↑s.size : Int) < 18 then (↑s.size : Int) else (18 : Int)))))).1, (iOf (atoiI (ByteArray.extract s (0 : Nat) (Int.toNat (if (↑s.size : Int) < 18 then (↑s.size : Int) else (18 : Int)))))).2)).1 = o'.1) (h8 : (iAdd ((iMul (o.1, o.2) ((iPow ((iOf (10 : Int)).1, (iOf (10 : Int)).2) (if (↑s.size : Int) < 18 then (↑s.size : Int) else (18 : Int))).1, (iPow ((iOf (10 : Int)).1, (iOf (10 : Int)).2) (if (↑s.size : Int) < 18 then (↑s.size : Int) else (18 : Int))).2)).1, (iMul (o.1, o.2) ((iPow ((iOf (10 : Int)).1, (iOf (10 : Int)).2) (if (↑s.size : Int) < 18 then (↑s.size : Int) else (18 : Int))).1, (iPow ((iOf (10 : Int)).1, (iOf (10 : Int)).2) (if (↑s.size : Int) < 18 then (↑s.size : Int) else (18 : Int))).2)).2) ((iOf (atoiI (ByteArray.extract s (0 : Nat) (Int.toNat (if (↑s.size : Int) < 18 then (↑s.size : Int) else (18 : Int)))))).1, (iOf (atoiI (ByteArray.extract s (0 : Nat) (Int.toNat (if (↑s.size : Int) < 18 then (↑s.size : Int) else (18 : Int)))))).2)).2 = o'.2) :
    Tst.path (vall Tryz.prog rdCs (fl BRead rdL) (SRd s o neg)) [true] (toSt Tryz.prog 41 .normal s2 (SRd s' o' neg)) :=
  mp (an (decide_eq_true h1) (an (show (decide ((0 : Int) ≤ if (↑s.size : Int) < 18 then (↑s.size : Int) else (18 : Int))) = true from decide_eq_true (by omega)) (an (show (decide ((0 : Nat) ≤ Int.toNat (if (↑s.size : Int) < 18 then (↑s.size : Int) else (18 : Int)))) = true from decide_eq_true (by omega)) (an (show (decide (Int.toNat (if (↑s.size : Int) < 18 then (↑s.size : Int) else (18 : Int)) ≤ s.size)) = true from decide_eq_true (by omega)) (an h2 (an (sr (AV.agg [iv o.1, AV.lst true (.int .u64) o.2])) (an rt (an (sr (AV.agg [iv o.1, AV.lst true (.int .u64) o.2])) (an h3 (an (sr (AV.agg [iv o.1, AV.lst true (.int .u64) o.2])) (an h4 (an rt (an h5 (an (show (decide ((0 : Int) ≤ if (↑s.size : Int) < 18 then (↑s.size : Int) else (18 : Int))) = true from decide_eq_true (by omega)) (an (show (decide (Int.toNat (if (↑s.size : Int) < 18 then (↑s.size : Int) else (18 : Int)) ≤ s.size)) = true from decide_eq_true (by omega)) (an (show (decide (s.size ≤ s.size)) = true from decide_eq_true (by omega)) (an h6 (an (rr ((0 : Nat))) (an (rr neg) (an (rr ((0 : Nat))) (an (an (rr ((0 : Int))) (an (rr (Value.slice none (0 : Nat) (0 : Nat))) trivial)) (an (an h7 (an h8 trivial)) trivial))))))))))))))))))))))
theorem rd_end (s : ByteArray) (o : NI) (neg : Bool) (h1 : ¬(↑s.size : Int) > 0) :
    Tst.path (vall Tryz.prog rdCs (fl BRead rdL) (SRd s o neg)) [false] (toSt Tryz.prog 41 (.exit 0) s2 (SRd s o neg)) :=
  mp (an (decide_eq_false h1) (an (rr s) (an (rr ((0 : Nat))) (an (rr neg) (an (rr ((0 : Nat))) (an (an (rr ((0 : Int))) (an (rr (Value.slice none (0 : Nat) (0 : Nat))) trivial)) (an (an (rr o.1) (an (rr o.2) trivial)) trivial)))))))
theorem rd_neg (s : ByteArray) (o : NI) (neg : Bool) (h1 : (neg) = true) (h2 : (okI (o.1, o.2)) = true) :
    Tst.path (vall Tryz.prog rdCs (List.drop 5 (fl BRead [])) (SRd s o neg)) [true] (toRet Tryz.prog Tryz.f120 false (nv (iNeg o))) :=
  mp (an h1 (an h2 (an (rr (iNeg (o.1, o.2)).1) (an (rr (iNeg (o.1, o.2)).2) trivial))))
theorem rd_pos (s : ByteArray) (o : NI) (neg : Bool) (h1 : (neg) = false) :
    Tst.path (vall Tryz.prog rdCs (List.drop 5 (fl BRead [])) (SRd s o neg)) [false] (toRet Tryz.prog Tryz.f120 false (nv o)) :=
  mp (an h1 (an (rr o.1) (an (rr o.2) trivial)))
open Lib in
theorem decFrom_add (e : Nat) : ∀ (l : List UInt8) (a x : Nat), decFrom a l = some x → decFrom (a + e) l = some (x + e * 10 ^ l.length)
  | [], a, x, h => by cases h; simp [decFrom]
  | b :: r, a, x, h => by
    unfold decFrom at h ⊢
    cases hd : digitVal b with
    | none => rw [hd] at h; cases h
    | some d =>
      rw [hd] at h
      have ih := decFrom_add (e * 10) r _ _ h
      show decFrom ((a + e) * 10 + d) r = _
      rw [show (a + e) * 10 + d = a * 10 + d + e * 10 by omega]
      rw [ih, List.length_cons, Nat.pow_succ]
      congr 1
      have : e * 10 * 10 ^ r.length = e * (10 ^ r.length * 10) := by grind
      omega
open Lib in
theorem decFrom_le : ∀ (l : List UInt8) (a x : Nat), decFrom a l = some x → a ≤ x
  | [], a, x, h => by cases h; omega
  | b :: r, a, x, h => by
    unfold decFrom at h
    cases hd : digitVal b with
    | none => rw [hd] at h; cases h
    | some d => rw [hd] at h; have := decFrom_le r _ _ h; omega
open Lib in
theorem decFrom_split : ∀ (C : Nat) (l : List UInt8) (a x : Nat), decFrom a l = some x → C ≤ l.length → ∃ v, decFrom 0 (l.take C) = some v ∧ decFrom (a * 10 ^ C + v) (l.drop C) = some x
  | 0, l, a, x, h, _ => ⟨0, rfl, by simpa using h⟩
  | C + 1, [], a, x, h, hc => by simp at hc
  | C + 1, b :: r, a, x, h, hc => by
    unfold decFrom at h
    cases hd : digitVal b with
    | none => rw [hd] at h; cases h
    | some d =>
      rw [hd] at h
      obtain ⟨v, h1, h2⟩ := decFrom_split C r _ x h (by simpa using hc)
      refine ⟨v + d * 10 ^ C, ?_, ?_⟩
      · rw [List.take_succ_cons]
        unfold decFrom
        rw [hd]
        have := decFrom_add d _ _ _ h1
        rw [List.length_take, Nat.min_eq_left (by simpa using hc), Nat.zero_add] at this
        show decFrom (0 * 10 + d) _ = _
        rw [Nat.zero_mul, Nat.zero_add]; exact this
      · rw [List.drop_succ_cons, ← h2]
        congr 1
        rw [Nat.pow_succ]
        have : (a * 10 + d) * 10 ^ C = a * (10 ^ C * 10) + d * 10 ^ C := by grind
        omega
open Lib in
theorem atoi_of {l : List UInt8} {v : Nat} (h : decFrom 0 l = some v) (hl : l ≠ []) : atoi l = some (v : Int) := by
  cases l with
  | nil => exact absurd rfl hl
  | cons b r =>
    have hb : 48 ≤ b.toNat := by
      unfold decFrom at h
      cases hd : digitVal b with
      | none => rw [hd] at h; cases h
      | some d => unfold digitVal at hd; split at hd
                  · omega
                  · cases hd
    have n1 : (b == 45) = false := by
      rw [beq_eq_false_iff_ne]; intro e; subst e; exact absurd hb (by decide)
    have n2 : (b == 43) = false := by
      rw [beq_eq_false_iff_ne]; intro e; subst e; exact absurd hb (by decide)
    rw [show atoi (b :: r) = if (b == 45) = true then (decNat r).map (fun (m : Nat) => -(m : Int)) else if (b == 43) = true then (decNat r).map (fun (m : Nat) => (m : Int)) else (decNat (b :: r)).map (fun (m : Nat) => (m : Int)) from rfl, n1, n2]
    show (decNat (b :: r)).map _ = _
    unfold decNat
    rw [show (b :: r).isEmpty = false from rfl]
    simp [h]
theorem ok_le {n x y : Nat} (h : okN n (mkI (y : Int)) = true) (hn : 1 ≤ n) (hxy : x ≤ y) : okN n (mkI (x : Int)) = true := by
  have h1 := val_lt h hn
  rw [val_mk] at h1
  exact (mkI_law (by omega)).1
theorem iAdd_mk {n : Nat} {x v : Nat} (h : okN n (iAdd (mkI (x : Int)) (iOf v)) = true) : iAdd (mkI (x : Int)) (iOf v) = mkI ((x + v : Nat) : Int) := by
  have e : valI (iAdd (mkI (x : Int)) (iOf v)) = ((x + v : Nat) : Int) := by
    rw [val_iAdd, val_mk]; show (x : Int) + v = _; omega
  have := ok_mk h (by rw [e]; omega)
  rw [e] at this; exact this
end
end Go.Proofs.YtjcbbabaabcdgaaGreatDoor
/- Package num: Read as a known function. -/
namespace Go.Proofs.YtjcbbabaabcdgaaGreatDoor
open Go.RowKit Sv
set_option maxRecDepth 100000
set_option linter.unusedVariables false
noncomputable section
theorem rd_ok : CallOk Tryz.prog (gS rdCs) := rctrs_ok (fun c hc => by rw [List.mem_singleton.1 hc]; exact rAtoi_ok) (ctrs_ok fun c hc => by
  simp only [List.mem_cons, List.not_mem_nil, or_false] at hc
  rcases hc with rfl | rfl | rfl | rfl | rfl | rfl | rfl
  · exact cHasPre_ok
  · exact cTrimPre_ok
  · exact cOf_ok
  · exact cPow_ok
  · exact cIMul_ok
  · exact cIAdd_ok
  · exact cINeg_ok)
theorem ext_take (s : ByteArray) (n : Nat) : (s.extract 0 n).data.toList = s.data.toList.take n := by
  rw [ByteArray.data_extract, Array.toList_extract]; simp [List.extract]
theorem ext_drop (s : ByteArray) (n : Nat) : (s.extract n s.size).data.toList = s.data.toList.drop n := by
  rw [ByteArray.data_extract, Array.toList_extract]
  simp only [List.extract]
  rw [List.take_of_length_le]
  rw [List.length_drop, Array.length_toList]; exact Nat.le_refl _
theorem size_list (s : ByteArray) : s.size = s.data.toList.length := by rw [Array.length_toList]; rfl
open Lib in
theorem decFrom_lt : ∀ (l : List UInt8) (a x : Nat), decFrom a l = some x → x < (a + 1) * 10 ^ l.length
  | [], a, x, h => by cases h; simp
  | b :: r, a, x, h => by
    unfold decFrom at h
    cases hd : digitVal b with
    | none => rw [hd] at h; cases h
    | some d =>
      rw [hd] at h
      have ih := decFrom_lt r _ _ h
      have hd9 : d ≤ 9 := by
        unfold digitVal at hd
        split at hd
        · cases hd; omega
        · cases hd
      have h1 := Nat.mul_le_mul_right (10 ^ r.length) (show a * 10 + d + 1 ≤ (a + 1) * 10 by omega)
      rw [List.length_cons, Nat.pow_succ]
      have : (a + 1) * (10 ^ r.length * 10) = (a + 1) * 10 * 10 ^ r.length := by grind
      omega
theorem ok_add_of {n x v : Nat} (h : okN n (mkI ((x + v : Nat) : Int)) = true) (hn : 1 ≤ n) : okN n (iAdd (mkI (x : Int)) (iOf v)) = true := ok_iAdd (by
  have h1 := val_lt h hn
  rw [val_mk] at h1
  rw [val_mk]
  show ((((x : Int) + (v : Int)).natAbs : Nat) : Int) < _
  rw [← Int.natCast_add]; exact h1)
theorem read_holds (s : ByteArray) (N : Nat) (hd : Lib.decFrom 0 (trimPre s mns).data.toList = some N) (hN : okI (mkI (N : Int)) = true) :
    Holds Tryz.prog false 120 [sv s] (nv (mkI (if hasPre s mns = true then -(N : Int) else N))) := by
  have hS := rd_ok
  have e0 : ((0, []) : NI) = mkI ((0 : Nat) : Int) := by unfold mkI; rw [if_pos (by decide)]; rfl
  have hst := rd_start s
  rw [show SRd (trimPre s mns) (0, []) (hasPre s mns) = SRd (trimPre s mns) (mkI ((0 : Nat) : Int)) (hasPre s mns) by rw [← e0]] at hst
  refine holds_fl (c := BRead) Tryz.func120 rfl rfl fun w F => ?_
  refine GoalL.to known mixed hS 4 _ hst (by kernel_rfl) ?_
  generalize hasPre s mns = neg
  refine GoalL.loop (ι := { x : ByteArray × Nat // Lib.decFrom x.2 x.1.data.toList = some N }) (id := 0) (b := cat BRead rdL) (rest := List.drop 5 (fl BRead [])) (by kernel_rfl) (fun x => SRd x.1.1 (mkI (x.1.2 : Int)) neg) (fun x => x.1.1.size)
    ⟨(trimPre s mns, 0), hd⟩ (fun _ => rfl) ?_
  rintro ⟨⟨t, m⟩, hx⟩
  have hx : Lib.decFrom m t.data.toList = some N := hx
  have hm := decFrom_le _ _ _ hx
  by_cases hz : t.size = 0
  · have e : m = N := by
      have : t.data.toList = [] := List.eq_nil_of_length_eq_zero (by rw [← size_list]; exact hz)
      rw [this] at hx; cases hx; rfl
    subst e
    refine GoalL.all (s := SRd t (mkI (m : Int)) neg) known mixed hS _ (rd_end t (mkI (m : Int)) neg (by rw [hz]; decide)) (by kernel_rfl) ?_
    refine onN_exit (inB_exit ?_)
    cases neg with
    | true =>
      have e : iNeg (mkI (m : Int)) = mkI (-(m : Int)) := by unfold iNeg; rw [val_mk]
      rw [if_pos rfl, ← e]
      exact GoalL.allRet (s := SRd t (mkI (m : Int)) true) known mixed hS _ (rd_neg t (mkI (m : Int)) true rfl hN) fun T H h => h
    | false =>
      rw [if_neg (by decide)]
      exact GoalL.allRet (s := SRd t (mkI (m : Int)) false) known mixed hS _ (rd_pos t (mkI (m : Int)) false rfl) fun T H h => h
  · obtain ⟨C, hC⟩ : ∃ C, C = min t.size 18 := ⟨_, rfl⟩
    have hE : (if (t.size : Int) < 18 then (t.size : Int) else 18) = (C : Int) := by split <;> omega
    have hC1 : 1 ≤ C := by omega
    have hC2 : C ≤ 18 := by omega
    have hC3 : C ≤ t.size := by omega
    obtain ⟨v, hv, hv2⟩ := decFrom_split C _ _ _ hx (by rw [← size_list]; exact hC3)
    have hm2 := decFrom_le _ _ _ hv2
    have hne : (t.extract 0 C).data.toList ≠ [] := by
      rw [ext_take]; intro e
      have := congrArg List.length e
      rw [List.length_take, ← size_list, List.length_nil] at this
      omega
    have ha : Lib.atoi (t.extract 0 C).data.toList = some (v : Int) := atoi_of (by rw [ext_take]; exact hv) hne
    have hok : okAtoi (t.extract 0 C) = true := by
      unfold okAtoi
      rw [ha, size_list, ext_take, List.length_take, decide_eq_true (by omega)]; rfl
    have hat : atoiI (t.extract 0 C) = v := by unfold atoiI; rw [ha]; rfl
    have key := rd_go t (t.extract C t.size) (mkI (m : Int)) (mkI ((m * 10 ^ C + v : Nat) : Int)) neg
    rw [hE, Int.toNat_natCast, hat] at key
    have hP : iPow (iOf 10) (C : Int) = mkI ((10 ^ C : Nat) : Int) := by
      unfold iPow
      rw [Int.toNat_natCast, Int.natCast_pow]; rfl
    have hpw : okPw (iOf 10) (C : Int) = true := by
      unfold okPw
      rw [show okI (iOf 10) = true from (okN_sm (n := 100000) (a := (10, [])) rfl).trans (by decide), decide_eq_true (show (0 : Int) ≤ C by omega), decide_eq_true (by rw [Int.toNat_natCast]; show 1 + (0 + 1) * C ≤ 100000; omega)]; rfl
    have hMul : iMul (mkI (m : Int)) (mkI ((10 ^ C : Nat) : Int)) = mkI ((m * 10 ^ C : Nat) : Int) := by
      unfold iMul; rw [val_mk, val_mk, ← Int.natCast_mul]
    have o1 : okI (mkI (m : Int)) = true := ok_le hN (by decide) hm
    have o3 : okI (mkI ((m * 10 ^ C : Nat) : Int)) = true := ok_le hN (by decide) (by omega)
    have p18 : 10 ^ C ≤ 10 ^ 18 := Nat.pow_le_pow_right (by decide) hC2
    have o2 : okI (mkI ((10 ^ C : Nat) : Int)) = true := ok_le (y := 10 ^ 18) (okN_mono (show 1 ≤ 100000 by decide) (mkI_law (by decide)).1) (by decide) p18
    have hvC : v < 10 ^ C := by
      have := decFrom_lt _ _ _ hv
      rw [List.length_take, ← size_list, Nat.min_eq_left hC3, Nat.zero_add, Nat.one_mul] at this
      exact this
    have o5 : okI (iOf v) = true := (okN_sm (n := 100000) (a := (v, [])) rfl).trans (i64B_iff.2 ⟨by show _ ≤ (v : Int); omega, by show (v : Int) ≤ _; omega⟩)
    have o4 : okI (mkI ((m * 10 ^ C + v : Nat) : Int)) = true := ok_le hN (by decide) hm2
    have hAdd : iAdd (iMul (mkI (m : Int)) (iPow (iOf 10) (C : Int))) (iOf v) = mkI ((m * 10 ^ C + v : Nat) : Int) := by
      rw [hP, hMul]; exact iAdd_mk (ok_add_of o4 (by decide))
    refine GoalL.all (s := SRd t (mkI (m : Int)) neg) known mixed hS _ (key (by omega) hok hpw (and_ok o1 (by show okI (iPow (iOf 10) (C : Int)) = true; rw [hP]; exact o2)) (and_ok (by show okI (iMul (mkI (m : Int)) (iPow (iOf 10) (C : Int))) = true; rw [hP, hMul]; exact o3) o5) rfl (congrArg Prod.fst hAdd) (congrArg Prod.snd hAdd)) (by kernel_rfl) ?_
    refine ⟨⟨(t.extract C t.size, m * 10 ^ C + v), ?_⟩, ?_, rfl, rfl⟩
    · show Lib.decFrom (m * 10 ^ C + v) (t.extract C t.size).data.toList = some N
      rw [ext_drop]; exact hv2
    · show (t.extract C t.size).size < t.size
      rw [size_list (t.extract C t.size), ext_drop, List.length_drop, ← size_list]; omega
def readN (s : ByteArray) : Int := match Lib.decFrom 0 (trimPre s mns).data.toList with | some n => n | none => 0
def readZ (s : ByteArray) : Int := if hasPre s mns = true then -readN s else readN s
noncomputable def iRead (s : ByteArray) : Int × List Int := mkI (readZ s)
noncomputable def okRead (s : ByteArray) : Bool := (Lib.decFrom 0 (trimPre s mns).data.toList).isSome && okI (mkI (readN s))
noncomputable def cRead : Ctr := { f := 120, ps := [.str], rs := [tI], fresh := false, pre := fun d => okRead d.1, fn := fun d => (iRead d.1, ()) }
theorem cRead_ok : cRead.Ok Tryz.prog := fun ⟨s, _⟩ h => by
  have h : okRead s = true := h
  unfold okRead at h
  rw [Bool.and_eq_true] at h
  obtain ⟨N, hN⟩ := Option.isSome_iff_exists.1 h.1
  have e : readN s = N := by unfold readN; rw [hN]
  have e2 : iRead s = mkI (if hasPre s mns = true then -(N : Int) else N) := by unfold iRead readZ; rw [e]
  show Holds Tryz.prog false 120 [sv s] (nv (iRead s))
  rw [e2]
  exact read_holds s N hN (by rw [← e]; exact h.2)
end
end Go.Proofs.YtjcbbabaabcdgaaGreatDoor
/- Package strings, strconv: Cut, Itoa as known functions (they read package-level variables). -/
namespace Go.Proofs.YtjcbbabaabcdgaaGreatDoor
open Go.RowKit Sv
set_option maxRecDepth 100000
set_option linter.unusedVariables false
noncomputable section
def cutA (s p : ByteArray) : ByteArray := ⟨(Lib.cut s.data.toList p.data.toList).1.toArray⟩
def cutB (s p : ByteArray) : ByteArray := ⟨(Lib.cut s.data.toList p.data.toList).2.1.toArray⟩
def cutIs (s p : ByteArray) : Bool := (Lib.cut s.data.toList p.data.toList).2.2
def okCut (s : ByteArray) : Bool := decide (s.size < 4294967281)
noncomputable def cCut : Ctr := { f := 116, ps := [.str, .str], rs := [.str, .str, .bool], fresh := true, pre := fun d => okCut d.1, fn := fun d => (cutA d.1 d.2.1, cutB d.1 d.2.1, cutIs d.1 d.2.1, ()) }
theorem below_drew2 {B : Nat} {w w' : World} (h : Below B w w') (n : Nat) : Below B w (w'.drewN n) := ⟨h.os, h.tape, h.output, h.size, h.block⟩
theorem gnd_max {F : Sv.Env} {w : World} (hF : OkF w F) (hG : Grd F) : ∃ m, w.cell? ⟨2, 0, none⟩ = some (.int .i64 m) := by
  obtain ⟨A, h1, m, h2⟩ := hG 2 _ rfl
  obtain ⟨e, fr, h3⟩ := hF.fz _ _ h1
  subst h2
  exact ⟨m, by simp [World.cell?, h3]⟩
theorem cCut_ok : cCut.Ok Tryz.prog := fun ⟨s, p, _⟩ h w F xs hF hG hd => by
  have h : okCut s = true := h
  unfold okCut at h
  rw [decide_eq_true_eq] at h
  obtain ⟨m, hm⟩ := gnd_max hF hG
  cases hd with
  | cons d1 d2 =>
    cases d2 with
    | cons d2 d3 =>
    cases d3
    rw [d1.raw_eq, d2.raw_eq]
    refine (Tryz.strings_Cut s p m w h hm).mono ?_
    rintro e w' ⟨rfl, n, rfl⟩
    have hb : Below w.heap.size w (w.drewN n) := below_drew2 (Below.refl _ _) _
    exact ⟨_, ⟨F.at', fun _ => none⟩, rfl, .tuple (.cons (.raw _) (.cons (.raw _) (.cons (.raw _) .nil))), ⟨hF.glob, hF.all, fun b A h => by cases h⟩, (fun b A h => by cases h), hb⟩
end
end Go.Proofs.YtjcbbabaabcdgaaGreatDoor
/- Package num: a fraction read from its notation. -/
namespace Go.Proofs.YtjcbbabaabcdgaaGreatDoor
open Go.RowKit Sv
set_option maxRecDepth 100000
set_option linter.unusedVariables false
set_option pp.structureInstances false
noncomputable section
noncomputable def BFrom : Code := (Tryz.f58.body).getD .skip
abbrev slsh : ByteArray := ⟨#[47]⟩
noncomputable def frCs : VCaller := ctrs [cCut, cRead, cWh]
def okFrom (s : ByteArray) : Bool := okCut s && (okRead (cutA s slsh) && (!cutIs s slsh || okRead (cutB s slsh)))
noncomputable def qFrom (s : ByteArray) : (Int × List Int) × (Int × List Int) := if cutIs s slsh = true then (iRead (cutA s slsh), iRead (cutB s slsh)) else qOf (iRead (cutA s slsh))
noncomputable def cFrom : Ctr := { f := 58, ps := [.str], rs := [tQ], fresh := false, pre := fun d => okFrom d.1, fn := fun d => (qFrom d.1, ()) }
theorem fr_no (s : ByteArray) (h1 : (okCut s) = true) (h2 : (cutIs s (ByteArray.mk #[(47 : UInt8)])) = false) (h3 : (okRead (cutA s (ByteArray.mk #[(47 : UInt8)]))) = true) :
    Tst.path (vrun0 Tryz.prog frCs (fl BFrom []) 9 (Tryz.f58.ntmps) [sv s]) [true] (toRet Tryz.prog Tryz.f58 false (qv (qOf (iRead (cutA s slsh))))) :=
  mp (an h1 (an (bN h2) (an h3 (an rt (an (rr (qOf ((iRead (cutA s (ByteArray.mk #[(47 : UInt8)]))).1, (iRead (cutA s (ByteArray.mk #[(47 : UInt8)]))).2)).1.1) (an (rr (qOf ((iRead (cutA s (ByteArray.mk #[(47 : UInt8)]))).1, (iRead (cutA s (ByteArray.mk #[(47 : UInt8)]))).2)).1.2) (an (rr (qOf ((iRead (cutA s (ByteArray.mk #[(47 : UInt8)]))).1, (iRead (cutA s (ByteArray.mk #[(47 : UInt8)]))).2)).2.1) (an (rr (qOf ((iRead (cutA s (ByteArray.mk #[(47 : UInt8)]))).1, (iRead (cutA s (ByteArray.mk #[(47 : UInt8)]))).2)).2.2) trivial))))))))
theorem fr_is (s : ByteArray) (h1 : (okCut s) = true) (h2 : (cutIs s (ByteArray.mk #[(47 : UInt8)])) = true) (h3 : (okRead (cutA s (ByteArray.mk #[(47 : UInt8)]))) = true) (h4 : (okRead (cutB s (ByteArray.mk #[(47 : UInt8)]))) = true) :
    Tst.path (vrun0 Tryz.prog frCs (fl BFrom []) 9 (Tryz.f58.ntmps) [sv s]) [false] (toRet Tryz.prog Tryz.f58 false (qv (iRead (cutA s slsh), iRead (cutB s slsh)))) :=
  mp (an h1 (an (bN h2) (an h3 (an h4 (an (rr (iRead (cutA s (ByteArray.mk #[(47 : UInt8)]))).1) (an (rr (iRead (cutA s (ByteArray.mk #[(47 : UInt8)]))).2) (an (rr (iRead (cutB s (ByteArray.mk #[(47 : UInt8)]))).1) (an (rr (iRead (cutB s (ByteArray.mk #[(47 : UInt8)]))).2) trivial))))))))
theorem fr_ok : CallOk Tryz.prog (gS frCs) := ctrs_ok fun c hc => by
  simp only [List.mem_cons, List.not_mem_nil, or_false] at hc
  rcases hc with rfl | rfl | rfl
  · exact cCut_ok
  · exact cRead_ok
  · exact cWh_ok
theorem from_holds (s : ByteArray) (h : okFrom s = true) : Holds Tryz.prog false 58 [sv s] (qv (qFrom s)) := by
  unfold okFrom at h
  rw [Bool.and_eq_true, Bool.and_eq_true] at h
  obtain ⟨h1, h2, h3⟩ := h
  refine holds_fl (c := BFrom) Tryz.func58 rfl rfl fun w F => ?_
  unfold qFrom
  cases hc : cutIs s slsh with
  | true =>
    rw [if_pos rfl]
    rw [hc] at h3
    exact GoalL.ret known mixed fr_ok 9 _ (fr_is s h1 hc h2 h3) fun T H h => h
  | false =>
    rw [if_neg (by decide)]
    exact GoalL.ret known mixed fr_ok 9 _ (fr_no s h1 hc h2) fun T H h => h
theorem cFrom_ok : cFrom.Ok Tryz.prog := fun ⟨s, _⟩ h => from_holds s h
end
end Go.Proofs.YtjcbbabaabcdgaaGreatDoor
/- Package num: comparison, difference, quotient, equality of fractions. -/
namespace Go.Proofs.YtjcbbabaabcdgaaGreatDoor
open Go.RowKit Sv
set_option maxRecDepth 100000
set_option linter.unusedVariables false
noncomputable section
noncomputable def BQSub : Code := (Tryz.f100.body).getD .skip
noncomputable def BQDiv : Code := (Tryz.f62.body).getD .skip
noncomputable def q3Cs : VCaller := ctrs [cQAdd, cQNeg, cQCmp, cQMul, cQInv]
theorem qsub_all (a b : NQ) (h1 : (okI (b.1.1, b.1.2)) = true) (h2 : (okQ (20000 : Nat) ((a.1.1, a.1.2), a.2.1, a.2.2) && okQ (20000 : Nat) (((qNeg ((b.1.1, b.1.2), b.2.1, b.2.2)).1.1, (qNeg ((b.1.1, b.1.2), b.2.1, b.2.2)).1.2), (qNeg ((b.1.1, b.1.2), b.2.1, b.2.2)).2.1, (qNeg ((b.1.1, b.1.2), b.2.1, b.2.2)).2.2)) = true) :
    Tst.path (vrun0 Tryz.prog q3Cs (fl BQSub []) 9 (Tryz.f100.ntmps) [qv a, qv b]) [] (toRet Tryz.prog Tryz.f100 false (qv (qAdd a (qNeg b)))) :=
  mp (an (sr (AV.agg [iv a.1.1, AV.lst true (.int .u64) a.1.2, iv a.2.1, AV.lst true (.int .u64) a.2.2])) (an (sr (AV.agg [iv b.1.1, AV.lst true (.int .u64) b.1.2, iv b.2.1, AV.lst true (.int .u64) b.2.2])) (an h1 (an (sr (AV.agg [iv a.1.1, AV.lst true (.int .u64) a.1.2, iv a.2.1, AV.lst true (.int .u64) a.2.2])) (an h2 (an (rr (qAdd ((a.1.1, a.1.2), a.2.1, a.2.2) (((qNeg ((b.1.1, b.1.2), b.2.1, b.2.2)).1.1, (qNeg ((b.1.1, b.1.2), b.2.1, b.2.2)).1.2), (qNeg ((b.1.1, b.1.2), b.2.1, b.2.2)).2.1, (qNeg ((b.1.1, b.1.2), b.2.1, b.2.2)).2.2)).1.1) (an (rr (qAdd ((a.1.1, a.1.2), a.2.1, a.2.2) (((qNeg ((b.1.1, b.1.2), b.2.1, b.2.2)).1.1, (qNeg ((b.1.1, b.1.2), b.2.1, b.2.2)).1.2), (qNeg ((b.1.1, b.1.2), b.2.1, b.2.2)).2.1, (qNeg ((b.1.1, b.1.2), b.2.1, b.2.2)).2.2)).1.2) (an (rr (qAdd ((a.1.1, a.1.2), a.2.1, a.2.2) (((qNeg ((b.1.1, b.1.2), b.2.1, b.2.2)).1.1, (qNeg ((b.1.1, b.1.2), b.2.1, b.2.2)).1.2), (qNeg ((b.1.1, b.1.2), b.2.1, b.2.2)).2.1, (qNeg ((b.1.1, b.1.2), b.2.1, b.2.2)).2.2)).2.1) (an (rr (qAdd ((a.1.1, a.1.2), a.2.1, a.2.2) (((qNeg ((b.1.1, b.1.2), b.2.1, b.2.2)).1.1, (qNeg ((b.1.1, b.1.2), b.2.1, b.2.2)).1.2), (qNeg ((b.1.1, b.1.2), b.2.1, b.2.2)).2.1, (qNeg ((b.1.1, b.1.2), b.2.1, b.2.2)).2.2)).2.2) trivial)))))))))
theorem qdiv_all (a b : NQ) (h1 : (okQuo (b.2.1, b.2.2) (b.1.1, b.1.2)) = true) (h2 : (okQ (20000 : Nat) ((a.1.1, a.1.2), a.2.1, a.2.2) && okQ (20000 : Nat) (((qInv ((b.1.1, b.1.2), b.2.1, b.2.2)).1.1, (qInv ((b.1.1, b.1.2), b.2.1, b.2.2)).1.2), (qInv ((b.1.1, b.1.2), b.2.1, b.2.2)).2.1, (qInv ((b.1.1, b.1.2), b.2.1, b.2.2)).2.2)) = true) :
    Tst.path (vrun0 Tryz.prog q3Cs (fl BQDiv []) 9 (Tryz.f62.ntmps) [qv a, qv b]) [] (toRet Tryz.prog Tryz.f62 false (qv (qMul a (qInv b)))) :=
  mp (an (sr (AV.agg [iv a.1.1, AV.lst true (.int .u64) a.1.2, iv a.2.1, AV.lst true (.int .u64) a.2.2])) (an (sr (AV.agg [iv b.1.1, AV.lst true (.int .u64) b.1.2, iv b.2.1, AV.lst true (.int .u64) b.2.2])) (an h1 (an (sr (AV.agg [iv a.1.1, AV.lst true (.int .u64) a.1.2, iv a.2.1, AV.lst true (.int .u64) a.2.2])) (an h2 (an (rr (qMul ((a.1.1, a.1.2), a.2.1, a.2.2) (((qInv ((b.1.1, b.1.2), b.2.1, b.2.2)).1.1, (qInv ((b.1.1, b.1.2), b.2.1, b.2.2)).1.2), (qInv ((b.1.1, b.1.2), b.2.1, b.2.2)).2.1, (qInv ((b.1.1, b.1.2), b.2.1, b.2.2)).2.2)).1.1) (an (rr (qMul ((a.1.1, a.1.2), a.2.1, a.2.2) (((qInv ((b.1.1, b.1.2), b.2.1, b.2.2)).1.1, (qInv ((b.1.1, b.1.2), b.2.1, b.2.2)).1.2), (qInv ((b.1.1, b.1.2), b.2.1, b.2.2)).2.1, (qInv ((b.1.1, b.1.2), b.2.1, b.2.2)).2.2)).1.2) (an (rr (qMul ((a.1.1, a.1.2), a.2.1, a.2.2) (((qInv ((b.1.1, b.1.2), b.2.1, b.2.2)).1.1, (qInv ((b.1.1, b.1.2), b.2.1, b.2.2)).1.2), (qInv ((b.1.1, b.1.2), b.2.1, b.2.2)).2.1, (qInv ((b.1.1, b.1.2), b.2.1, b.2.2)).2.2)).2.1) (an (rr (qMul ((a.1.1, a.1.2), a.2.1, a.2.2) (((qInv ((b.1.1, b.1.2), b.2.1, b.2.2)).1.1, (qInv ((b.1.1, b.1.2), b.2.1, b.2.2)).1.2), (qInv ((b.1.1, b.1.2), b.2.1, b.2.2)).2.1, (qInv ((b.1.1, b.1.2), b.2.1, b.2.2)).2.2)).2.2) trivial)))))))))
noncomputable def qSub (a b : NQ) : (Int × List Int) × (Int × List Int) := qAdd a (qNeg b)
noncomputable def qDiv (a b : NQ) : (Int × List Int) × (Int × List Int) := qMul a (qInv b)
def okDivQ (a b : NQ) : Bool := okQ 20000 a && (okQ 20000 b && !(valI b.1 == 0))
noncomputable def cQSub : Ctr := { f := 100, ps := [tQ, tQ], rs := [tQ], fresh := false, pre := fun d => okQ 20000 d.1 && okQ 20000 d.2.1, fn := fun d => (qSub d.1 d.2.1, ()) }
noncomputable def cQDiv : Ctr := { f := 62, ps := [tQ, tQ], rs := [tQ], fresh := false, pre := fun d => okDivQ d.1 d.2.1, fn := fun d => (qDiv d.1 d.2.1, ()) }
theorem q3_ok : CallOk Tryz.prog (gS q3Cs) := ctrs_ok fun c hc => by
  simp only [List.mem_cons, List.not_mem_nil, or_false] at hc
  rcases hc with rfl | rfl | rfl | rfl | rfl
  · exact cQAdd_ok
  · exact cQNeg_ok
  · exact cQCmp_ok
  · exact cQMul_ok
  · exact cQInv_ok
theorem okQ_neg {n : Nat} {b : NQ} (h : okQ n b = true) (hn : 1 ≤ n) : okQ n (qNeg b) = true := by
  obtain ⟨h1, h2, h3⟩ := okQ_iff.1 h
  exact okQ_iff.2 ⟨ok_neg h1 hn, h2, h3⟩
theorem okQ_and {a b : NQ} (h : okQ 20000 a = true) (g : okQ 20000 b = true) : (okQ 20000 a && okQ 20000 b) = true := by rw [h, g]; rfl
theorem qsub_holds (a b : NQ) (h : okQ 20000 a = true) (g : okQ 20000 b = true) : Holds Tryz.prog false 100 [qv a, qv b] (qv (qSub a b)) := by
  refine holds_fl (c := BQSub) Tryz.func100 rfl rfl fun w F => ?_
  exact GoalL.ret known mixed q3_ok 9 _ (qsub_all a b (okN_mono (show 20000 ≤ 100000 by decide) (okQ_iff.1 g).1) (okQ_and h (okQ_neg g (by decide)))) fun T H h => h
theorem cQSub_ok : cQSub.Ok Tryz.prog := fun ⟨a, b, _⟩ h => by
  have h : (okQ 20000 a && okQ 20000 b) = true := h
  rw [Bool.and_eq_true] at h
  exact qsub_holds a b h.1 h.2
theorem qdiv_holds (a b : NQ) (h : okQ 20000 a = true) (g : okQ 20000 b = true) (hb : valI b.1 ≠ 0) : Holds Tryz.prog false 62 [qv a, qv b] (qv (qDiv a b)) := by
  obtain ⟨g1, g2, g3⟩ := okQ_iff.1 g
  have m := @okN_mono 20000 100000
  refine holds_fl (c := BQDiv) Tryz.func62 rfl rfl fun w F => ?_
  exact GoalL.ret known mixed q3_ok 9 _ (qdiv_all a b (okQuo_iff.2 ⟨m (by decide) g2, m (by decide) g1, hb⟩) (okQ_and h (qMake_law g2 g1 (by decide) hb).ok)) fun T H h => h
theorem cQDiv_ok : cQDiv.Ok Tryz.prog := fun ⟨a, b, _⟩ h => by
  have h : okDivQ a b = true := h
  unfold okDivQ at h
  simp only [Bool.and_eq_true, Bool.not_eq_true', beq_eq_false_iff_ne] at h
  exact qdiv_holds a b h.1 h.2.1 h.2.2
end
end Go.Proofs.YtjcbbabaabcdgaaGreatDoor
/- Closed calls of package gear: the runner with package num known. -/
namespace Go.Proofs.YtjcbbabaabcdgaaGreatDoor
open Go.RowKit Sv
set_option linter.unusedSectionVars false
noncomputable section
def rawB : Value → Value → Bool
  | .int k a, .int k' b => decide (k = k') && decide (a = b)
  | .bool a, .bool b => a == b
  | .string a, .string b => decide (a = b)
  | _, _ => false
def sliceB (fresh : Bool) (H : AHeap) (i off n : Nat) (z : Bool) (u : Ty) (ys : List u.den) : Bool := match H.get i with
  | some (.cells _ cs _ _ false) => (!fresh || u.noList) && (match u.readL n (cut cs off (n * u.size)) with
    | some ds => Ty.beq (.list false u) ds ys && (Nat.ble (off + n * u.size) cs.length && (!z || Nat.ble 1 n))
    | none => false)
  | _ => false
def frzB1 (fresh : Bool) (H : AHeap) : AV → AV → Bool
  | .raw (.slice none 0 0), .lst _ _ ys => ys.isEmpty
  | .raw a, .raw b => rawB a b
  | .slice i off n _, .lst z u ys => sliceB fresh H i off n z u ys
  | _, _ => false
def frzBs (fresh : Bool) (H : AHeap) : List AV → List AV → Bool
  | [], [] => true
  | v :: l, v' :: l' => frzB1 fresh H v v' && frzBs fresh H l l'
  | _, _ => false
def frzB2 (fresh : Bool) (H : AHeap) : AV → AV → Bool
  | .agg l, .agg l' => frzBs fresh H l l'
  | .tuple l, .tuple l' => frzBs fresh H l l'
  | v, v' => frzB1 fresh H v v'
def frzBs2 (fresh : Bool) (H : AHeap) : List AV → List AV → Bool
  | [], [] => true
  | v :: l, v' :: l' => frzB2 fresh H v v' && frzBs2 fresh H l l'
  | _, _ => false
def frzB (fresh : Bool) (H : AHeap) : AV → AV → Bool
  | .agg l, .agg l' => frzBs2 fresh H l l'
  | .tuple l, .tuple l' => frzBs2 fresh H l l'
  | v, v' => frzB1 fresh H v v'
theorem rawB_ok {fresh : Bool} {H : AHeap} {a b : Value} (h : rawB a b = true) : frz fresh H (.raw a) (.raw b) := by
  unfold rawB at h
  split at h
  · rename_i k x k' y
    rw [Bool.and_eq_true] at h
    have h1 := h.1
    have h2 : x = y := of_decide_eq_true h.2
    unfold frz
    show chk (decide (k = k')) (x = y)
    rw [h1]; exact h2
  · rename_i x y
    unfold frz
    exact eq_of_beq h
  · rename_i x y
    have h2 : x = y := of_decide_eq_true h
    unfold frz
    exact h2
  · cases h
theorem frzB1_ok {fresh : Bool} {H : AHeap} {v v' : AV} (h : frzB1 fresh H v v' = true) : frz fresh H v v' := by
  unfold frzB1 at h
  split at h
  · rename_i z t ys
    unfold frz
    exact List.isEmpty_iff.1 h
  · exact rawB_ok h
  · rename_i i off n cap z u ys
    unfold frz
    unfold sliceB at h
    split at h
    · rename_i e cs ex fz hg
      rw [Bool.and_eq_true] at h
      rw [hg]
      simp only
      rw [show (!fresh || u.noList) = true from h.1]
      show (match u.readL n (cut cs off (n * u.size)) with | some ds => ds = ys ∧ _ | none => False)
      cases hr : u.readL n (cut cs off (n * u.size)) with
      | none => rw [hr] at h; cases h.2
      | some ds =>
        rw [hr] at h
        have h2 := h.2
        simp only [Bool.and_eq_true] at h2
        refine ⟨Ty.beq_ok (.list false u) h2.1, ?_⟩
        rw [Bool.and_eq_true]
        exact h2.2
    · cases h
  · cases h
theorem frzBs_ok {fresh : Bool} {H : AHeap} : ∀ {l l' : List AV}, frzBs fresh H l l' = true → frzs fresh H l l'
  | [], [], _ => trivial
  | [], _ :: _, h => by cases h
  | _ :: _, [], h => by cases h
  | v :: l, v' :: l', h => by
    unfold frzBs at h
    rw [Bool.and_eq_true] at h
    exact ⟨frzB1_ok h.1, frzBs_ok h.2⟩
theorem frzB2_ok {fresh : Bool} {H : AHeap} {v v' : AV} (h : frzB2 fresh H v v' = true) : frz fresh H v v' := by
  unfold frzB2 at h
  split at h
  · unfold frz; exact frzBs_ok h
  · unfold frz; exact frzBs_ok h
  · exact frzB1_ok h
theorem frzBs2_ok {fresh : Bool} {H : AHeap} : ∀ {l l' : List AV}, frzBs2 fresh H l l' = true → frzs fresh H l l'
  | [], [], _ => trivial
  | [], _ :: _, h => by cases h
  | _ :: _, [], h => by cases h
  | v :: l, v' :: l', h => by
    unfold frzBs2 at h
    rw [Bool.and_eq_true] at h
    exact ⟨frzB2_ok h.1, frzBs2_ok h.2⟩
theorem frzB_ok {fresh : Bool} {H : AHeap} {v v' : AV} (h : frzB fresh H v v' = true) : frz fresh H v v' := by
  unfold frzB at h
  split at h
  · unfold frz; exact frzBs2_ok h
  · unfold frz; exact frzBs2_ok h
  · exact frzB1_ok h
theorem holds_call {P : Program} {call : Caller} (hc : CallOk P call) {f : FuncId} {args : List AV} {v : AV} {H' : AHeap} {fresh : Bool} {res : AV} (h : call f args H0 = .ok v H') (hr : frz fresh H' v res) : Holds P fresh f args res := by
  intro w F xs hF hG hd
  have hH : HDen P w.heap.size F H0 w := ⟨fun i k h => (by rw [show H0.get i = none from Tr.get_nil i] at h; cases h), fun i j ki kj b ci cj h => (by rw [show H0.get i = none from Tr.get_nil i] at h; cases h), fun i k h => (by rw [show H0.get i = none from Tr.get_nil i] at h; cases h), Nat.le_refl _,
    fun b A h => ⟨hF.fz b A h, fun i k c hi => (by rw [show H0.get i = none from Tr.get_nil i] at hi; cases hi)⟩⟩
  refine (callsIn_wide.1 (hc.sim f args H0 v H' h w.heap.size F xs w 0 hH ⟨hF.all, hG⟩ hd fun i h1 _ => ?_)).mono ?_
  · have h1 : 64 ≤ i := h1
    cases hfi : F i with
    | none => rfl
    | some x => exact absurd (hF.glob i x hfi) (by omega)
  · rintro e w2 ⟨x, ρ, rfl, r1, r2, r3⟩
    have hb := r3.below hH
    have hfz : ∀ b A, ρ.fz b = some A → F.fz b = some A ∨ w.heap.size ≤ b := fun b A hb => by
      rcases r3.fzn b A hb with h | h | ⟨i, k, c, h, _⟩
      · exact .inl h
      · exact .inr h
      · rw [show H0.get i = none from Tr.get_nil i] at h; cases h
    refine ⟨x, outF fresh w.heap.size w2 F, rfl, frz_den r2 hfz hr r1, ⟨hF.glob, hF.all, fun b A hb' => ?_⟩, fun b A hb' => ?_, hb⟩
    · have hb' : (if w.heap.size ≤ b then cellsOf? w2 b else if fresh then none else F.fz b) = some A := hb'
      by_cases h0 : w.heap.size ≤ b
      · rw [if_pos h0] at hb'; exact cellsOf?_some.1 hb'
      · rw [if_neg h0] at hb'
        cases hfr : fresh with
        | true => rw [hfr] at hb'; cases hb'
        | false =>
          rw [hfr] at hb'
          obtain ⟨e, fr, h3⟩ := hF.fz b A hb'
          exact ⟨e, fr, (hb.block b (by omega)).trans h3⟩
    · have hb' : (if w.heap.size ≤ b then cellsOf? w2 b else if fresh then none else F.fz b) = some A := hb'
      by_cases h0 : w.heap.size ≤ b
      · exact .inr h0
      · rw [if_neg h0] at hb'
        cases hfr : fresh with
        | true => rw [hfr] at hb'; cases hb'
        | false => rw [hfr] at hb'; exact .inl ⟨rfl, hb'⟩
end
end Go.Proofs.YtjcbbabaabcdgaaGreatDoor
