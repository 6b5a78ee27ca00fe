/- Package num: integers: quotient and rest. -/
import Derived.Test.YtjcbbabaabcdgaaGreatDoorZgVDv4
import Derived.Lib.SmallJoins
namespace Go.Proofs.YtjcbbabaabcdgaaGreatDoor
open Go.RowKit Sv
set_option maxRecDepth 100000
set_option linter.unusedVariables false
noncomputable section
noncomputable def BDm : Code := (Tryz.f184.body).getD .skip
noncomputable def ndCs : VCaller := ctrs [cParts, cMade, cDvd, cISign, cISub, cIAdd]
abbrev s4 : Sv.Ren := [(64, 64, none), (65, 65, none), (66, 66, none), (67, 67, none)]
def SDm (a b : NI) : St := { n := 84, sl := [(2, .ptr 64 0), (3, .ptr 65 0), (4, .ptr 66 0), (5, .ptr 67 0)], en := [(64, bI a), (65, bI b), (66, b0), (67, b0)], next := 68 }
def dmQ (a b : NI) : Int × List Int := mkI (madeZ (negI a) (dvQ (prW a) (prW b)))
def dmR (a b : NI) : Int × List Int := mkI (madeZ (negI a) (dvR (prW a) (prW b)))
theorem dm_neg (a b : NI) (h1 : a.2.isEmpty = true) (h2 : b.2.isEmpty = true) (h3 : ¬a.1 = -9223372036854775808) (h4 : b.1 ≠ 0) (h5 : -9223372036854775808 ≤ Int.tdiv a.1 b.1 ∧ Int.tdiv a.1 b.1 ≤ 9223372036854775807) (h6 : Int.tmod a.1 b.1 < 0) (h7 : -9223372036854775808 ≤ Int.tdiv a.1 b.1 - 1 ∧ Int.tdiv a.1 b.1 - 1 ≤ 9223372036854775807) (h8 : -9223372036854775808 ≤ Int.tmod a.1 b.1 + b.1 ∧ Int.tmod a.1 b.1 + b.1 ≤ 9223372036854775807) :
    Tst.path (vrun0 Tryz.prog ndCs (fl BDm []) 3 84 [nv a, nv b]) [true, true, true, true, true, true, true, true, true, true] (toRet Tryz.prog Tryz.f184 false (.tuple [nv (Int.tdiv a.1 b.1 - 1, []), nv (Int.tmod a.1 b.1 + b.1, [])])) :=
  mp (an (bT (bT h1)) (an (bT (bT h1)) (an (bT (bT h1)) (an (bT h1) (an (bT (bT h2)) (an (bT (bT h2)) (an (bT (bT h2)) (an (bT h2) (an (bne_iff_ne.mpr h3) (an (sr (iv a.1)) (an (sr (iv b.1)) (an (decide_eq_true h4) (an (fits_i64 h5) (an (sr (iv a.1)) (an (sr (iv b.1)) (an (decide_eq_true h4) (an (decide_eq_true h6) (an (fits_i64 h7) (an (sr (iv b.1)) (an (fits_i64 h8) (an (an (rr (Int.tdiv a.1 b.1 - 1)) (an (rr nilI) trivial)) (an (an (rr (Int.tmod a.1 b.1 + b.1)) (an (rr nilI) trivial)) trivial))))))))))))))))))))))
theorem dm_pos (a b : NI) (h1 : a.2.isEmpty = true) (h2 : b.2.isEmpty = true) (h3 : ¬a.1 = -9223372036854775808) (h4 : b.1 ≠ 0) (h5 : -9223372036854775808 ≤ Int.tdiv a.1 b.1 ∧ Int.tdiv a.1 b.1 ≤ 9223372036854775807) (h6 : ¬Int.tmod a.1 b.1 < 0) :
    Tst.path (vrun0 Tryz.prog ndCs (fl BDm []) 3 84 [nv a, nv b]) [true, true, true, true, true, true, true, true, true, false] (toRet Tryz.prog Tryz.f184 false (.tuple [nv (Int.tdiv a.1 b.1, []), nv (Int.tmod a.1 b.1, [])])) :=
  mp (an (bT (bT h1)) (an (bT (bT h1)) (an (bT (bT h1)) (an (bT h1) (an (bT (bT h2)) (an (bT (bT h2)) (an (bT (bT h2)) (an (bT h2) (an (bne_iff_ne.mpr h3) (an (sr (iv a.1)) (an (sr (iv b.1)) (an (decide_eq_true h4) (an (fits_i64 h5) (an (sr (iv a.1)) (an (sr (iv b.1)) (an (decide_eq_true h4) (an (decide_eq_false h6) (an (an (rr (Int.tdiv a.1 b.1)) (an (rr nilI) trivial)) (an (an (rr (Int.tmod a.1 b.1)) (an (rr nilI) trivial)) trivial)))))))))))))))))))
theorem dm_r1 (a b : NI) (h1 : a.2.isEmpty = false) :
    Tst.path (vrun0 Tryz.prog ndCs (fl BDm []) 3 84 [nv a, nv b]) [false, false, false, false, false, false, false, false, false] (toSt Tryz.prog 84 .normal s4 (SDm a b)) :=
  mp (an (bT (bT h1)) (an (bT (bT h1)) (an (bT (bT h1)) (an (bT h1) (an rf (an rf (an rf (an rf (an rf (an (rr ((0 : Nat))) (an (rr ((0 : Nat))) (an (rr ((0 : Nat))) (an (rr ((0 : Nat))) (an (an (rr a.1) (an (rr a.2) trivial)) (an (an (rr b.1) (an (rr b.2) trivial)) (an (an (rr ((0 : Int))) (an (rr (Value.slice none (0 : Nat) (0 : Nat))) trivial)) (an (an (rr ((0 : Int))) (an (rr (Value.slice none (0 : Nat) (0 : Nat))) trivial)) trivial)))))))))))))))))
theorem dm_r2 (a b : NI) (h1 : a.2.isEmpty = true) (h2 : b.2.isEmpty = false) :
    Tst.path (vrun0 Tryz.prog ndCs (fl BDm []) 3 84 [nv a, nv b]) [true, true, true, true, false, false, false, false, false] (toSt Tryz.prog 84 .normal s4 (SDm a b)) :=
  mp (an (bT (bT h1)) (an (bT (bT h1)) (an (bT (bT h1)) (an (bT h1) (an (bT (bT h2)) (an (bT (bT h2)) (an (bT (bT h2)) (an (bT h2) (an rf (an (rr ((0 : Nat))) (an (rr ((0 : Nat))) (an (rr ((0 : Nat))) (an (rr ((0 : Nat))) (an (an (rr a.1) (an (rr a.2) trivial)) (an (an (rr b.1) (an (rr b.2) trivial)) (an (an (rr ((0 : Int))) (an (rr (Value.slice none (0 : Nat) (0 : Nat))) trivial)) (an (an (rr ((0 : Int))) (an (rr (Value.slice none (0 : Nat) (0 : Nat))) trivial)) trivial)))))))))))))))))
theorem dm_r3 (a b : NI) (h1 : a.2.isEmpty = true) (h2 : b.2.isEmpty = true) (h3 : a.1 = -9223372036854775808) :
    Tst.path (vrun0 Tryz.prog ndCs (fl BDm []) 3 84 [nv a, nv b]) [true, true, true, true, true, true, true, true, false] (toSt Tryz.prog 84 .normal s4 (SDm a b)) :=
  mp (an (bT (bT h1)) (an (bT (bT h1)) (an (bT (bT h1)) (an (bT h1) (an (bT (bT h2)) (an (bT (bT h2)) (an (bT (bT h2)) (an (bT h2) (an (bne_eq_false_iff_eq.mpr h3) (an (rr ((0 : Nat))) (an (rr ((0 : Nat))) (an (rr ((0 : Nat))) (an (rr ((0 : Nat))) (an (an (rr a.1) (an (rr a.2) trivial)) (an (an (rr b.1) (an (rr b.2) trivial)) (an (an (rr ((0 : Int))) (an (rr (Value.slice none (0 : Nat) (0 : Nat))) trivial)) (an (an (rr ((0 : Int))) (an (rr (Value.slice none (0 : Nat) (0 : Nat))) trivial)) trivial)))))))))))))))))
theorem dm_lt (a b : NI) (h1 : (okI (a.1, a.2)) = true) (h2 : (okI (b.1, b.2)) = true) (h3 : (okDv (prW (a.1, a.2)) (prW (b.1, b.2))) = true) (h4 : (dgB (dvQ (prW (a.1, a.2)) (prW (b.1, b.2))) && tmB (dvQ (prW (a.1, a.2)) (prW (b.1, b.2)))) = true) (h5 : (dgB (dvR (prW (a.1, a.2)) (prW (b.1, b.2))) && tmB (dvR (prW (a.1, a.2)) (prW (b.1, b.2)))) = true) (h6 : (okI ((mkI (madeZ (negI (a.1, a.2)) (dvR (prW (a.1, a.2)) (prW (b.1, b.2))))).1, (mkI (madeZ (negI (a.1, a.2)) (dvR (prW (a.1, a.2)) (prW (b.1, b.2))))).2)) = true) (h7 : iSign ((mkI (madeZ (negI (a.1, a.2)) (dvR (prW (a.1, a.2)) (prW (b.1, b.2))))).1, (mkI (madeZ (negI (a.1, a.2)) (dvR (prW (a.1, a.2)) (prW (b.1, b.2))))).2) < 0) (h8 : (okI ((mkI (madeZ (negI (a.1, a.2)) (dvQ (prW (a.1, a.2)) (prW (b.1, b.2))))).1, (mkI (madeZ (negI (a.1, a.2)) (dvQ (prW (a.1, a.2)) (prW (b.1, b.2))))).2) && okI ((1 : Int), [])) = true) (h9 : (okI ((mkI (madeZ (negI (a.1, a.2)) (dvR (prW (a.1, a.2)) (prW (b.1, b.2))))).1, (mkI (madeZ (negI (a.1, a.2)) (dvR (prW (a.1, a.2)) (prW (b.1, b.2))))).2) && okI (b.1, b.2)) = true) (h10 : (iSub ((mkI (madeZ (negI (a.1, a.2)) (dvQ (prW (a.1, a.2)) (prW (b.1, b.2))))).1, (mkI (madeZ (negI (a.1, a.2)) (dvQ (prW (a.1, a.2)) (prW (b.1, b.2))))).2) ((1 : Int), [])).1 = (iSub (dmQ a b) ((1 : Int), [])).1) (h11 : (iSub ((mkI (madeZ (negI (a.1, a.2)) (dvQ (prW (a.1, a.2)) (prW (b.1, b.2))))).1, (mkI (madeZ (negI (a.1, a.2)) (dvQ (prW (a.1, a.2)) (prW (b.1, b.2))))).2) ((1 : Int), [])).2 = (iSub (dmQ a b) ((1 : Int), [])).2) (h12 : (iAdd ((mkI (madeZ (negI (a.1, a.2)) (dvR (prW (a.1, a.2)) (prW (b.1, b.2))))).1, (mkI (madeZ (negI (a.1, a.2)) (dvR (prW (a.1, a.2)) (prW (b.1, b.2))))).2) (b.1, b.2)).1 = (iAdd (dmR a b) b).1) (h13 : (iAdd ((mkI (madeZ (negI (a.1, a.2)) (dvR (prW (a.1, a.2)) (prW (b.1, b.2))))).1, (mkI (madeZ (negI (a.1, a.2)) (dvR (prW (a.1, a.2)) (prW (b.1, b.2))))).2) (b.1, b.2)).2 = (iAdd (dmR a b) b).2) :
    Tst.path (vall Tryz.prog ndCs (List.drop 3 (fl BDm [])) (SDm a b)) [true] (toRet Tryz.prog Tryz.f184 false (.tuple [nv (iSub (dmQ a b) (1, [])), nv (iAdd (dmR a b) b)])) :=
  mp (an h1 (an h2 (an h3 (an h4 (an h5 (an h6 (an (decide_eq_true h7) (an (sr (AV.agg [iv (mkI (madeZ (negI (a.1, a.2)) (dvQ (prW (a.1, a.2)) (prW (b.1, b.2))))).1, AV.lst true (.int .u64) (mkI (madeZ (negI (a.1, a.2)) (dvQ (prW (a.1, a.2)) (prW (b.1, b.2))))).2])) (an (sr (AV.agg [iv (mkI (madeZ (negI (a.1, a.2)) (dvQ (prW (a.1, a.2)) (prW (b.1, b.2))))).1, AV.lst true (.int .u64) (mkI (madeZ (negI (a.1, a.2)) (dvQ (prW (a.1, a.2)) (prW (b.1, b.2))))).2])) (an h8 (an (sr (AV.agg [iv (mkI (madeZ (negI (a.1, a.2)) (dvR (prW (a.1, a.2)) (prW (b.1, b.2))))).1, AV.lst true (.int .u64) (mkI (madeZ (negI (a.1, a.2)) (dvR (prW (a.1, a.2)) (prW (b.1, b.2))))).2])) (an (sr (AV.agg [iv (mkI (madeZ (negI (a.1, a.2)) (dvR (prW (a.1, a.2)) (prW (b.1, b.2))))).1, AV.lst true (.int .u64) (mkI (madeZ (negI (a.1, a.2)) (dvR (prW (a.1, a.2)) (prW (b.1, b.2))))).2])) (an (sr (AV.agg [iv (mkI (madeZ (negI (a.1, a.2)) (dvR (prW (a.1, a.2)) (prW (b.1, b.2))))).1, AV.lst true (.int .u64) (mkI (madeZ (negI (a.1, a.2)) (dvR (prW (a.1, a.2)) (prW (b.1, b.2))))).2])) (an (sr (AV.agg [iv b.1, AV.lst true (.int .u64) b.2])) (an (sr (AV.agg [iv b.1, AV.lst true (.int .u64) b.2])) (an (sr (AV.agg [iv b.1, AV.lst true (.int .u64) b.2])) (an h9 (an (sr (AV.agg [iv (iSub ((mkI (madeZ (negI (a.1, a.2)) (dvQ (prW (a.1, a.2)) (prW (b.1, b.2))))).1, (mkI (madeZ (negI (a.1, a.2)) (dvQ (prW (a.1, a.2)) (prW (b.1, b.2))))).2) ((1 : Int), [])).1, AV.lst true (.int .u64) (iSub ((mkI (madeZ (negI (a.1, a.2)) (dvQ (prW (a.1, a.2)) (prW (b.1, b.2))))).1, (mkI (madeZ (negI (a.1, a.2)) (dvQ (prW (a.1, a.2)) (prW (b.1, b.2))))).2) ((1 : Int), [])).2])) (an (sr (AV.agg [iv (iAdd ((mkI (madeZ (negI (a.1, a.2)) (dvR (prW (a.1, a.2)) (prW (b.1, b.2))))).1, (mkI (madeZ (negI (a.1, a.2)) (dvR (prW (a.1, a.2)) (prW (b.1, b.2))))).2) (b.1, b.2)).1, AV.lst true (.int .u64) (iAdd ((mkI (madeZ (negI (a.1, a.2)) (dvR (prW (a.1, a.2)) (prW (b.1, b.2))))).1, (mkI (madeZ (negI (a.1, a.2)) (dvR (prW (a.1, a.2)) (prW (b.1, b.2))))).2) (b.1, b.2)).2])) (an (sr (AV.agg [iv (iAdd ((mkI (madeZ (negI (a.1, a.2)) (dvR (prW (a.1, a.2)) (prW (b.1, b.2))))).1, (mkI (madeZ (negI (a.1, a.2)) (dvR (prW (a.1, a.2)) (prW (b.1, b.2))))).2) (b.1, b.2)).1, AV.lst true (.int .u64) (iAdd ((mkI (madeZ (negI (a.1, a.2)) (dvR (prW (a.1, a.2)) (prW (b.1, b.2))))).1, (mkI (madeZ (negI (a.1, a.2)) (dvR (prW (a.1, a.2)) (prW (b.1, b.2))))).2) (b.1, b.2)).2])) (an (an h10 (an h11 trivial)) (an (an h12 (an h13 trivial)) trivial))))))))))))))))))))))
theorem dm_ge (a b : NI) (h1 : (okI (a.1, a.2)) = true) (h2 : (okI (b.1, b.2)) = true) (h3 : (okDv (prW (a.1, a.2)) (prW (b.1, b.2))) = true) (h4 : (dgB (dvQ (prW (a.1, a.2)) (prW (b.1, b.2))) && tmB (dvQ (prW (a.1, a.2)) (prW (b.1, b.2)))) = true) (h5 : (dgB (dvR (prW (a.1, a.2)) (prW (b.1, b.2))) && tmB (dvR (prW (a.1, a.2)) (prW (b.1, b.2)))) = true) (h6 : (okI ((mkI (madeZ (negI (a.1, a.2)) (dvR (prW (a.1, a.2)) (prW (b.1, b.2))))).1, (mkI (madeZ (negI (a.1, a.2)) (dvR (prW (a.1, a.2)) (prW (b.1, b.2))))).2)) = true) (h7 : ¬iSign ((mkI (madeZ (negI (a.1, a.2)) (dvR (prW (a.1, a.2)) (prW (b.1, b.2))))).1, (mkI (madeZ (negI (a.1, a.2)) (dvR (prW (a.1, a.2)) (prW (b.1, b.2))))).2) < 0) (h8 : (mkI (madeZ (negI (a.1, a.2)) (dvQ (prW (a.1, a.2)) (prW (b.1, b.2))))).1 = (dmQ a b).1) (h9 : (mkI (madeZ (negI (a.1, a.2)) (dvQ (prW (a.1, a.2)) (prW (b.1, b.2))))).2 = (dmQ a b).2) (h10 : (mkI (madeZ (negI (a.1, a.2)) (dvR (prW (a.1, a.2)) (prW (b.1, b.2))))).1 = (dmR a b).1) (h11 : (mkI (madeZ (negI (a.1, a.2)) (dvR (prW (a.1, a.2)) (prW (b.1, b.2))))).2 = (dmR a b).2) :
    Tst.path (vall Tryz.prog ndCs (List.drop 3 (fl BDm [])) (SDm a b)) [false] (toRet Tryz.prog Tryz.f184 false (.tuple [nv (dmQ a b), nv (dmR a b)])) :=
  mp (an h1 (an h2 (an h3 (an h4 (an h5 (an h6 (an (decide_eq_false h7) (an (sr (AV.agg [iv (mkI (madeZ (negI (a.1, a.2)) (dvQ (prW (a.1, a.2)) (prW (b.1, b.2))))).1, AV.lst true (.int .u64) (mkI (madeZ (negI (a.1, a.2)) (dvQ (prW (a.1, a.2)) (prW (b.1, b.2))))).2])) (an (sr (AV.agg [iv (mkI (madeZ (negI (a.1, a.2)) (dvR (prW (a.1, a.2)) (prW (b.1, b.2))))).1, AV.lst true (.int .u64) (mkI (madeZ (negI (a.1, a.2)) (dvR (prW (a.1, a.2)) (prW (b.1, b.2))))).2])) (an (sr (AV.agg [iv (mkI (madeZ (negI (a.1, a.2)) (dvR (prW (a.1, a.2)) (prW (b.1, b.2))))).1, AV.lst true (.int .u64) (mkI (madeZ (negI (a.1, a.2)) (dvR (prW (a.1, a.2)) (prW (b.1, b.2))))).2])) (an (an h8 (an h9 trivial)) (an (an h10 (an h11 trivial)) trivial))))))))))))
noncomputable def iDivQ (a b : NI) : Int × List Int := if smI a && (smI b && !(a.1 == -9223372036854775808)) then mkI (valI a / valI b) else if valI (dmR a b) < 0 then iSub (dmQ a b) (1, []) else dmQ a b
noncomputable def iDivR (a b : NI) : Int × List Int := mkI (valI a % valI b)
def okDm (a b : NI) : Bool := (okI a && okI b) && decide (0 < valI b)
noncomputable def cDm : Ctr := { f := 184, ps := [tI, tI], rs := [tI, tI], fresh := false, pre := fun d => okDm d.1 d.2.1, fn := fun d => (iDivQ d.1 d.2.1, (iDivR d.1 d.2.1, ())) }
theorem nd_ok : CallOk Tryz.prog (gS ndCs) := ctrs_ok fun c hc => by
  simp only [List.mem_cons, List.not_mem_nil, or_false] at hc
  rcases hc with rfl | rfl | rfl | rfl | rfl | rfl
  · exact cParts_ok
  · exact cMade_ok
  · exact cDvd_ok
  · exact cISign_ok
  · exact cISub_ok
  · exact cIAdd_ok
theorem dm_vals {n : Nat} {a b : NI} (h : okN n a = true) (g : okN n b = true) (hb : 0 < valI b) :
    0 ≤ vw (prW a) / vw (prW b) ∧ 0 ≤ vw (prW a) % vw (prW b) ∧ vw (prW a) % vw (prW b) < valI b ∧ vw (prW b) = valI b ∧
    ((0 ≤ valI a ∧ valI (dmQ a b) = valI a / valI b ∧ valI (dmR a b) = valI a % valI b ∧ ¬ valI (dmR a b) < 0) ∨
     (valI (dmR a b) < 0 ∧ valI (dmQ a b) - 1 = valI a / valI b ∧ valI (dmR a b) + valI b = valI a % valI b) ∨
     (¬ valI (dmR a b) < 0 ∧ valI (dmQ a b) = valI a / valI b ∧ valI (dmR a b) = valI a % valI b)) := by
  obtain ⟨_, _, a3, a4, _⟩ := parts_law h
  obtain ⟨_, _, b3, b4, _⟩ := parts_law g
  have eb : vw (prW b) = valI b := by omega
  have q0 : 0 ≤ vw (prW a) / vw (prW b) := Int.ediv_nonneg (by omega) (by omega)
  have r0 := Int.emod_nonneg (vw (prW a)) (show vw (prW b) ≠ 0 by omega)
  have r1 := Int.emod_lt_of_pos (vw (prW a)) (show 0 < vw (prW b) by omega)
  have hdm := Int.emod_add_mul_ediv (vw (prW a)) (vw (prW b))
  have eQ : valI (dmQ a b) = madeZ (negI a) (dvQ (prW a) (prW b)) := val_mk _
  have eR : valI (dmR a b) = madeZ (negI a) (dvR (prW a) (prW b)) := val_mk _
  have vQ : vw (dvQ (prW a) (prW b)) = vw (prW a) / vw (prW b) := vw_dgN q0
  have vR : vw (dvR (prW a) (prW b)) = vw (prW a) % vw (prW b) := vw_dgN r0
  refine ⟨q0, r0, by omega, eb, ?_⟩
  unfold madeZ at eQ eR
  cases hn : negI a
  · rw [hn] at eQ eR
    have eQ : valI (dmQ a b) = vw (dvQ (prW a) (prW b)) := eQ
    have eR : valI (dmR a b) = vw (dvR (prW a) (prW b)) := eR
    have ha : ¬ valI a < 0 := fun hh => by rw [a4.2 hh] at hn; cases hn
    have ea : vw (prW a) = valI a := by omega
    refine .inl ⟨by omega, by rw [eQ, vQ, ea, eb], by rw [eR, vR, ea, eb], by rw [eR, vR]; omega⟩
  · rw [hn] at eQ eR
    have eQ : valI (dmQ a b) = -vw (dvQ (prW a) (prW b)) := eQ
    have eR : valI (dmR a b) = -vw (dvR (prW a) (prW b)) := eR
    have ha := a4.1 hn
    have ea : vw (prW a) = -valI a := by omega
    rw [vQ] at eQ
    rw [vR] at eR
    rw [eb] at eQ eR hdm r1 r0 q0
    generalize vw (prW a) / valI b = q at *
    generalize vw (prW a) % valI b = r at *
    by_cases hr : r = 0
    · obtain ⟨k1, k2⟩ := quot_of (U := valI a) (V := valI b) (t := -q) hb (by rw [Int.neg_mul, Int.mul_comm q]; omega) (by rw [Int.neg_mul, Int.mul_comm q]; omega)
      rw [Int.neg_mul, Int.mul_comm q] at k2
      exact .inr (.inr ⟨by omega, by omega, by omega⟩)
    · have e : (-q - 1) * valI b = -(valI b * q) - valI b := by rw [Int.sub_mul, Int.one_mul, Int.neg_mul, Int.mul_comm q]
      obtain ⟨k1, k2⟩ := quot_of (U := valI a) (V := valI b) (t := -q - 1) hb (by rw [e]; omega) (by rw [e]; omega)
      rw [e] at k2
      exact .inr (.inl ⟨by omega, by omega, by omega⟩)
theorem val_iDivQ {n : Nat} {a b : NI} (h : okN n a = true) (g : okN n b = true) (hb : 0 < valI b) : valI (iDivQ a b) = valI a / valI b := by
  obtain ⟨_, _, _, _, hv⟩ := dm_vals h g hb
  unfold iDivQ
  split
  · exact val_mk _
  · split
    · rename_i hlt
      rw [val_sub]
      have e1 : valI (1, []) = 1 := rfl
      rw [e1]
      omega
    · omega
theorem val_iDivR (a b : NI) : valI (iDivR a b) = valI a % valI b := val_mk _
theorem ediv_abs (x : Int) {y : Int} (hy : 0 < y) : (x / y).natAbs ≤ x.natAbs := by
  have h1 := Int.emod_add_mul_ediv x y
  have h2 := Int.emod_nonneg x (show y ≠ 0 by omega)
  have h3 := Int.emod_lt_of_pos x hy
  by_cases h0 : 0 ≤ x
  · have h4 : 0 ≤ x / y := Int.ediv_nonneg h0 (by omega)
    have := Int.mul_le_mul_of_nonneg_right (show 1 ≤ y by omega) h4
    omega
  · have h4 : x / y ≤ -1 := by
      have : x / y < 0 := (Int.ediv_lt_iff_lt_mul hy).2 (by omega)
      omega
    have h5 := Int.mul_le_mul_of_nonneg_left (show x / y + 1 ≤ 0 by omega) (show 0 ≤ y - 1 by omega)
    rw [Int.mul_zero] at h5
    have e : (y - 1) * (x / y + 1) = y * (x / y) + y - x / y - 1 := by grind
    omega
theorem ok_iDivQ {n : Nat} {a b : NI} (h : okN n a = true) (g : okN n b = true) (hb : 0 < valI b) (hn : 1 ≤ n) : okN n (iDivQ a b) = true := by
  have hv := val_iDivQ h g hb
  have ha := val_lt h hn
  have hd := ediv_abs (valI a) hb
  have hk : ∀ z : Int, z = valI a / valI b → (z.natAbs : Int) < 18446744073709551616 ^ n := fun z hz => by subst hz; omega
  unfold iDivQ at hv ⊢
  split
  · exact (mkI_law (hk _ rfl)).1
  · rename_i hc
    rw [if_neg hc] at hv
    split
    · rename_i hlt
      rw [if_pos hlt, val_sub] at hv
      exact ok_iAdd (by rw [val_neg]; exact hk _ (by omega))
    · rename_i hlt
      rw [if_neg hlt] at hv
      unfold dmQ at hv ⊢
      rw [val_mk] at hv
      exact (mkI_law (hk _ hv)).1
theorem emod_lt_pow {n : Nat} {a b : NI} (g : okN n b = true) (hb : 0 < valI b) (hn : 1 ≤ n) : ((valI a % valI b).natAbs : Int) < 18446744073709551616 ^ n := by
  have h1 := Int.emod_nonneg (valI a) (show valI b ≠ 0 by omega)
  have h2 := Int.emod_lt_of_pos (valI a) hb
  have h3 := val_lt g hn
  omega
theorem ok_iDivR {n : Nat} {a b : NI} (g : okN n b = true) (hb : 0 < valI b) (hn : 1 ≤ n) : okN n (iDivR a b) = true := (mkI_law (emod_lt_pow g hb hn)).1
theorem dm_rest (a b : NI) (h : okI a = true) (g : okI b = true) (hb : 0 < valI b) (hc : ¬ (smI a && (smI b && !(a.1 == -9223372036854775808))) = true) (w : World) (F : Sv.Env) :
    GoalL Tryz.prog w F 84 (List.drop 3 (fl BDm [])) (SDm a b).T (SDm a b).H (retQ Tryz.prog false Tryz.f184 (.tuple [nv (iDivQ a b), nv (iDivR a b)])) := by
  have hS := nd_ok
  obtain ⟨q0, r0, r1, eb, hv⟩ := dm_vals h g hb
  obtain ⟨a1, a2, a3, a4, a5⟩ := parts_law h
  obtain ⟨b1, b2, b3, b4, b5⟩ := parts_law g
  have hD : okDv (prW a) (prW b) = true := by
    unfold okDv
    have hne : 1 ≤ (prW b).length := by
      cases hl : prW b with
      | nil => rw [hl] at eb; have : vw [] = 0 := rfl; omega
      | cons _ _ => simp
    rw [show okC2 (prW a) (prW b) = true from prW_C2 h g, decide_eq_true hne, decide_eq_true (show (prW a).length ≤ 300000 by omega), decide_eq_true (show (prW b).length ≤ 300000 by omega)]; rfl
  have hQB := dgN_B q0
  have hRB := dgN_B r0
  have ha := val_lt h (by decide)
  have hbl := val_lt g (by decide)
  have hqle : vw (prW a) / vw (prW b) ≤ vw (prW a) := Int.ediv_le_self _ (by omega)
  have okQ : okI (dmQ a b) = true := by
    refine (mkI_law ?_).1
    rw [madeZ_abs (negI a) (w := dvQ (prW a) (prW b)) (dgN_spec (b := 18446744073709551616) (by decide) q0).1, show vw (dvQ (prW a) (prW b)) = _ from vw_dgN q0]
    omega
  have okR : okI (dmR a b) = true := by
    refine (mkI_law ?_).1
    rw [madeZ_abs (negI a) (w := dvR (prW a) (prW b)) (dgN_spec (b := 18446744073709551616) (by decide) r0).1, show vw (dvR (prW a) (prW b)) = _ from vw_dgN r0]
    omega
  by_cases hlt : valI (dmR a b) < 0
  · have e1 : iDivQ a b = iSub (dmQ a b) (1, []) := by unfold iDivQ; rw [if_neg hc, if_pos hlt]
    have hval : valI (iAdd (dmR a b) b) = valI a % valI b := by rw [val_iAdd]; omega
    have e2 : iAdd (dmR a b) b = iDivR a b := by
      have ho : okI (iAdd (dmR a b) b) = true := ok_iAdd (by rw [← val_iAdd, hval]; exact emod_lt_pow g hb (by decide))
      have := ok_mk ho (by rw [hval]; have := Int.emod_nonneg (valI a) (show valI b ≠ 0 by omega); omega)
      rw [hval] at this
      exact this
    rw [e1, ← e2]
    have one : okI ((1 : Int), ([] : List Int)) = true := rfl
    exact GoalL.allRet (s := SDm a b) known mixed hS _ (dm_lt a b h g hD hQB hRB okR (by unfold iSign; exact Int.lt_of_le_of_lt (Int.le_of_eq (sgn_neg hlt)) (by decide)) (by rw [Bool.and_eq_true]; exact ⟨okQ, one⟩) (by rw [Bool.and_eq_true]; exact ⟨okR, g⟩) rfl rfl rfl rfl) fun T H h => h
  · have e1 : iDivQ a b = dmQ a b := by unfold iDivQ; rw [if_neg hc, if_neg hlt]
    have e2 : dmR a b = iDivR a b := by
      unfold iDivR
      have : valI (dmR a b) = valI a % valI b := by omega
      rw [← this]
      unfold dmR
      rw [val_mk]
    rw [e1, ← e2]
    exact GoalL.allRet (s := SDm a b) known mixed hS _ (dm_ge a b h g hD hQB hRB okR (by
      show ¬ sgn (valI (dmR a b)) < 0
      unfold sgn
      rw [if_neg hlt]; split <;> decide) rfl rfl rfl rfl) fun T H h => h
theorem dm_holds (a b : NI) (h : okI a = true) (g : okI b = true) (hb : 0 < valI b) : Holds Tryz.prog false 184 [nv a, nv b] (.tuple [nv (iDivQ a b), nv (iDivR a b)]) := by
  have hS := nd_ok
  refine holds_fl (c := BDm) Tryz.func184 rfl rfl fun w F => ?_
  by_cases ha : a.2 = []
  · have hra := ok_sm h ha
    by_cases hbs : b.2 = []
    · have hrb := ok_sm g hbs
      by_cases hm : a.1 = -9223372036854775808
      · refine GoalL.to known mixed hS 3 _ (dm_r3 a b (smI_iff.2 ha) (smI_iff.2 hbs) hm) (by kernel_rfl) (dm_rest a b h g hb (fun hh => ?_) w F)
        simp only [Bool.and_eq_true, Bool.not_eq_true', beq_eq_false_iff_ne] at hh
        exact hh.2.2 hm
      · have eva := valI_sm ha
        have evb := valI_sm hbs
        rw [evb] at hb
        have hc : (smI a && (smI b && !(a.1 == -9223372036854775808))) = true := by
          rw [smI_iff.2 ha, smI_iff.2 hbs, beq_eq_false_iff_ne.2 hm]; rfl
        have hdm := Int.tmod_add_mul_tdiv a.1 b.1
        have hR0 := Int.emod_nonneg a.1 (show b.1 ≠ 0 by omega)
        have hR1 := Int.emod_lt_of_pos a.1 hb
        have hdm2 := Int.emod_add_mul_ediv a.1 b.1
        have hQb := ediv_abs a.1 hb
        have hdmQ : iDivQ a b = (a.1 / b.1, []) := by
          unfold iDivQ
          rw [if_pos hc, eva, evb]
          exact mkI_small (by omega)
        have hdmR : iDivR a b = (a.1 % b.1, []) := by
          unfold iDivR
          rw [eva, evb]
          exact mkI_small (by omega)
        rw [hdmQ, hdmR]
        by_cases hneg : 0 ≤ a.1
        · have e1 : a.1.tdiv b.1 = a.1 / b.1 := Int.tdiv_eq_ediv_of_nonneg hneg
          have e2 : a.1.tmod b.1 = a.1 % b.1 := Int.tmod_eq_emod_of_nonneg hneg
          have := GoalL.ret (P := Tryz.prog) (w0 := w) (F := F) (X := X0) known mixed hS 3 _ (dm_pos a b (smI_iff.2 ha) (smI_iff.2 hbs) hm (by omega) (by rw [e1]; omega) (by rw [e2]; omega)) fun T H h => h
          rw [e1, e2] at this
          exact this
        · have e1 : a.1.tdiv b.1 = -((-a.1) / b.1) := by
            have := Int.neg_tdiv (a := -a.1) (b := b.1)
            rw [Int.neg_neg] at this
            rw [this, Int.tdiv_eq_ediv_of_nonneg (by omega)]
          have n1 := Int.emod_add_mul_ediv (-a.1) b.1
          have n2 := Int.emod_nonneg (-a.1) (show b.1 ≠ 0 by omega)
          have n3 := Int.emod_lt_of_pos (-a.1) hb
          have n4 : 0 ≤ (-a.1) / b.1 := Int.ediv_nonneg (by omega) (by omega)
          have n5 : (-a.1) / b.1 ≤ -a.1 := Int.ediv_le_self _ (by omega)
          have e2 : a.1.tmod b.1 = -((-a.1) % b.1) := by
            rw [e1, Int.mul_neg] at hdm
            omega
          have e4 : a.1.tdiv b.1 * b.1 = -(b.1 * (-a.1 / b.1)) := by rw [e1, Int.neg_mul, Int.mul_comm]
          by_cases hr : (-a.1) % b.1 = 0
          · obtain ⟨k1, k2⟩ := quot_of (U := a.1) (V := b.1) (t := a.1.tdiv b.1) hb (by rw [e4]; omega) (by rw [e4]; omega)
            have := GoalL.ret (P := Tryz.prog) (w0 := w) (F := F) (X := X0) known mixed hS 3 _ (dm_pos a b (smI_iff.2 ha) (smI_iff.2 hbs) hm (by omega) (by omega) (by omega)) fun T H h => h
            rw [← k1, show a.1.tmod b.1 = a.1 % b.1 by omega] at this
            exact this
          · have e3 : (a.1.tdiv b.1 - 1) * b.1 = -(b.1 * (-a.1 / b.1)) - b.1 := by rw [Int.sub_mul, Int.one_mul, e4]
            obtain ⟨k1, k2⟩ := quot_of (U := a.1) (V := b.1) (t := a.1.tdiv b.1 - 1) hb (by rw [e3]; omega) (by rw [e3]; omega)
            have := GoalL.ret (P := Tryz.prog) (w0 := w) (F := F) (X := X0) known mixed hS 3 _ (dm_neg a b (smI_iff.2 ha) (smI_iff.2 hbs) hm (by omega) (by omega) (by omega) (by omega) (by omega)) fun T H h => h
            rw [← k1, show a.1.tmod b.1 + b.1 = a.1 % b.1 by rw [k2, e3]; omega] at this
            exact this
    · exact GoalL.to known mixed hS 3 _ (dm_r2 a b (smI_iff.2 ha) (smI_not.2 hbs)) (by kernel_rfl) (dm_rest a b h g hb (fun hh => by
        simp only [Bool.and_eq_true] at hh
        exact hbs (smI_iff.1 hh.2.1)) w F)
  · exact GoalL.to known mixed hS 3 _ (dm_r1 a b (smI_not.2 ha)) (by kernel_rfl) (dm_rest a b h g hb (fun hh => by
      simp only [Bool.and_eq_true] at hh
      exact ha (smI_iff.1 hh.1)) w F)
theorem okDm_iff {a b : NI} : okDm a b = true ↔ okI a = true ∧ okI b = true ∧ 0 < valI b := by
  unfold okDm
  simp only [Bool.and_eq_true, decide_eq_true_eq, and_assoc]
theorem cDm_ok : cDm.Ok Tryz.prog := fun ⟨a, b, _⟩ h => by
  obtain ⟨h1, h2, h3⟩ := okDm_iff.1 (show okDm a b = true from h)
  exact dm_holds a b h1 h2 h3
end
end Go.Proofs.YtjcbbabaabcdgaaGreatDoor
/- Package num: integers: greatest common divisor, exact quotient, fractions in lowest terms. -/
namespace Go.Proofs.YtjcbbabaabcdgaaGreatDoor
open Go.RowKit Sv
set_option maxRecDepth 100000
set_option linter.unusedVariables false
noncomputable section
noncomputable def BGcd : Code := (Tryz.f119.body).getD .skip
noncomputable def BQuo : Code := (Tryz.f145.body).getD .skip
noncomputable def BMake : Code := (Tryz.f81.body).getD .skip
noncomputable def ngCs : VCaller := ctrs [cIAbs, cISign, cDm, cINeg]
abbrev gL : List Nat := [1, 1, 0, 0, 0]
def SGc (a b : NI) : St := { n := 23, sl := [(2, .ptr 64 0), (3, .ptr 65 0), (4, .ptr 66 0)], en := [(64, bI a), (65, bI b), (66, b0)], next := 67 }
theorem gc_start (a b : NI) (h1 : (okI (a.1, a.2)) = true) (h2 : (okI (b.1, b.2)) = true) :
    Tst.path (vrun0 Tryz.prog ngCs (fl BGcd []) 2 23 [nv a, nv b]) [] (toSt Tryz.prog 23 .normal s3 (SGc (iAbs a) (iAbs b))) :=
  mp (an (sr (AV.agg [iv a.1, AV.lst true (.int .u64) a.2])) (an h1 (an (sr (AV.agg [iv b.1, AV.lst true (.int .u64) b.2])) (an (sr (AV.agg [iv b.1, AV.lst true (.int .u64) b.2])) (an h2 (an (rr ((0 : Nat))) (an (rr ((0 : Nat))) (an (rr ((0 : Nat))) (an (an (rr (iAbs (a.1, a.2)).1) (an (rr (iAbs (a.1, a.2)).2) trivial)) (an (an (rr (iAbs (b.1, b.2)).1) (an (rr (iAbs (b.1, b.2)).2) trivial)) (an (an (rr ((0 : Int))) (an (rr (Value.slice none (0 : Nat) (0 : Nat))) trivial)) trivial)))))))))))
theorem gc_go (a b : NI) (h1 : (okI (b.1, b.2)) = true) (h2 : ¬iSign (b.1, b.2) = 0) (h3 : (okDm (a.1, a.2) (b.1, b.2)) = true) :
    Tst.path (vall Tryz.prog ngCs (fl BGcd gL) (SGc a b)) [true] (toSt Tryz.prog 23 .normal s3 (SGc b (iDivR a b))) :=
  mp (an h1 (an (bne_iff_ne.mpr h2) (an h3 (an (sr (AV.agg [iv b.1, AV.lst true (.int .u64) b.2])) (an (sr (AV.agg [iv (iDivR (a.1, a.2) (b.1, b.2)).1, AV.lst true (.int .u64) (iDivR (a.1, a.2) (b.1, b.2)).2])) (an (sr (AV.agg [iv (iDivR (a.1, a.2) (b.1, b.2)).1, AV.lst true (.int .u64) (iDivR (a.1, a.2) (b.1, b.2)).2])) (an (rr ((0 : Nat))) (an (rr ((0 : Nat))) (an (rr ((0 : Nat))) (an (an (rr b.1) (an (rr b.2) trivial)) (an (an (rr (iDivR (a.1, a.2) (b.1, b.2)).1) (an (rr (iDivR (a.1, a.2) (b.1, b.2)).2) trivial)) (an (an (rr ((0 : Int))) (an (rr (Value.slice none (0 : Nat) (0 : Nat))) trivial)) trivial))))))))))))
theorem gc_end (a b : NI) (h1 : (okI (b.1, b.2)) = true) (h2 : iSign (b.1, b.2) = 0) :
    Tst.path (vall Tryz.prog ngCs (fl BGcd gL) (SGc a b)) [false] (toSt Tryz.prog 23 (.exit 0) s3 (SGc a b)) :=
  mp (an h1 (an (bne_eq_false_iff_eq.mpr h2) (an (rr ((0 : Nat))) (an (rr ((0 : Nat))) (an (rr ((0 : Nat))) (an (an (rr a.1) (an (rr a.2) trivial)) (an (an (rr b.1) (an (rr b.2) trivial)) (an (an (rr ((0 : Int))) (an (rr (Value.slice none (0 : Nat) (0 : Nat))) trivial)) trivial))))))))
theorem gc_ret (a b : NI)  :
    Tst.path (vall Tryz.prog ngCs (List.drop 3 (fl BGcd [])) (SGc a b)) [] (toRet Tryz.prog Tryz.f119 false (nv a)) :=
  mp (an (rr a.1) (an (rr a.2) trivial))
theorem qu_neg (a b : NI) (h1 : (okI (b.1, b.2)) = true) (h2 : iSign (b.1, b.2) < 0) (h3 : (okI (a.1, a.2)) = true) (h4 : (okDm ((iNeg (a.1, a.2)).1, (iNeg (a.1, a.2)).2) ((iNeg (b.1, b.2)).1, (iNeg (b.1, b.2)).2)) = true) :
    Tst.path (vrun0 Tryz.prog ngCs (fl BQuo []) 9 21 [nv a, nv b]) [true] (toRet Tryz.prog Tryz.f145 false (nv (iDivQ (iNeg a) (iNeg b)))) :=
  mp (an h1 (an (decide_eq_true h2) (an (sr (AV.agg [iv a.1, AV.lst true (.int .u64) a.2])) (an h3 (an (sr (AV.agg [iv b.1, AV.lst true (.int .u64) b.2])) (an (sr (AV.agg [iv b.1, AV.lst true (.int .u64) b.2])) (an h1 (an h4 (an (rr (iDivQ ((iNeg (a.1, a.2)).1, (iNeg (a.1, a.2)).2) ((iNeg (b.1, b.2)).1, (iNeg (b.1, b.2)).2)).1) (an (rr (iDivQ ((iNeg (a.1, a.2)).1, (iNeg (a.1, a.2)).2) ((iNeg (b.1, b.2)).1, (iNeg (b.1, b.2)).2)).2) trivial))))))))))
theorem qu_pos (a b : NI) (h1 : (okI (b.1, b.2)) = true) (h2 : ¬iSign (b.1, b.2) < 0) (h3 : (okDm (a.1, a.2) (b.1, b.2)) = true) :
    Tst.path (vrun0 Tryz.prog ngCs (fl BQuo []) 9 21 [nv a, nv b]) [false] (toRet Tryz.prog Tryz.f145 false (nv (iDivQ a b))) :=
  mp (an h1 (an (decide_eq_false h2) (an h3 (an (rr (iDivQ (a.1, a.2) (b.1, b.2)).1) (an (rr (iDivQ (a.1, a.2) (b.1, b.2)).2) trivial)))))
def iGcd (a b : NI) : Int × List Int := mkI (Int.gcd (valI a) (valI b))
noncomputable def iQuo (a b : NI) : Int × List Int := if valI b < 0 then iDivQ (iNeg a) (iNeg b) else iDivQ a b
def okQuo (a b : NI) : Bool := (okI a && okI b) && !(valI b == 0)
noncomputable def cGcd : Ctr := { f := 119, ps := [tI, tI], rs := [tI], fresh := false, pre := fun d => okI d.1 && okI d.2.1, fn := fun d => (iGcd d.1 d.2.1, ()) }
noncomputable def cQuo : Ctr := { f := 145, ps := [tI, tI], rs := [tI], fresh := false, pre := fun d => okQuo d.1 d.2.1, fn := fun d => (iQuo d.1 d.2.1, ()) }
theorem ng_ok : CallOk Tryz.prog (gS ngCs) := ctrs_ok fun c hc => by
  simp only [List.mem_cons, List.not_mem_nil, or_false] at hc
  rcases hc with rfl | rfl | rfl | rfl
  · exact cIAbs_ok
  · exact cISign_ok
  · exact cDm_ok
  · exact cINeg_ok
theorem iSign_zero {a : NI} : iSign a = 0 ↔ valI a = 0 := by
  unfold iSign sgn
  split
  · constructor
    · intro h; exact absurd h (by decide)
    · intro h; omega
  · split
    · simp [*]
    · constructor
      · intro h; exact absurd h (by decide)
      · intro h; omega
theorem iSign_neg {a : NI} : iSign a < 0 ↔ valI a < 0 := by
  unfold iSign sgn
  split
  · simp [*]
  · split
    · simp [*]
    · constructor
      · intro h; exact absurd h (by decide)
      · intro h; omega
theorem ok_abs {a : NI} (h : okI a = true) : okI (iAbs a) = true := by
  have := val_lt h (by decide)
  exact (mkI_law (by rw [Int.natAbs_natCast]; exact this)).1
theorem gcd_step {x y : Int} (hx : 0 ≤ x) (hy : 0 < y) : Int.gcd y (x % y) = Int.gcd x y := by
  obtain ⟨m, rfl⟩ : ∃ m : Nat, x = (m : Int) := ⟨x.toNat, by omega⟩
  obtain ⟨n, rfl⟩ : ∃ n : Nat, y = (n : Int) := ⟨y.toNat, by omega⟩
  rw [← Int.natCast_emod]
  show Nat.gcd n (m % n) = Nat.gcd m n
  rw [Nat.gcd_comm n, ← Nat.gcd_rec, Nat.gcd_comm]
theorem gcd_holds (a b : NI) (h : okI a = true) (g : okI b = true) : Holds Tryz.prog false 119 [nv a, nv b] (nv (iGcd a b)) := by
  have hS := ng_ok
  refine holds_fl (c := BGcd) Tryz.func119 rfl rfl fun w F => ?_
  refine GoalL.to known mixed hS 2 _ (gc_start a b h g) (by kernel_rfl) ?_
  refine GoalL.loop (ι := { x : NI × NI // okI x.1 = true ∧ okI x.2 = true ∧ 0 ≤ valI x.1 ∧ 0 ≤ valI x.2 ∧ Int.gcd (valI x.1) (valI x.2) = Int.gcd (valI a) (valI b) }) (id := 0) (b := cat BGcd gL) (rest := List.drop 3 (fl BGcd [])) (by kernel_rfl) (fun x => SGc x.1.1 x.1.2) (fun x => (valI x.1.2).natAbs)
    ⟨(iAbs a, iAbs b), ok_abs h, ok_abs g, by rw [val_abs]; omega, by rw [val_abs]; omega, by rw [val_abs, val_abs]; rfl⟩ (fun _ => rfl) ?_
  rintro ⟨⟨x, y⟩, hx, hy, hx0, hy0, hg⟩
  have hx : okI x = true := hx
  have hy : okI y = true := hy
  have hx0 : 0 ≤ valI x := hx0
  have hy0 : 0 ≤ valI y := hy0
  have hg : Int.gcd (valI x) (valI y) = Int.gcd (valI a) (valI b) := hg
  by_cases hz : valI y = 0
  · refine GoalL.all (s := SGc x y) known mixed hS _ (gc_end x y hy (iSign_zero.2 hz)) (by kernel_rfl) ?_
    refine onN_exit (inB_exit ?_)
    have e : x = iGcd a b := by
      have h1 := ok_mk hx (by omega)
      unfold iGcd
      rw [← hg, hz]
      have : ((Int.gcd (valI x) 0 : Nat) : Int) = valI x := by
        show ((Nat.gcd (valI x).natAbs 0 : Nat) : Int) = _
        rw [Nat.gcd_zero_right]; omega
      rw [this]; exact h1
    rw [← e]
    exact GoalL.allRet (s := SGc x y) known mixed hS _ (gc_ret x y) fun T H h => h
  · have hyp : 0 < valI y := by omega
    have hm0 := Int.emod_nonneg (valI x) hz
    have hm1 := Int.emod_lt_of_pos (valI x) hyp
    refine GoalL.all (s := SGc x y) known mixed hS _ (gc_go x y hy (fun hh => hz (iSign_zero.1 hh)) (okDm_iff.2 ⟨hx, hy, hyp⟩)) (by kernel_rfl) ?_
    refine ⟨⟨(y, iDivR x y), hy, ok_iDivR hy hyp (by decide), hy0, by show 0 ≤ valI (iDivR x y); rw [val_iDivR]; exact hm0, ?_⟩, ?_, rfl, rfl⟩
    · show Int.gcd (valI y) (valI (iDivR x y)) = _
      rw [val_iDivR, gcd_step hx0 hyp, hg]
    · show (valI (iDivR x y)).natAbs < (valI y).natAbs
      rw [val_iDivR]; omega
theorem cGcd_ok : cGcd.Ok Tryz.prog := fun ⟨a, b, _⟩ h => by
  have h : (okI a && okI b) = true := h
  rw [Bool.and_eq_true] at h
  exact gcd_holds a b h.1 h.2
theorem quo_holds (a b : NI) (h : okI a = true) (g : okI b = true) (hb : valI b ≠ 0) : Holds Tryz.prog false 145 [nv a, nv b] (nv (iQuo a b)) := by
  have hS := ng_ok
  refine holds_fl (c := BQuo) Tryz.func145 rfl rfl fun w F => ?_
  by_cases hn : valI b < 0
  · have e : iQuo a b = iDivQ (iNeg a) (iNeg b) := by unfold iQuo; rw [if_pos hn]
    rw [e]
    exact GoalL.ret known mixed hS 9 _ (qu_neg a b g (iSign_neg.2 hn) h (okDm_iff.2 ⟨ok_neg h (by decide), ok_neg g (by decide), by show 0 < valI (iNeg b); rw [val_neg]; omega⟩)) fun T H h => h
  · have e : iQuo a b = iDivQ a b := by unfold iQuo; rw [if_neg hn]
    rw [e]
    exact GoalL.ret known mixed hS 9 _ (qu_pos a b g (fun hh => hn (iSign_neg.1 hh)) (okDm_iff.2 ⟨h, g, by show 0 < valI b; omega⟩)) fun T H h => h
theorem okQuo_iff {a b : NI} : okQuo a b = true ↔ okI a = true ∧ okI b = true ∧ valI b ≠ 0 := by
  unfold okQuo
  simp only [Bool.and_eq_true, Bool.not_eq_true', beq_eq_false_iff_ne, and_assoc]
theorem cQuo_ok : cQuo.Ok Tryz.prog := fun ⟨a, b, _⟩ h => by
  obtain ⟨h1, h2, h3⟩ := okQuo_iff.1 (show okQuo a b = true from h)
  exact quo_holds a b h1 h2 h3
theorem val_iQuo {n : Nat} {a b : NI} (h : okN n a = true) (g : okN n b = true) (hn : 1 ≤ n) (hb : valI b ≠ 0) {c : Int} (hc : valI a = valI b * c) : valI (iQuo a b) = c := by
  unfold iQuo
  split
  · rw [val_iDivQ (ok_neg h hn) (ok_neg g hn) (by rw [val_neg]; omega), val_neg, val_neg, hc, ← Int.neg_mul]
    exact Int.mul_ediv_cancel_left _ (by omega)
  · rw [val_iDivQ h g (by omega), hc]
    exact Int.mul_ediv_cancel_left _ hb
theorem ok_iQuo {n : Nat} {a b : NI} (h : okN n a = true) (g : okN n b = true) (hn : 1 ≤ n) (hb : valI b ≠ 0) : okN n (iQuo a b) = true := by
  unfold iQuo
  split
  · exact ok_iDivQ (ok_neg h hn) (ok_neg g hn) (by rw [val_neg]; omega) hn
  · exact ok_iDivQ h g (by omega) hn
end
end Go.Proofs.YtjcbbabaabcdgaaGreatDoor
/- Package num: fractions in lowest terms: Make. -/
namespace Go.Proofs.YtjcbbabaabcdgaaGreatDoor
open Go.RowKit Sv
set_option maxRecDepth 100000
set_option linter.unusedVariables false
noncomputable section
abbrev tQ : Ty := .pair tI tI
abbrev NQ := (Int × List Int) × (Int × List Int)
abbrev qv (a : NQ) : AV := .agg [iv a.1.1, .lst true tU a.1.2, iv a.2.1, .lst true tU a.2.2]
abbrev bQ0 : Ent := .blk (.cells 77 [iv 0, .raw (.slice none 0 0), iv 0, .raw (.slice none 0 0)] true false false)
def SMk (a b : NI) : St := { n := 34, sl := [(2, .ptr 64 0), (3, .ptr 65 0), (4, .ptr 66 0)], en := [(64, bI a), (65, bI b), (66, bQ0)], next := 67 }
noncomputable def mkCs : VCaller := ctrs [cISign, cINeg, cGcd, cQuo]
theorem mk_neg (a b : NI) (h1 : (okI (b.1, b.2)) = true) (h2 : iSign (b.1, b.2) < 0) (h3 : (okI (a.1, a.2)) = true) :
    Tst.path (vrun0 Tryz.prog mkCs (fl BMake []) 3 34 [nv a, nv b]) [true] (toSt Tryz.prog 34 .normal s3 (SMk (iNeg a) (iNeg b))) :=
  mp (an h1 (an (decide_eq_true h2) (an (sr (AV.agg [iv a.1, AV.lst true (.int .u64) a.2])) (an h3 (an (sr (AV.agg [iv b.1, AV.lst true (.int .u64) b.2])) (an (sr (AV.agg [iv b.1, AV.lst true (.int .u64) b.2])) (an h1 (an (rr ((0 : Nat))) (an (rr ((0 : Nat))) (an (rr ((0 : Nat))) (an (an (rr (iNeg (a.1, a.2)).1) (an (rr (iNeg (a.1, a.2)).2) trivial)) (an (an (rr (iNeg (b.1, b.2)).1) (an (rr (iNeg (b.1, b.2)).2) trivial)) (an (an (rr ((0 : Int))) (an (rr (Value.slice none (0 : Nat) (0 : Nat))) (an (rr ((0 : Int))) (an (rr (Value.slice none (0 : Nat) (0 : Nat))) trivial)))) trivial)))))))))))))
theorem mk_pos (a b : NI) (h1 : (okI (b.1, b.2)) = true) (h2 : ¬iSign (b.1, b.2) < 0) :
    Tst.path (vrun0 Tryz.prog mkCs (fl BMake []) 3 34 [nv a, nv b]) [false] (toSt Tryz.prog 34 .normal s3 (SMk a b)) :=
  mp (an h1 (an (decide_eq_false h2) (an (rr ((0 : Nat))) (an (rr ((0 : Nat))) (an (rr ((0 : Nat))) (an (an (rr a.1) (an (rr a.2) trivial)) (an (an (rr b.1) (an (rr b.2) trivial)) (an (an (rr ((0 : Int))) (an (rr (Value.slice none (0 : Nat) (0 : Nat))) (an (rr ((0 : Int))) (an (rr (Value.slice none (0 : Nat) (0 : Nat))) trivial)))) trivial))))))))
theorem mr_one (a b : NI) (h1 : b.2.isEmpty = true) (h2 : b.1 = 1) :
    Tst.path (vall Tryz.prog mkCs (List.drop 3 (fl BMake [])) (SMk a b)) [true, true, true, true, true] (toRet Tryz.prog Tryz.f81 false (qv (a, b))) :=
  mp (an (bT (bT h1)) (an (bT (bT h1)) (an (bT (bT h1)) (an (bT h1) (an (beq_iff_eq.mpr h2) (an (rr a.1) (an (rr a.2) (an (rr b.1) (an (rr b.2) trivial)))))))))
theorem mr_b (a b : NI) (h1 : b.2.isEmpty = true) (h2 : ¬b.1 = 1) (h3 : (okI (a.1, a.2) && okI (b.1, b.2)) = true) (h4 : (okQuo (a.1, a.2) ((iGcd (a.1, a.2) (b.1, b.2)).1, (iGcd (a.1, a.2) (b.1, b.2)).2)) = true) (h5 : (okQuo (b.1, b.2) ((iGcd (a.1, a.2) (b.1, b.2)).1, (iGcd (a.1, a.2) (b.1, b.2)).2)) = true) :
    Tst.path (vall Tryz.prog mkCs (List.drop 3 (fl BMake [])) (SMk a b)) [true, true, true, true, false] (toRet Tryz.prog Tryz.f81 false (qv (iQuo a (iGcd a b), iQuo b (iGcd a b)))) :=
  mp (an (bT (bT h1)) (an (bT (bT h1)) (an (bT (bT h1)) (an (bT h1) (an (beq_eq_false_iff_ne.mpr h2) (an h3 (an (sr (AV.agg [iv a.1, AV.lst true (.int .u64) a.2])) (an (sr (AV.agg [iv (iGcd (a.1, a.2) (b.1, b.2)).1, AV.lst true (.int .u64) (iGcd (a.1, a.2) (b.1, b.2)).2])) (an h4 (an (sr (AV.agg [iv b.1, AV.lst true (.int .u64) b.2])) (an (sr (AV.agg [iv b.1, AV.lst true (.int .u64) b.2])) (an (sr (AV.agg [iv (iGcd (a.1, a.2) (b.1, b.2)).1, AV.lst true (.int .u64) (iGcd (a.1, a.2) (b.1, b.2)).2])) (an (sr (AV.agg [iv (iGcd (a.1, a.2) (b.1, b.2)).1, AV.lst true (.int .u64) (iGcd (a.1, a.2) (b.1, b.2)).2])) (an h5 (an (rr (iQuo (a.1, a.2) ((iGcd (a.1, a.2) (b.1, b.2)).1, (iGcd (a.1, a.2) (b.1, b.2)).2)).1) (an (rr (iQuo (a.1, a.2) ((iGcd (a.1, a.2) (b.1, b.2)).1, (iGcd (a.1, a.2) (b.1, b.2)).2)).2) (an (rr (iQuo (b.1, b.2) ((iGcd (a.1, a.2) (b.1, b.2)).1, (iGcd (a.1, a.2) (b.1, b.2)).2)).1) (an (rr (iQuo (b.1, b.2) ((iGcd (a.1, a.2) (b.1, b.2)).1, (iGcd (a.1, a.2) (b.1, b.2)).2)).2) trivial))))))))))))))))))
theorem mr_c (a b : NI) (h1 : b.2.isEmpty = false) (h2 : (okI (a.1, a.2) && okI (b.1, b.2)) = true) (h3 : (okQuo (a.1, a.2) ((iGcd (a.1, a.2) (b.1, b.2)).1, (iGcd (a.1, a.2) (b.1, b.2)).2)) = true) (h4 : (okQuo (b.1, b.2) ((iGcd (a.1, a.2) (b.1, b.2)).1, (iGcd (a.1, a.2) (b.1, b.2)).2)) = true) :
    Tst.path (vall Tryz.prog mkCs (List.drop 3 (fl BMake [])) (SMk a b)) [false, false, false, false, false] (toRet Tryz.prog Tryz.f81 false (qv (iQuo a (iGcd a b), iQuo b (iGcd a b)))) :=
  mp (an (bT (bT h1)) (an (bT (bT h1)) (an (bT (bT h1)) (an (bT h1) (an rf (an h2 (an (sr (AV.agg [iv a.1, AV.lst true (.int .u64) a.2])) (an (sr (AV.agg [iv (iGcd (a.1, a.2) (b.1, b.2)).1, AV.lst true (.int .u64) (iGcd (a.1, a.2) (b.1, b.2)).2])) (an h3 (an (sr (AV.agg [iv b.1, AV.lst true (.int .u64) b.2])) (an (sr (AV.agg [iv b.1, AV.lst true (.int .u64) b.2])) (an (sr (AV.agg [iv (iGcd (a.1, a.2) (b.1, b.2)).1, AV.lst true (.int .u64) (iGcd (a.1, a.2) (b.1, b.2)).2])) (an (sr (AV.agg [iv (iGcd (a.1, a.2) (b.1, b.2)).1, AV.lst true (.int .u64) (iGcd (a.1, a.2) (b.1, b.2)).2])) (an h4 (an (rr (iQuo (a.1, a.2) ((iGcd (a.1, a.2) (b.1, b.2)).1, (iGcd (a.1, a.2) (b.1, b.2)).2)).1) (an (rr (iQuo (a.1, a.2) ((iGcd (a.1, a.2) (b.1, b.2)).1, (iGcd (a.1, a.2) (b.1, b.2)).2)).2) (an (rr (iQuo (b.1, b.2) ((iGcd (a.1, a.2) (b.1, b.2)).1, (iGcd (a.1, a.2) (b.1, b.2)).2)).1) (an (rr (iQuo (b.1, b.2) ((iGcd (a.1, a.2) (b.1, b.2)).1, (iGcd (a.1, a.2) (b.1, b.2)).2)).2) trivial))))))))))))))))))
noncomputable def qRed (a b : NI) : (Int × List Int) × (Int × List Int) := if smI b && (b.1 == 1) then (a, b) else (iQuo a (iGcd a b), iQuo b (iGcd a b))
noncomputable def qMake (a b : NI) : (Int × List Int) × (Int × List Int) := if iSign b < 0 then qRed (iNeg a) (iNeg b) else qRed a b
noncomputable def cMake : Ctr := { f := 81, ps := [tI, tI], rs := [tQ], fresh := false, pre := fun d => okQuo d.1 d.2.1, fn := fun d => (qMake d.1 d.2.1, ()) }
theorem mk_ok : CallOk Tryz.prog (gS mkCs) := ctrs_ok fun c hc => by
  simp only [List.mem_cons, List.not_mem_nil, or_false] at hc
  rcases hc with rfl | rfl | rfl | rfl
  · exact cISign_ok
  · exact cINeg_ok
  · exact cGcd_ok
  · exact cQuo_ok
theorem val_gcd (a b : NI) : valI (iGcd a b) = (Int.gcd (valI a) (valI b) : Int) := val_mk _
theorem ok_gcd {n : Nat} {a b : NI} (g : okN n b = true) (hn : 1 ≤ n) (hb : valI b ≠ 0) : okN n (iGcd a b) = true := by
  have h1 := val_lt g hn
  have h2 : ((Int.gcd (valI a) (valI b) : Nat) : Int) ≤ ((valI b).natAbs : Int) := by
    have : Int.gcd (valI a) (valI b) ≤ (valI b).natAbs := Nat.gcd_le_right _ (by omega)
    omega
  exact (mkI_law (by rw [Int.natAbs_natCast]; omega)).1
theorem okQuo_gcd {a b : NI} (h : okI a = true) (g : okI b = true) (hb : valI b ≠ 0) : okQuo a (iGcd a b) = true ∧ okQuo b (iGcd a b) = true := by
  have h0 : 0 < Int.gcd (valI a) (valI b) := Int.gcd_pos_of_ne_zero_right _ hb
  have h1 : valI (iGcd a b) ≠ 0 := by rw [val_gcd]; omega
  have h2 : okI (iGcd a b) = true := ok_gcd g (by decide) hb
  exact ⟨okQuo_iff.2 ⟨h, h2, h1⟩, okQuo_iff.2 ⟨g, h2, h1⟩⟩
theorem isEmpty_iff' {a : NI} : smI a = true ↔ a.2 = [] := by
  unfold smI; exact List.isEmpty_iff
theorem red_holds (a b : NI) (h : okI a = true) (g : okI b = true) (hb : valI b ≠ 0) (w : World) (F : Sv.Env) :
    GoalL Tryz.prog w F 34 (List.drop 3 (fl BMake [])) (SMk a b).T (SMk a b).H (retQ Tryz.prog false Tryz.f81 (qv (qRed a b))) := by
  have hS := mk_ok
  obtain ⟨q1, q2⟩ := okQuo_gcd h g hb
  have hab : (okI a && okI b) = true := by rw [h, g]; rfl
  unfold qRed
  by_cases he : b.2.isEmpty = true
  · by_cases h1 : b.1 = 1
    · rw [if_pos (by rw [show smI b = true from he, h1]; rfl)]
      exact GoalL.allRet (s := SMk a b) known mixed hS _ (mr_one a b he h1) fun T H h => h
    · rw [if_neg (by rw [show smI b = true from he]; simpa using h1)]
      exact GoalL.allRet (s := SMk a b) known mixed hS _ (mr_b a b he h1 hab q1 q2) fun T H h => h
  · rw [if_neg (by rw [show smI b = b.2.isEmpty from rfl]; simp [he])]
    exact GoalL.allRet (s := SMk a b) known mixed hS _ (mr_c a b (by simpa using he) hab q1 q2) fun T H h => h
theorem make_holds (a b : NI) (h : okI a = true) (g : okI b = true) (hb : valI b ≠ 0) : Holds Tryz.prog false 81 [nv a, nv b] (qv (qMake a b)) := by
  have hS := mk_ok
  refine holds_fl (c := BMake) Tryz.func81 rfl rfl fun w F => ?_
  unfold qMake
  by_cases hs : iSign b < 0
  · rw [if_pos hs]
    refine GoalL.to known mixed hS 3 _ (mk_neg a b g hs h) (by kernel_rfl) ?_
    exact red_holds _ _ (ok_neg h (by decide)) (ok_neg g (by decide)) (by rw [val_neg]; omega) w F
  · rw [if_neg hs]
    refine GoalL.to known mixed hS 3 _ (mk_pos a b g hs) (by kernel_rfl) ?_
    exact red_holds _ _ h g hb w F
theorem cMake_ok : cMake.Ok Tryz.prog := fun ⟨a, b, _⟩ h => by
  obtain ⟨h1, h2, h3⟩ := okQuo_iff.1 (show okQuo a b = true from h)
  exact make_holds a b h1 h2 h3
structure QIs (n : Nat) (q : NQ) (x y : Int) : Prop where
  o1 : okN n q.1 = true
  o2 : okN n q.2 = true
  pos : 0 < valI q.2
  low : Int.gcd (valI q.1) (valI q.2) = 1
  val : valI q.1 * y = x * valI q.2
theorem qRed_law {n : Nat} {a b : NI} (h : okN n a = true) (g : okN n b = true) (hn : 1 ≤ n) (hb : 0 < valI b) : QIs n (qRed a b) (valI a) (valI b) := by
  unfold qRed
  split
  · rename_i hc
    rw [Bool.and_eq_true] at hc
    have hv : valI b = 1 := by unfold valI; rw [if_pos (isEmpty_iff'.1 hc.1)]; simpa using hc.2
    exact ⟨h, g, hb, by show Int.gcd (valI a) (valI b) = 1; rw [hv]; exact Int.gcd_one, rfl⟩
  · have hg : 0 < Int.gcd (valI a) (valI b) := Int.gcd_pos_of_ne_zero_right _ (by omega)
    have og := ok_gcd (a := a) g hn (by omega)
    have vg : valI (iGcd a b) ≠ 0 := by rw [val_gcd]; omega
    have e1 : valI a = valI (iGcd a b) * (valI a / (Int.gcd (valI a) (valI b) : Int)) := by rw [val_gcd]; exact (Int.mul_ediv_cancel' (Int.gcd_dvd_left _ _)).symm
    have e2 : valI b = valI (iGcd a b) * (valI b / (Int.gcd (valI a) (valI b) : Int)) := by rw [val_gcd]; exact (Int.mul_ediv_cancel' (Int.gcd_dvd_right _ _)).symm
    have v1 := val_iQuo h og hn vg e1
    have v2 := val_iQuo g og hn vg e2
    refine ⟨ok_iQuo h og hn vg, ok_iQuo g og hn vg, ?_, ?_, ?_⟩
    · show 0 < valI (iQuo b (iGcd a b))
      rw [v2]; exact Int.ediv_pos_of_pos_of_dvd hb (by omega) (Int.gcd_dvd_right _ _)
    · show Int.gcd (valI (iQuo a (iGcd a b))) (valI (iQuo b (iGcd a b))) = 1
      rw [v1, v2]; exact Int.gcd_ediv_gcd_ediv_gcd hg
    · show valI (iQuo a (iGcd a b)) * valI b = valI a * valI (iQuo b (iGcd a b))
      rw [v1, v2]
      generalize valI a / (Int.gcd (valI a) (valI b) : Int) = x at *
      generalize valI b / (Int.gcd (valI a) (valI b) : Int) = y at *
      grind
theorem qMake_law {n : Nat} {a b : NI} (h : okN n a = true) (g : okN n b = true) (hn : 1 ≤ n) (hb : valI b ≠ 0) : QIs n (qMake a b) (valI a) (valI b) := by
  unfold qMake
  split
  · rename_i hs
    have hs := iSign_neg.1 hs
    have := qRed_law (ok_neg h hn) (ok_neg g hn) hn (by rw [val_neg]; omega)
    refine ⟨this.o1, this.o2, this.pos, this.low, ?_⟩
    have hv := this.val
    rw [val_neg, val_neg] at hv
    rw [Int.mul_neg, Int.neg_mul] at hv
    omega
  · rename_i hs
    have h0 : ¬ valI b < 0 := fun hh => hs (iSign_neg.2 hh)
    exact qRed_law h g hn (by omega)
end
end Go.Proofs.YtjcbbabaabcdgaaGreatDoor
/- Package num: fractions: sum, product, opposite, inverse, comparison, floor. -/
namespace Go.Proofs.YtjcbbabaabcdgaaGreatDoor
open Go.RowKit Sv
set_option maxRecDepth 100000
set_option linter.unusedVariables false
noncomputable section
noncomputable def BOf : Code := (Tryz.f78.body).getD .skip
noncomputable def BWh : Code := (Tryz.f77.body).getD .skip
noncomputable def BF : Code := (Tryz.f60.body).getD .skip
noncomputable def BIsW : Code := (Tryz.f107.body).getD .skip
noncomputable def BQSign : Code := (Tryz.f64.body).getD .skip
noncomputable def BQNeg : Code := (Tryz.f161.body).getD .skip
noncomputable def BQAdd : Code := (Tryz.f61.body).getD .skip
noncomputable def BQMul : Code := (Tryz.f59.body).getD .skip
noncomputable def BQInv : Code := (Tryz.f122.body).getD .skip
noncomputable def BQCmp : Code := (Tryz.f96.body).getD .skip
noncomputable def BQFl : Code := (Tryz.f158.body).getD .skip
noncomputable def qaCs : VCaller := ctrs [cIMul, cIAdd, cMake, cINeg, cISign, cICmp, cDm]
def isW (a : NQ) : Bool := smI a.2 && (a.2.1 == 1)
theorem of_all (n : Int)  :
    Tst.path (vrun0 Tryz.prog qaCs (fl BOf []) 9 5 [iv n]) [] (toRet Tryz.prog Tryz.f78 false (nv (n, []))) :=
  mp (an (rr n) (an (rr nilI) trivial))
theorem iw_t (a : NQ) (h1 : a.2.2.isEmpty = true) :
    Tst.path (vrun0 Tryz.prog qaCs (fl BIsW []) 9 13 [qv a]) [true, true, true, true, true] (toRet Tryz.prog Tryz.f107 true (bv (a.2.1 == 1))) :=
  mp (an (bT (bT h1)) (an (bT (bT h1)) (an (bT (bT h1)) (an (bT (bT h1)) (an (bT h1) (rr (a.2.1 == 1)))))))
theorem iw_f (a : NQ) (h1 : a.2.2.isEmpty = false) :
    Tst.path (vrun0 Tryz.prog qaCs (fl BIsW []) 9 13 [qv a]) [false, false, false, false, false] (toRet Tryz.prog Tryz.f107 true (bv false)) :=
  mp (an (bT (bT h1)) (an (bT (bT h1)) (an (bT (bT h1)) (an (bT (bT h1)) (an (bT h1) rf)))))
theorem qs_all (a : NQ) (h1 : (okI (a.1.1, a.1.2)) = true) :
    Tst.path (vrun0 Tryz.prog qaCs (fl BQSign []) 9 6 [qv a]) [] (toRet Tryz.prog Tryz.f64 true (iv (iSign a.1))) :=
  mp (an h1 (rr (iSign (a.1.1, a.1.2))))
theorem qn_all (a : NQ) (h1 : (okI (a.1.1, a.1.2)) = true) :
    Tst.path (vrun0 Tryz.prog qaCs (fl BQNeg []) 9 9 [qv a]) [] (toRet Tryz.prog Tryz.f161 false (qv (iNeg a.1, a.2))) :=
  mp (an (sr (AV.agg [iv a.1.1, AV.lst true (.int .u64) a.1.2])) (an h1 (an (sr (AV.agg [iv a.2.1, AV.lst true (.int .u64) a.2.2])) (an (sr (AV.agg [iv a.2.1, AV.lst true (.int .u64) a.2.2])) (an (rr (iNeg (a.1.1, a.1.2)).1) (an (rr (iNeg (a.1.1, a.1.2)).2) (an (rr a.2.1) (an (rr a.2.2) trivial))))))))
theorem qm_all (a b : NQ) (h1 : (okI (a.1.1, a.1.2) && okI (b.1.1, b.1.2)) = true) (h2 : (okI (a.2.1, a.2.2) && okI (b.2.1, b.2.2)) = true) (h3 : (okQuo ((iMul (a.1.1, a.1.2) (b.1.1, b.1.2)).1, (iMul (a.1.1, a.1.2) (b.1.1, b.1.2)).2) ((iMul (a.2.1, a.2.2) (b.2.1, b.2.2)).1, (iMul (a.2.1, a.2.2) (b.2.1, b.2.2)).2)) = true) :
    Tst.path (vrun0 Tryz.prog qaCs (fl BQMul []) 9 16 [qv a, qv b]) [] (toRet Tryz.prog Tryz.f59 false (qv (qMake (iMul a.1 b.1) (iMul a.2 b.2)))) :=
  mp (an (sr (AV.agg [iv a.1.1, AV.lst true (.int .u64) a.1.2])) (an (sr (AV.agg [iv b.1.1, AV.lst true (.int .u64) b.1.2])) (an h1 (an (sr (AV.agg [iv a.2.1, AV.lst true (.int .u64) a.2.2])) (an (sr (AV.agg [iv a.2.1, AV.lst true (.int .u64) a.2.2])) (an (sr (AV.agg [iv b.2.1, AV.lst true (.int .u64) b.2.2])) (an (sr (AV.agg [iv b.2.1, AV.lst true (.int .u64) b.2.2])) (an h2 (an h3 (an (rr (qMake ((iMul (a.1.1, a.1.2) (b.1.1, b.1.2)).1, (iMul (a.1.1, a.1.2) (b.1.1, b.1.2)).2) ((iMul (a.2.1, a.2.2) (b.2.1, b.2.2)).1, (iMul (a.2.1, a.2.2) (b.2.1, b.2.2)).2)).1.1) (an (rr (qMake ((iMul (a.1.1, a.1.2) (b.1.1, b.1.2)).1, (iMul (a.1.1, a.1.2) (b.1.1, b.1.2)).2) ((iMul (a.2.1, a.2.2) (b.2.1, b.2.2)).1, (iMul (a.2.1, a.2.2) (b.2.1, b.2.2)).2)).1.2) (an (rr (qMake ((iMul (a.1.1, a.1.2) (b.1.1, b.1.2)).1, (iMul (a.1.1, a.1.2) (b.1.1, b.1.2)).2) ((iMul (a.2.1, a.2.2) (b.2.1, b.2.2)).1, (iMul (a.2.1, a.2.2) (b.2.1, b.2.2)).2)).2.1) (an (rr (qMake ((iMul (a.1.1, a.1.2) (b.1.1, b.1.2)).1, (iMul (a.1.1, a.1.2) (b.1.1, b.1.2)).2) ((iMul (a.2.1, a.2.2) (b.2.1, b.2.2)).1, (iMul (a.2.1, a.2.2) (b.2.1, b.2.2)).2)).2.2) trivial)))))))))))))
theorem qi_all (a : NQ) (h1 : (okQuo (a.2.1, a.2.2) (a.1.1, a.1.2)) = true) :
    Tst.path (vrun0 Tryz.prog qaCs (fl BQInv []) 9 8 [qv a]) [] (toRet Tryz.prog Tryz.f122 false (qv (qMake a.2 a.1))) :=
  mp (an h1 (an (rr (qMake (a.2.1, a.2.2) (a.1.1, a.1.2)).1.1) (an (rr (qMake (a.2.1, a.2.2) (a.1.1, a.1.2)).1.2) (an (rr (qMake (a.2.1, a.2.2) (a.1.1, a.1.2)).2.1) (an (rr (qMake (a.2.1, a.2.2) (a.1.1, a.1.2)).2.2) trivial)))))
theorem qc_all (a b : NQ) (h1 : (okI (a.1.1, a.1.2) && okI (b.2.1, b.2.2)) = true) (h2 : (okI (b.1.1, b.1.2) && okI (a.2.1, a.2.2)) = true) (h3 : (okN (50000 : Nat) ((iMul (a.1.1, a.1.2) (b.2.1, b.2.2)).1, (iMul (a.1.1, a.1.2) (b.2.1, b.2.2)).2) && okN (50000 : Nat) ((iMul (b.1.1, b.1.2) (a.2.1, a.2.2)).1, (iMul (b.1.1, b.1.2) (a.2.1, a.2.2)).2)) = true) :
    Tst.path (vrun0 Tryz.prog qaCs (fl BQCmp []) 9 16 [qv a, qv b]) [] (toRet Tryz.prog Tryz.f96 true (iv (iCmp (iMul a.1 b.2) (iMul b.1 a.2)))) :=
  mp (an (sr (AV.agg [iv a.1.1, AV.lst true (.int .u64) a.1.2])) (an (sr (AV.agg [iv b.2.1, AV.lst true (.int .u64) b.2.2])) (an h1 (an (sr (AV.agg [iv b.1.1, AV.lst true (.int .u64) b.1.2])) (an (sr (AV.agg [iv b.1.1, AV.lst true (.int .u64) b.1.2])) (an (sr (AV.agg [iv a.2.1, AV.lst true (.int .u64) a.2.2])) (an (sr (AV.agg [iv a.2.1, AV.lst true (.int .u64) a.2.2])) (an h2 (an h3 (rr (iCmp ((iMul (a.1.1, a.1.2) (b.2.1, b.2.2)).1, (iMul (a.1.1, a.1.2) (b.2.1, b.2.2)).2) ((iMul (b.1.1, b.1.2) (a.2.1, a.2.2)).1, (iMul (b.1.1, b.1.2) (a.2.1, a.2.2)).2))))))))))))
theorem qf_all (a : NQ) (h1 : (okDm (a.1.1, a.1.2) (a.2.1, a.2.2)) = true) :
    Tst.path (vrun0 Tryz.prog qaCs (fl BQFl []) 9 14 [qv a]) [] (toRet Tryz.prog Tryz.f158 false (nv (iDivQ a.1 a.2))) :=
  mp (an h1 (an (rr (iDivQ (a.1.1, a.1.2) (a.2.1, a.2.2)).1) (an (rr (iDivQ (a.1.1, a.1.2) (a.2.1, a.2.2)).2) trivial)))
def okQ (n : Nat) (q : NQ) : Bool := okN n q.1 && (okN n q.2 && decide (0 < valI q.2))
def iOf (n : Int) : Int × List Int := (n, [])
def qOf (n : NI) : (Int × List Int) × (Int × List Int) := (n, (1, []))
noncomputable def qNeg (a : NQ) : (Int × List Int) × (Int × List Int) := (iNeg a.1, a.2)
noncomputable def qMul (a b : NQ) : (Int × List Int) × (Int × List Int) := qMake (iMul a.1 b.1) (iMul a.2 b.2)
noncomputable def qInv (a : NQ) : (Int × List Int) × (Int × List Int) := qMake a.2 a.1
noncomputable def qCmp (a b : NQ) : Int := iCmp (iMul a.1 b.2) (iMul b.1 a.2)
noncomputable def qAdd (a b : NQ) : (Int × List Int) × (Int × List Int) := if isW a && isW b then (iAdd a.1 b.1, (1, [])) else qMake (iAdd (iMul a.1 b.2) (iMul b.1 a.2)) (iMul a.2 b.2)
noncomputable def cOf : Ctr := { f := 78, ps := [.int .i64], rs := [tI], fresh := false, pre := fun d => true, fn := fun d => (iOf d.1, ()) }
noncomputable def cWh : Ctr := { f := 77, ps := [tI], rs := [tQ], fresh := false, pre := fun d => true, fn := fun d => (qOf d.1, ()) }
noncomputable def cF : Ctr := { f := 60, ps := [.int .i64], rs := [tQ], fresh := false, pre := fun d => true, fn := fun d => (qOf (iOf d.1), ()) }
noncomputable def cIsW : Ctr := { f := 107, ps := [tQ], rs := [.bool], fresh := true, pre := fun d => true, fn := fun d => (isW d.1, ()) }
noncomputable def cQSign : Ctr := { f := 64, ps := [tQ], rs := [.int .i64], fresh := true, pre := fun d => okI d.1.1, fn := fun d => (iSign d.1.1, ()) }
noncomputable def cQNeg : Ctr := { f := 161, ps := [tQ], rs := [tQ], fresh := false, pre := fun d => okI d.1.1, fn := fun d => (qNeg d.1, ()) }
noncomputable def cQMul : Ctr := { f := 59, ps := [tQ, tQ], rs := [tQ], fresh := false, pre := fun d => okQ 20000 d.1 && okQ 20000 d.2.1, fn := fun d => (qMul d.1 d.2.1, ()) }
noncomputable def cQInv : Ctr := { f := 122, ps := [tQ], rs := [tQ], fresh := false, pre := fun d => okQuo d.1.2 d.1.1, fn := fun d => (qInv d.1, ()) }
noncomputable def cQCmp : Ctr := { f := 96, ps := [tQ, tQ], rs := [.int .i64], fresh := true, pre := fun d => okQ 20000 d.1 && okQ 20000 d.2.1, fn := fun d => (qCmp d.1 d.2.1, ()) }
noncomputable def cQFl : Ctr := { f := 158, ps := [tQ], rs := [tI], fresh := false, pre := fun d => okDm d.1.1 d.1.2, fn := fun d => (iDivQ d.1.1 d.1.2, ()) }
noncomputable def cQAdd : Ctr := { f := 61, ps := [tQ, tQ], rs := [tQ], fresh := false, pre := fun d => okQ 20000 d.1 && okQ 20000 d.2.1, fn := fun d => (qAdd d.1 d.2.1, ()) }
noncomputable def qbCs : VCaller := ctrs [cOf, cWh, cIsW, cIMul, cIAdd, cMake]
theorem f_all (n : Int) (h1 : (qOf ((iOf n).1, (iOf n).2)).1.1 = (n)) (h2 : (qOf ((iOf n).1, (iOf n).2)).1.2 = (nilI)) (h3 : (qOf ((iOf n).1, (iOf n).2)).2.1 = ((1 : Int))) (h4 : (qOf ((iOf n).1, (iOf n).2)).2.2 = (nilI)) :
    Tst.path (vrun0 Tryz.prog qbCs (fl BF []) 9 6 [iv n]) [] (toRet Tryz.prog Tryz.f60 false (qv ((n, []), (1, [])))) :=
  mp (an rt (an rt (an h1 (an h2 (an h3 (an h4 trivial))))))
theorem qa_one (a b : NQ) (h1 : (isW ((a.1.1, a.1.2), a.2.1, a.2.2)) = true) (h2 : (isW ((b.1.1, b.1.2), b.2.1, b.2.2)) = true) (h3 : (okI (a.1.1, a.1.2) && okI (b.1.1, b.1.2)) = true) (h4 : (qOf ((iAdd (a.1.1, a.1.2) (b.1.1, b.1.2)).1, (iAdd (a.1.1, a.1.2) (b.1.1, b.1.2)).2)).1.1 = (iAdd a.1 b.1).1) (h5 : (qOf ((iAdd (a.1.1, a.1.2) (b.1.1, b.1.2)).1, (iAdd (a.1.1, a.1.2) (b.1.1, b.1.2)).2)).1.2 = (iAdd a.1 b.1).2) (h6 : (qOf ((iAdd (a.1.1, a.1.2) (b.1.1, b.1.2)).1, (iAdd (a.1.1, a.1.2) (b.1.1, b.1.2)).2)).2.1 = ((1 : Int))) (h7 : (qOf ((iAdd (a.1.1, a.1.2) (b.1.1, b.1.2)).1, (iAdd (a.1.1, a.1.2) (b.1.1, b.1.2)).2)).2.2 = (nilI)) :
    Tst.path (vrun0 Tryz.prog qbCs (fl BQAdd []) 9 34 [qv a, qv b]) [true, true, true, true] (toRet Tryz.prog Tryz.f61 false (qv (iAdd a.1 b.1, (1, [])))) :=
  mp (an rt (an (bT h1) (an (bT h1) (an rt (an h1 (an h2 (an h3 (an rt (an h4 (an h5 (an h6 (an h7 trivial))))))))))))
theorem qa_b (a b : NQ) (h1 : (isW ((a.1.1, a.1.2), a.2.1, a.2.2)) = true) (h2 : (isW ((b.1.1, b.1.2), b.2.1, b.2.2)) = false) (h3 : (okI (a.1.1, a.1.2) && okI (b.2.1, b.2.2)) = true) (h4 : (okI (b.1.1, b.1.2) && okI (a.2.1, a.2.2)) = true) (h5 : (okI ((iMul (a.1.1, a.1.2) (b.2.1, b.2.2)).1, (iMul (a.1.1, a.1.2) (b.2.1, b.2.2)).2) && okI ((iMul (b.1.1, b.1.2) (a.2.1, a.2.2)).1, (iMul (b.1.1, b.1.2) (a.2.1, a.2.2)).2)) = true) (h6 : (okI (a.2.1, a.2.2) && okI (b.2.1, b.2.2)) = true) (h7 : (okQuo ((iAdd ((iMul (a.1.1, a.1.2) (b.2.1, b.2.2)).1, (iMul (a.1.1, a.1.2) (b.2.1, b.2.2)).2) ((iMul (b.1.1, b.1.2) (a.2.1, a.2.2)).1, (iMul (b.1.1, b.1.2) (a.2.1, a.2.2)).2)).1, (iAdd ((iMul (a.1.1, a.1.2) (b.2.1, b.2.2)).1, (iMul (a.1.1, a.1.2) (b.2.1, b.2.2)).2) ((iMul (b.1.1, b.1.2) (a.2.1, a.2.2)).1, (iMul (b.1.1, b.1.2) (a.2.1, a.2.2)).2)).2) ((iMul (a.2.1, a.2.2) (b.2.1, b.2.2)).1, (iMul (a.2.1, a.2.2) (b.2.1, b.2.2)).2)) = true) :
    Tst.path (vrun0 Tryz.prog qbCs (fl BQAdd []) 9 34 [qv a, qv b]) [true, true, true, false] (toRet Tryz.prog Tryz.f61 false (qv (qMake (iAdd (iMul a.1 b.2) (iMul b.1 a.2)) (iMul a.2 b.2)))) :=
  mp (an rt (an (bT h1) (an (bT h1) (an rt (an h1 (an h2 (an (sr (AV.agg [iv a.1.1, AV.lst true (.int .u64) a.1.2])) (an (sr (AV.agg [iv b.2.1, AV.lst true (.int .u64) b.2.2])) (an h3 (an (sr (AV.agg [iv b.1.1, AV.lst true (.int .u64) b.1.2])) (an (sr (AV.agg [iv b.1.1, AV.lst true (.int .u64) b.1.2])) (an (sr (AV.agg [iv a.2.1, AV.lst true (.int .u64) a.2.2])) (an (sr (AV.agg [iv a.2.1, AV.lst true (.int .u64) a.2.2])) (an h4 (an h5 (an (sr (AV.agg [iv a.2.1, AV.lst true (.int .u64) a.2.2])) (an (sr (AV.agg [iv a.2.1, AV.lst true (.int .u64) a.2.2])) (an (sr (AV.agg [iv a.2.1, AV.lst true (.int .u64) a.2.2])) (an (sr (AV.agg [iv a.2.1, AV.lst true (.int .u64) a.2.2])) (an (sr (AV.agg [iv b.2.1, AV.lst true (.int .u64) b.2.2])) (an (sr (AV.agg [iv b.2.1, AV.lst true (.int .u64) b.2.2])) (an (sr (AV.agg [iv b.2.1, AV.lst true (.int .u64) b.2.2])) (an (sr (AV.agg [iv b.2.1, AV.lst true (.int .u64) b.2.2])) (an h6 (an h7 (an (rr (qMake ((iAdd ((iMul (a.1.1, a.1.2) (b.2.1, b.2.2)).1, (iMul (a.1.1, a.1.2) (b.2.1, b.2.2)).2) ((iMul (b.1.1, b.1.2) (a.2.1, a.2.2)).1, (iMul (b.1.1, b.1.2) (a.2.1, a.2.2)).2)).1, (iAdd ((iMul (a.1.1, a.1.2) (b.2.1, b.2.2)).1, (iMul (a.1.1, a.1.2) (b.2.1, b.2.2)).2) ((iMul (b.1.1, b.1.2) (a.2.1, a.2.2)).1, (iMul (b.1.1, b.1.2) (a.2.1, a.2.2)).2)).2) ((iMul (a.2.1, a.2.2) (b.2.1, b.2.2)).1, (iMul (a.2.1, a.2.2) (b.2.1, b.2.2)).2)).1.1) (an (rr (qMake ((iAdd ((iMul (a.1.1, a.1.2) (b.2.1, b.2.2)).1, (iMul (a.1.1, a.1.2) (b.2.1, b.2.2)).2) ((iMul (b.1.1, b.1.2) (a.2.1, a.2.2)).1, (iMul (b.1.1, b.1.2) (a.2.1, a.2.2)).2)).1, (iAdd ((iMul (a.1.1, a.1.2) (b.2.1, b.2.2)).1, (iMul (a.1.1, a.1.2) (b.2.1, b.2.2)).2) ((iMul (b.1.1, b.1.2) (a.2.1, a.2.2)).1, (iMul (b.1.1, b.1.2) (a.2.1, a.2.2)).2)).2) ((iMul (a.2.1, a.2.2) (b.2.1, b.2.2)).1, (iMul (a.2.1, a.2.2) (b.2.1, b.2.2)).2)).1.2) (an (rr (qMake ((iAdd ((iMul (a.1.1, a.1.2) (b.2.1, b.2.2)).1, (iMul (a.1.1, a.1.2) (b.2.1, b.2.2)).2) ((iMul (b.1.1, b.1.2) (a.2.1, a.2.2)).1, (iMul (b.1.1, b.1.2) (a.2.1, a.2.2)).2)).1, (iAdd ((iMul (a.1.1, a.1.2) (b.2.1, b.2.2)).1, (iMul (a.1.1, a.1.2) (b.2.1, b.2.2)).2) ((iMul (b.1.1, b.1.2) (a.2.1, a.2.2)).1, (iMul (b.1.1, b.1.2) (a.2.1, a.2.2)).2)).2) ((iMul (a.2.1, a.2.2) (b.2.1, b.2.2)).1, (iMul (a.2.1, a.2.2) (b.2.1, b.2.2)).2)).2.1) (an (rr (qMake ((iAdd ((iMul (a.1.1, a.1.2) (b.2.1, b.2.2)).1, (iMul (a.1.1, a.1.2) (b.2.1, b.2.2)).2) ((iMul (b.1.1, b.1.2) (a.2.1, a.2.2)).1, (iMul (b.1.1, b.1.2) (a.2.1, a.2.2)).2)).1, (iAdd ((iMul (a.1.1, a.1.2) (b.2.1, b.2.2)).1, (iMul (a.1.1, a.1.2) (b.2.1, b.2.2)).2) ((iMul (b.1.1, b.1.2) (a.2.1, a.2.2)).1, (iMul (b.1.1, b.1.2) (a.2.1, a.2.2)).2)).2) ((iMul (a.2.1, a.2.2) (b.2.1, b.2.2)).1, (iMul (a.2.1, a.2.2) (b.2.1, b.2.2)).2)).2.2) trivial)))))))))))))))))))))))))))))
theorem qa_c (a b : NQ) (h1 : (isW ((a.1.1, a.1.2), a.2.1, a.2.2)) = false) (h2 : (okI (a.1.1, a.1.2) && okI (b.2.1, b.2.2)) = true) (h3 : (okI (b.1.1, b.1.2) && okI (a.2.1, a.2.2)) = true) (h4 : (okI ((iMul (a.1.1, a.1.2) (b.2.1, b.2.2)).1, (iMul (a.1.1, a.1.2) (b.2.1, b.2.2)).2) && okI ((iMul (b.1.1, b.1.2) (a.2.1, a.2.2)).1, (iMul (b.1.1, b.1.2) (a.2.1, a.2.2)).2)) = true) (h5 : (okI (a.2.1, a.2.2) && okI (b.2.1, b.2.2)) = true) (h6 : (okQuo ((iAdd ((iMul (a.1.1, a.1.2) (b.2.1, b.2.2)).1, (iMul (a.1.1, a.1.2) (b.2.1, b.2.2)).2) ((iMul (b.1.1, b.1.2) (a.2.1, a.2.2)).1, (iMul (b.1.1, b.1.2) (a.2.1, a.2.2)).2)).1, (iAdd ((iMul (a.1.1, a.1.2) (b.2.1, b.2.2)).1, (iMul (a.1.1, a.1.2) (b.2.1, b.2.2)).2) ((iMul (b.1.1, b.1.2) (a.2.1, a.2.2)).1, (iMul (b.1.1, b.1.2) (a.2.1, a.2.2)).2)).2) ((iMul (a.2.1, a.2.2) (b.2.1, b.2.2)).1, (iMul (a.2.1, a.2.2) (b.2.1, b.2.2)).2)) = true) :
    Tst.path (vrun0 Tryz.prog qbCs (fl BQAdd []) 9 34 [qv a, qv b]) [false, false, false, false] (toRet Tryz.prog Tryz.f61 false (qv (qMake (iAdd (iMul a.1 b.2) (iMul b.1 a.2)) (iMul a.2 b.2)))) :=
  mp (an rt (an (bT h1) (an (bT h1) (an h1 (an rf (an (sr (AV.agg [iv a.1.1, AV.lst true (.int .u64) a.1.2])) (an (sr (AV.agg [iv b.2.1, AV.lst true (.int .u64) b.2.2])) (an h2 (an (sr (AV.agg [iv b.1.1, AV.lst true (.int .u64) b.1.2])) (an (sr (AV.agg [iv b.1.1, AV.lst true (.int .u64) b.1.2])) (an (sr (AV.agg [iv a.2.1, AV.lst true (.int .u64) a.2.2])) (an (sr (AV.agg [iv a.2.1, AV.lst true (.int .u64) a.2.2])) (an h3 (an h4 (an (sr (AV.agg [iv a.2.1, AV.lst true (.int .u64) a.2.2])) (an (sr (AV.agg [iv a.2.1, AV.lst true (.int .u64) a.2.2])) (an (sr (AV.agg [iv a.2.1, AV.lst true (.int .u64) a.2.2])) (an (sr (AV.agg [iv a.2.1, AV.lst true (.int .u64) a.2.2])) (an (sr (AV.agg [iv b.2.1, AV.lst true (.int .u64) b.2.2])) (an (sr (AV.agg [iv b.2.1, AV.lst true (.int .u64) b.2.2])) (an (sr (AV.agg [iv b.2.1, AV.lst true (.int .u64) b.2.2])) (an (sr (AV.agg [iv b.2.1, AV.lst true (.int .u64) b.2.2])) (an h5 (an h6 (an (rr (qMake ((iAdd ((iMul (a.1.1, a.1.2) (b.2.1, b.2.2)).1, (iMul (a.1.1, a.1.2) (b.2.1, b.2.2)).2) ((iMul (b.1.1, b.1.2) (a.2.1, a.2.2)).1, (iMul (b.1.1, b.1.2) (a.2.1, a.2.2)).2)).1, (iAdd ((iMul (a.1.1, a.1.2) (b.2.1, b.2.2)).1, (iMul (a.1.1, a.1.2) (b.2.1, b.2.2)).2) ((iMul (b.1.1, b.1.2) (a.2.1, a.2.2)).1, (iMul (b.1.1, b.1.2) (a.2.1, a.2.2)).2)).2) ((iMul (a.2.1, a.2.2) (b.2.1, b.2.2)).1, (iMul (a.2.1, a.2.2) (b.2.1, b.2.2)).2)).1.1) (an (rr (qMake ((iAdd ((iMul (a.1.1, a.1.2) (b.2.1, b.2.2)).1, (iMul (a.1.1, a.1.2) (b.2.1, b.2.2)).2) ((iMul (b.1.1, b.1.2) (a.2.1, a.2.2)).1, (iMul (b.1.1, b.1.2) (a.2.1, a.2.2)).2)).1, (iAdd ((iMul (a.1.1, a.1.2) (b.2.1, b.2.2)).1, (iMul (a.1.1, a.1.2) (b.2.1, b.2.2)).2) ((iMul (b.1.1, b.1.2) (a.2.1, a.2.2)).1, (iMul (b.1.1, b.1.2) (a.2.1, a.2.2)).2)).2) ((iMul (a.2.1, a.2.2) (b.2.1, b.2.2)).1, (iMul (a.2.1, a.2.2) (b.2.1, b.2.2)).2)).1.2) (an (rr (qMake ((iAdd ((iMul (a.1.1, a.1.2) (b.2.1, b.2.2)).1, (iMul (a.1.1, a.1.2) (b.2.1, b.2.2)).2) ((iMul (b.1.1, b.1.2) (a.2.1, a.2.2)).1, (iMul (b.1.1, b.1.2) (a.2.1, a.2.2)).2)).1, (iAdd ((iMul (a.1.1, a.1.2) (b.2.1, b.2.2)).1, (iMul (a.1.1, a.1.2) (b.2.1, b.2.2)).2) ((iMul (b.1.1, b.1.2) (a.2.1, a.2.2)).1, (iMul (b.1.1, b.1.2) (a.2.1, a.2.2)).2)).2) ((iMul (a.2.1, a.2.2) (b.2.1, b.2.2)).1, (iMul (a.2.1, a.2.2) (b.2.1, b.2.2)).2)).2.1) (an (rr (qMake ((iAdd ((iMul (a.1.1, a.1.2) (b.2.1, b.2.2)).1, (iMul (a.1.1, a.1.2) (b.2.1, b.2.2)).2) ((iMul (b.1.1, b.1.2) (a.2.1, a.2.2)).1, (iMul (b.1.1, b.1.2) (a.2.1, a.2.2)).2)).1, (iAdd ((iMul (a.1.1, a.1.2) (b.2.1, b.2.2)).1, (iMul (a.1.1, a.1.2) (b.2.1, b.2.2)).2) ((iMul (b.1.1, b.1.2) (a.2.1, a.2.2)).1, (iMul (b.1.1, b.1.2) (a.2.1, a.2.2)).2)).2) ((iMul (a.2.1, a.2.2) (b.2.1, b.2.2)).1, (iMul (a.2.1, a.2.2) (b.2.1, b.2.2)).2)).2.2) trivial))))))))))))))))))))))))))))
theorem qa_ok : CallOk Tryz.prog (gS qaCs) := ctrs_ok fun c hc => by
  simp only [List.mem_cons, List.not_mem_nil, or_false] at hc
  rcases hc with rfl | rfl | rfl | rfl | rfl | rfl | rfl
  · exact cIMul_ok
  · exact cIAdd_ok
  · exact cMake_ok
  · exact cINeg_ok
  · exact cISign_ok
  · exact cICmp_ok
  · exact cDm_ok
theorem okQ_iff {n : Nat} {q : NQ} : okQ n q = true ↔ okN n q.1 = true ∧ okN n q.2 = true ∧ 0 < valI q.2 := by
  unfold okQ
  simp only [Bool.and_eq_true, decide_eq_true_eq]
theorem QIs.ok {n : Nat} {q : NQ} {x y : Int} (h : QIs n q x y) : okQ n q = true := okQ_iff.2 ⟨h.o1, h.o2, h.pos⟩
theorem ok_iMul {n m : Nat} {a b : NI} (h : okN n a = true) (g : okN m b = true) (hn : 1 ≤ n) (hm : 1 ≤ m) : okN (n + m) (iMul a b) = true := by
  have h1 := val_lt h hn
  have h2 := val_lt g hm
  refine (mkI_law ?_).1
  rw [Int.natAbs_mul, Int.natCast_mul, Int.pow_add]
  have p := pow_pos' (b := 18446744073709551616) (by decide) n
  generalize (18446744073709551616 : Int) ^ n = P at *
  generalize (18446744073709551616 : Int) ^ m = Q at *
  have e1 := Int.mul_le_mul_of_nonneg_right (show ((valI a).natAbs : Int) ≤ P by omega) (show (0 : Int) ≤ ((valI b).natAbs : Int) by omega)
  have e2 := Int.mul_lt_mul_of_pos_left h2 (show 0 < P by omega)
  omega
theorem ok_add' {n : Nat} {a b : NI} (h : okN n a = true) (g : okN n b = true) (hn : 1 ≤ n) : okN (n + 1) (iAdd a b) = true := by
  have h1 := val_lt h hn
  have h2 := val_lt g hn
  refine ok_iAdd ?_
  rw [Int.pow_succ]
  have p := pow_pos' (b := 18446744073709551616) (by decide) n
  generalize (18446744073709551616 : Int) ^ n = P at *
  omega
theorem mul_ne {x y : Int} (hx : 0 < x) (hy : 0 < y) : 0 < x * y := Int.mul_pos hx hy
theorem of_holds (n : Int) : Holds Tryz.prog false 78 [iv n] (nv (iOf n)) := by
  refine holds_fl (c := BOf) Tryz.func78 rfl rfl fun w F => ?_
  exact GoalL.ret known mixed qa_ok 9 _ (of_all n) fun T H h => h
theorem cOf_ok : cOf.Ok Tryz.prog := fun ⟨n, _⟩ h => of_holds n
theorem isw_holds (a : NQ) : Holds Tryz.prog true 107 [qv a] (bv (isW a)) := by
  refine holds_fl (c := BIsW) Tryz.func107 rfl rfl fun w F => ?_
  cases he : a.2.2.isEmpty with
  | true =>
    have e : isW a = (a.2.1 == 1) := by unfold isW; rw [show smI a.2 = true from he]; rfl
    rw [e]
    exact GoalL.ret known mixed qa_ok 9 _ (iw_t a he) fun T H h => h
  | false =>
    have e : isW a = false := by unfold isW; rw [show smI a.2 = false from he]; rfl
    rw [e]
    exact GoalL.ret known mixed qa_ok 9 _ (iw_f a he) fun T H h => h
theorem cIsW_ok : cIsW.Ok Tryz.prog := fun ⟨a, _⟩ h => isw_holds a
theorem qsign_holds (a : NQ) (h : okI a.1 = true) : Holds Tryz.prog true 64 [qv a] (iv (iSign a.1)) := by
  refine holds_fl (c := BQSign) Tryz.func64 rfl rfl fun w F => ?_
  exact GoalL.ret known mixed qa_ok 9 _ (qs_all a h) fun T H h => h
theorem cQSign_ok : cQSign.Ok Tryz.prog := fun ⟨a, _⟩ h => qsign_holds a h
theorem qneg_holds (a : NQ) (h : okI a.1 = true) : Holds Tryz.prog false 161 [qv a] (qv (qNeg a)) := by
  refine holds_fl (c := BQNeg) Tryz.func161 rfl rfl fun w F => ?_
  exact GoalL.ret known mixed qa_ok 9 _ (qn_all a h) fun T H h => h
theorem cQNeg_ok : cQNeg.Ok Tryz.prog := fun ⟨a, _⟩ h => qneg_holds a h
theorem and_ok {a b : NI} (h : okI a = true) (g : okI b = true) : (okI a && okI b) = true := by rw [h, g]; rfl
theorem qmul_holds (a b : NQ) (h : okQ 20000 a = true) (g : okQ 20000 b = true) : Holds Tryz.prog false 59 [qv a, qv b] (qv (qMul a b)) := by
  obtain ⟨h1, h2, h3⟩ := okQ_iff.1 h
  obtain ⟨g1, g2, g3⟩ := okQ_iff.1 g
  have m := @okN_mono 20000 100000
  have m2 := @okN_mono (20000 + 20000) 100000
  refine holds_fl (c := BQMul) Tryz.func59 rfl rfl fun w F => ?_
  exact GoalL.ret known mixed qa_ok 9 _ (qm_all a b (and_ok (m (by decide) h1) (m (by decide) g1)) (and_ok (m (by decide) h2) (m (by decide) g2))
    (okQuo_iff.2 ⟨m2 (by decide) (ok_iMul h1 g1 (by decide) (by decide)), m2 (by decide) (ok_iMul h2 g2 (by decide) (by decide)), by
      have := mul_ne h3 g3
      show valI (iMul a.2 b.2) ≠ 0
      rw [val_mul]; omega⟩)) fun T H h => h
theorem cQMul_ok : cQMul.Ok Tryz.prog := fun ⟨a, b, _⟩ h => by
  have h : (okQ 20000 a && okQ 20000 b) = true := h
  rw [Bool.and_eq_true] at h
  exact qmul_holds a b h.1 h.2
theorem qinv_holds (a : NQ) (h : okQuo a.2 a.1 = true) : Holds Tryz.prog false 122 [qv a] (qv (qInv a)) := by
  refine holds_fl (c := BQInv) Tryz.func122 rfl rfl fun w F => ?_
  exact GoalL.ret known mixed qa_ok 9 _ (qi_all a h) fun T H h => h
theorem cQInv_ok : cQInv.Ok Tryz.prog := fun ⟨a, _⟩ h => qinv_holds a h
theorem and_ok5 {a b : NI} (h : okN 50000 a = true) (g : okN 50000 b = true) : (okN 50000 a && okN 50000 b) = true := by rw [h, g]; rfl
theorem qcmp_holds (a b : NQ) (h : okQ 20000 a = true) (g : okQ 20000 b = true) : Holds Tryz.prog true 96 [qv a, qv b] (iv (qCmp a b)) := by
  obtain ⟨h1, h2, h3⟩ := okQ_iff.1 h
  obtain ⟨g1, g2, g3⟩ := okQ_iff.1 g
  have m := @okN_mono 20000 100000
  have m2 := @okN_mono (20000 + 20000) 50000
  refine holds_fl (c := BQCmp) Tryz.func96 rfl rfl fun w F => ?_
  exact GoalL.ret known mixed qa_ok 9 _ (qc_all a b (and_ok (m (by decide) h1) (m (by decide) g2)) (and_ok (m (by decide) g1) (m (by decide) h2))
    (and_ok5 (m2 (by decide) (ok_iMul h1 g2 (by decide) (by decide))) (m2 (by decide) (ok_iMul g1 h2 (by decide) (by decide))))) fun T H h => h
theorem cQCmp_ok : cQCmp.Ok Tryz.prog := fun ⟨a, b, _⟩ h => by
  have h : (okQ 20000 a && okQ 20000 b) = true := h
  rw [Bool.and_eq_true] at h
  exact qcmp_holds a b h.1 h.2
theorem qfl_holds (a : NQ) (h : okDm a.1 a.2 = true) : Holds Tryz.prog false 158 [qv a] (nv (iDivQ a.1 a.2)) := by
  refine holds_fl (c := BQFl) Tryz.func158 rfl rfl fun w F => ?_
  exact GoalL.ret known mixed qa_ok 9 _ (qf_all a h) fun T H h => h
theorem cQFl_ok : cQFl.Ok Tryz.prog := fun ⟨a, _⟩ h => qfl_holds a h
end
end Go.Proofs.YtjcbbabaabcdgaaGreatDoor
/- Package num: fractions and rational numbers. -/
namespace Go.Proofs.YtjcbbabaabcdgaaGreatDoor
open Go.RowKit Sv
set_option maxRecDepth 100000
set_option linter.unusedVariables false
noncomputable section
theorem wh2_all (n : NI) (h1 : n.1 = (qOf n).1.1) (h2 : n.2 = (qOf n).1.2) (h3 : (iOf (1 : Int)).1 = (qOf n).2.1) (h4 : (iOf (1 : Int)).2 = (qOf n).2.2) :
    Tst.path (vrun0 Tryz.prog (ctrs [cOf]) (fl BWh []) 9 6 [nv n]) [] (toRet Tryz.prog Tryz.f77 false (qv (qOf n))) :=
  mp (an (sr (AV.agg [iv n.1, AV.lst true (.int .u64) n.2])) (an rt (an (sr (AV.agg [iv n.1, AV.lst true (.int .u64) n.2])) (an h1 (an h2 (an h3 (an h4 trivial)))))))
theorem wh_ok : CallOk Tryz.prog (gS (ctrs [cOf])) := ctrs_ok fun c hc => by
  simp only [List.mem_cons, List.not_mem_nil, or_false] at hc
  rcases hc with rfl
  exact cOf_ok
theorem wh_holds (n : NI) : Holds Tryz.prog false 77 [nv n] (qv (qOf n)) := by
  refine holds_fl (c := BWh) Tryz.func77 rfl rfl fun w F => ?_
  exact GoalL.ret known mixed wh_ok 9 _ (wh2_all n rfl rfl rfl rfl) fun T H h => h
theorem cWh_ok : cWh.Ok Tryz.prog := fun ⟨n, _⟩ h => wh_holds n
theorem qb_ok : CallOk Tryz.prog (gS qbCs) := ctrs_ok fun c hc => by
  simp only [List.mem_cons, List.not_mem_nil, or_false] at hc
  rcases hc with rfl | rfl | rfl | rfl | rfl | rfl
  · exact cOf_ok
  · exact cWh_ok
  · exact cIsW_ok
  · exact cIMul_ok
  · exact cIAdd_ok
  · exact cMake_ok
theorem f_holds (n : Int) : Holds Tryz.prog false 60 [iv n] (qv (qOf (iOf n))) := by
  refine holds_fl (c := BF) Tryz.func60 rfl rfl fun w F => ?_
  exact GoalL.ret known mixed qb_ok 9 _ (f_all n rfl rfl rfl rfl) fun T H h => h
theorem cF_ok : cF.Ok Tryz.prog := fun ⟨n, _⟩ h => f_holds n
theorem qadd_holds (a b : NQ) (h : okQ 20000 a = true) (g : okQ 20000 b = true) : Holds Tryz.prog false 61 [qv a, qv b] (qv (qAdd a b)) := by
  obtain ⟨h1, h2, h3⟩ := okQ_iff.1 h
  obtain ⟨g1, g2, g3⟩ := okQ_iff.1 g
  have hS := qb_ok
  have m := @okN_mono 20000 100000
  have m2 := @okN_mono (20000 + 20000) 100000
  have m3 := @okN_mono (20000 + 20000 + 1) 100000
  have p1 := and_ok (m (by decide) h1) (m (by decide) g1)
  have p2 := and_ok (m (by decide) h1) (m (by decide) g2)
  have p3 := and_ok (m (by decide) g1) (m (by decide) h2)
  have p4 := and_ok (m (by decide) h2) (m (by decide) g2)
  have o1 := ok_iMul h1 g2 (by decide) (by decide)
  have o2 := ok_iMul g1 h2 (by decide) (by decide)
  have p5 := and_ok (m2 (by decide) o1) (m2 (by decide) o2)
  have p6 : okQuo (iAdd (iMul a.1 b.2) (iMul b.1 a.2)) (iMul a.2 b.2) = true := okQuo_iff.2 ⟨m3 (by decide) (ok_add' o1 o2 (by decide)), m2 (by decide) (ok_iMul h2 g2 (by decide) (by decide)), by
      have := mul_ne h3 g3
      rw [val_mul]; omega⟩
  refine holds_fl (c := BQAdd) Tryz.func61 rfl rfl fun w F => ?_
  unfold qAdd
  by_cases hw : isW a = true
  · by_cases hw2 : isW b = true
    · rw [if_pos (by rw [hw, hw2]; rfl)]
      exact GoalL.ret known mixed hS 9 _ (qa_one a b hw hw2 p1 rfl rfl rfl rfl) fun T H h => h
    · rw [if_neg (by rw [hw]; simpa using hw2)]
      exact GoalL.ret known mixed hS 9 _ (qa_b a b hw (by simpa using hw2) p2 p3 p5 p4 p6) fun T H h => h
  · rw [if_neg (by simp [hw])]
    exact GoalL.ret known mixed hS 9 _ (qa_c a b (by simpa using hw) p2 p3 p5 p4 p6) fun T H h => h
theorem cQAdd_ok : cQAdd.Ok Tryz.prog := fun ⟨a, b, _⟩ h => by
  have h : (okQ 20000 a && okQ 20000 b) = true := h
  rw [Bool.and_eq_true] at h
  exact qadd_holds a b h.1 h.2
structure QR (n : Nat) (q : NQ) (r : Rat) : Prop where
  o1 : okN n q.1 = true
  o2 : okN n q.2 = true
  num : valI q.1 = r.num
  den : valI q.2 = r.den
theorem QR.ok {n : Nat} {q : NQ} {r : Rat} (h : QR n q r) : okQ n q = true := okQ_iff.2 ⟨h.o1, h.o2, by rw [h.den]; have := r.den_pos; omega⟩
theorem QR.mono {n m : Nat} {q : NQ} {r : Rat} (h : QR n q r) (hnm : n ≤ m) : QR m q r := ⟨okN_mono hnm h.o1, okN_mono hnm h.o2, h.num, h.den⟩
theorem QR.pos {n : Nat} {q : NQ} {r : Rat} (h : QR n q r) : 0 < valI q.2 := (okQ_iff.1 h.ok).2.2
end
end Go.Proofs.YtjcbbabaabcdgaaGreatDoor
/- Package num: integers: powers. -/
namespace Go.Proofs.YtjcbbabaabcdgaaGreatDoor
open Go.RowKit Sv
set_option maxRecDepth 100000
set_option linter.unusedVariables false
noncomputable section
noncomputable def BPow : Code := (Tryz.f188.body).getD .skip
noncomputable def pwCs : VCaller := ctrs [cOf, cIMul]
def SPw (a o : NI) (k : Int) : St := { n := 23, sl := [(1, iv k), (2, .ptr 64 0), (4, .ptr 65 0), (5, .ptr 66 0)], en := [(64, bI a), (65, b0), (66, bI o)], next := 67 }
theorem pw_start (a : NI) (k : Int) (h1 : (iOf (1 : Int)).1 = ((1 : Int))) (h2 : (iOf (1 : Int)).2 = (nilI)) :
    Tst.path (vrun0 Tryz.prog pwCs (fl BPow []) 2 23 [nv a, iv k]) [] (toSt Tryz.prog 23 .normal s3 (SPw a (1, []) k)) :=
  mp (an rt (an (rr k) (an (rr ((0 : Nat))) (an (rr ((0 : Nat))) (an (rr ((0 : Nat))) (an (an (rr a.1) (an (rr a.2) trivial)) (an (an (rr ((0 : Int))) (an (rr (Value.slice none (0 : Nat) (0 : Nat))) trivial)) (an (an h1 (an h2 trivial)) trivial))))))))
theorem pw_11 (a o : NI) (k j : Int) (h1 : k > 0) (h2 : IntKind.wrap IntKind.i64 (↑(BitVec.toNat (BitVec.ofInt (64 : Nat) k &&& BitVec.ofInt (64 : Nat) (1 : Int))) : Int) = 1) (h3 : (okI (o.1, o.2) && okI (a.1, a.2)) = true) (h4 : k > 1) (h5 : (okI (a.1, a.2) && okI (a.1, a.2)) = true) (h6 : (Int.fdiv k ((2 : Int) ^ min (Int.toNat (1 : Int)) (64 : Nat))) = (j)) :
    Tst.path (vall Tryz.prog pwCs (fl BPow gL) (SPw a o k)) [true, true, true] (toSt Tryz.prog 23 .normal s3 (SPw (iMul a a) (iMul o a) j)) :=
  mp (an (decide_eq_true h1) (an (beq_iff_eq.mpr h2) (an h3 (an (decide_eq_true h4) (an h5 (an rt (an h6 (an (rr ((0 : Nat))) (an (rr ((0 : Nat))) (an (rr ((0 : Nat))) (an (an (rr (iMul (a.1, a.2) (a.1, a.2)).1) (an (rr (iMul (a.1, a.2) (a.1, a.2)).2) trivial)) (an (an (rr ((0 : Int))) (an (rr (Value.slice none (0 : Nat) (0 : Nat))) trivial)) (an (an (rr (iMul (o.1, o.2) (a.1, a.2)).1) (an (rr (iMul (o.1, o.2) (a.1, a.2)).2) trivial)) trivial)))))))))))))
theorem pw_10 (a o : NI) (k j : Int) (h1 : k > 0) (h2 : IntKind.wrap IntKind.i64 (↑(BitVec.toNat (BitVec.ofInt (64 : Nat) k &&& BitVec.ofInt (64 : Nat) (1 : Int))) : Int) = 1) (h3 : (okI (o.1, o.2) && okI (a.1, a.2)) = true) (h4 : ¬k > 1) (h5 : (Int.fdiv k ((2 : Int) ^ min (Int.toNat (1 : Int)) (64 : Nat))) = (j)) :
    Tst.path (vall Tryz.prog pwCs (fl BPow gL) (SPw a o k)) [true, true, false] (toSt Tryz.prog 23 .normal s3 (SPw a (iMul o a) j)) :=
  mp (an (decide_eq_true h1) (an (beq_iff_eq.mpr h2) (an h3 (an (decide_eq_false h4) (an rt (an h5 (an (rr ((0 : Nat))) (an (rr ((0 : Nat))) (an (rr ((0 : Nat))) (an (an (rr a.1) (an (rr a.2) trivial)) (an (an (rr ((0 : Int))) (an (rr (Value.slice none (0 : Nat) (0 : Nat))) trivial)) (an (an (rr (iMul (o.1, o.2) (a.1, a.2)).1) (an (rr (iMul (o.1, o.2) (a.1, a.2)).2) trivial)) trivial))))))))))))
theorem pw_01 (a o : NI) (k j : Int) (h1 : k > 0) (h2 : ¬IntKind.wrap IntKind.i64 (↑(BitVec.toNat (BitVec.ofInt (64 : Nat) k &&& BitVec.ofInt (64 : Nat) (1 : Int))) : Int) = 1) (h3 : k > 1) (h4 : (okI (a.1, a.2) && okI (a.1, a.2)) = true) (h5 : (Int.fdiv k ((2 : Int) ^ min (Int.toNat (1 : Int)) (64 : Nat))) = (j)) :
    Tst.path (vall Tryz.prog pwCs (fl BPow gL) (SPw a o k)) [true, false, true] (toSt Tryz.prog 23 .normal s3 (SPw (iMul a a) o j)) :=
  mp (an (decide_eq_true h1) (an (beq_eq_false_iff_ne.mpr h2) (an (decide_eq_true h3) (an h4 (an rt (an h5 (an (rr ((0 : Nat))) (an (rr ((0 : Nat))) (an (rr ((0 : Nat))) (an (an (rr (iMul (a.1, a.2) (a.1, a.2)).1) (an (rr (iMul (a.1, a.2) (a.1, a.2)).2) trivial)) (an (an (rr ((0 : Int))) (an (rr (Value.slice none (0 : Nat) (0 : Nat))) trivial)) (an (an (rr o.1) (an (rr o.2) trivial)) trivial))))))))))))
theorem pw_end (a o : NI) (k : Int) (h1 : ¬k > 0) :
    Tst.path (vall Tryz.prog pwCs (fl BPow gL) (SPw a o k)) [false] (toSt Tryz.prog 23 (.exit 0) s3 (SPw a o k)) :=
  mp (an (decide_eq_false h1) (an (rr k) (an (rr ((0 : Nat))) (an (rr ((0 : Nat))) (an (rr ((0 : Nat))) (an (an (rr a.1) (an (rr a.2) trivial)) (an (an (rr ((0 : Int))) (an (rr (Value.slice none (0 : Nat) (0 : Nat))) trivial)) (an (an (rr o.1) (an (rr o.2) trivial)) trivial))))))))
theorem pw_ret (a o : NI) (k : Int)  :
    Tst.path (vall Tryz.prog pwCs (List.drop 3 (fl BPow [])) (SPw a o k)) [] (toRet Tryz.prog Tryz.f188 false (nv o)) :=
  mp (an (rr o.1) (an (rr o.2) trivial))
noncomputable def iPow (a : NI) (k : Int) : Int × List Int := mkI (valI a ^ k.toNat)
def okPw (a : NI) (k : Int) : Bool := okI a && (decide (0 ≤ k) && decide (1 + (a.2.length + 1) * k.toNat ≤ 100000))
noncomputable def cPow : Ctr := { f := 188, ps := [tI, .int .i64], rs := [tI], fresh := false, pre := fun d => okPw d.1 d.2.1, fn := fun d => (iPow d.1 d.2.1, ()) }
theorem pw_ok : CallOk Tryz.prog (gS pwCs) := ctrs_ok fun c hc => by
  simp only [List.mem_cons, List.not_mem_nil, or_false] at hc
  rcases hc with rfl | rfl
  · exact cOf_ok
  · exact cIMul_ok
theorem and1 {m : Nat} (h : m ≤ 100000) : IntKind.i64.wrap ↑(BitVec.ofInt 64 (m : Int) &&& BitVec.ofInt 64 1).toNat = ((m % 2 : Nat) : Int) := by
  have e : (BitVec.ofInt 64 (m : Int) &&& BitVec.ofInt 64 1).toNat = m % 2 := by
    rw [BitVec.toNat_and, BitVec.toNat_ofInt, BitVec.toNat_ofInt, show ((m : Int) % (2 ^ 64 : Nat)).toNat = m by omega]
    exact Nat.and_one_is_mod m
  rw [e]
  rcases Nat.mod_two_eq_zero_or_one m with h | h
  · rw [h]; rfl
  · rw [h]; rfl
theorem half (m : Nat) : Int.fdiv (m : Int) (2 ^ min (Int.toNat 1) 64) = ((m / 2 : Nat) : Int) := by
  have e : (2 : Int) ^ min (Int.toNat 1) 64 = 2 := rfl
  rw [e, Int.fdiv_eq_ediv_of_nonneg _ (by decide)]; omega
theorem sq_pow (a : Int) : ∀ j : Nat, (a * a) ^ j = a ^ j * a ^ j
  | 0 => by rw [Int.pow_zero, Int.pow_zero, Int.one_mul]
  | j + 1 => by rw [Int.pow_succ, Int.pow_succ, sq_pow a j]; grind
theorem pow_even {a : Int} {m : Nat} (h : m % 2 = 0) : (a * a) ^ (m / 2) = a ^ m := by
  rw [sq_pow, ← Int.pow_add]; congr 1; omega
theorem pow_odd {a : Int} {m : Nat} (h : m % 2 = 1) : a * (a * a) ^ (m / 2) = a ^ m := by
  obtain ⟨j, rfl⟩ : ∃ j, m = 2 * j + 1 := ⟨m / 2, by omega⟩
  rw [show (2 * j + 1) / 2 = j by omega, sq_pow, Int.pow_succ, show 2 * j = j + j by omega, Int.pow_add, Int.mul_comm]
theorem okN_len {n : Nat} {a : NI} (h : okN n a = true) : okN (a.2.length + 1) a = true := by
  by_cases hs : a.2 = []
  · rw [okN_sm hs] at h ⊢; exact h
  · obtain ⟨h1, h2, h3, h4, h5⟩ := (okN_big hs).1 h
    exact (okN_big hs).2 ⟨h1, h2, h3, h4, by omega⟩
theorem pow_holds (a : NI) (k : Nat) (h : okI a = true) (hk : 1 + (a.2.length + 1) * k ≤ 100000) : Holds Tryz.prog false 188 [nv a, iv (k : Int)] (nv (mkI (valI a ^ k))) := by
  have hS := pw_ok
  refine holds_fl (c := BPow) Tryz.func188 rfl rfl fun w F => ?_
  refine GoalL.to known mixed hS 2 _ (pw_start a k rfl rfl) (by kernel_rfl) ?_
  refine GoalL.loop (ι := { x : (NI × NI) × Nat // x.1.2 = mkI (valI x.1.2) ∧ valI x.1.2 * valI x.1.1 ^ x.2 = valI a ^ k ∧ ∃ p q : Nat, 1 ≤ p ∧ 1 ≤ q ∧ okN p x.1.1 = true ∧ okN q x.1.2 = true ∧ q + p * x.2 ≤ 100000 }) (id := 0) (b := cat BPow gL) (rest := List.drop 3 (fl BPow [])) (by kernel_rfl) (fun x => SPw x.1.1.1 x.1.1.2 (x.1.2 : Int)) (fun x => x.1.2)
    ⟨((a, (1, [])), k), by
      have v : valI (1, []) = 1 := rfl
      refine ⟨?_, ?_, a.2.length + 1, 1, by omega, by omega, okN_len h, ?_, hk⟩
      · show ((1, []) : NI) = mkI (valI (1, []))
        rw [v]; unfold mkI; rw [if_pos (by decide)]
      · show valI (1, []) * valI a ^ k = valI a ^ k
        rw [v, Int.one_mul]
      · exact (okN_sm (n := 1) (a := (1, [])) rfl).trans (by decide)⟩ (fun _ => rfl) ?_
  rintro ⟨⟨⟨x, o⟩, m⟩, ho, hv, p, q, hp, hq, ox, oo, hm⟩
  have ho : o = mkI (valI o) := ho
  have hv : valI o * valI x ^ m = valI a ^ k := hv
  have ox : okN p x = true := ox
  have oo : okN q o = true := oo
  have hm : q + p * m ≤ 100000 := hm
  have hmp : m ≤ p * m := Nat.le_mul_of_pos_left m hp
  by_cases hz : m = 0
  · subst hz
    refine GoalL.all (s := SPw x o (0 : Nat)) known mixed hS _ (pw_end x o (0 : Nat) (by decide)) (by kernel_rfl) ?_
    refine onN_exit (inB_exit ?_)
    have e : valI o = valI a ^ k := by rw [← hv]; simp
    rw [← e, ← ho]
    exact GoalL.allRet (s := SPw x o (0 : Nat)) known mixed hS _ (pw_ret x o _) fun T H h => h
  · have hpm : p ≤ p * m := Nat.le_mul_of_pos_right p (by omega)
    have iX := okN_mono (show p ≤ 100000 by omega) ox
    have iO := okN_mono (show q ≤ 100000 by omega) oo
    have hlt : m / 2 < m := by omega
    have hpos : (m : Int) > 0 := by omega
    have vm := val_mul
    by_cases hodd : m % 2 = 1
    · have hb : IntKind.i64.wrap ↑(BitVec.ofInt 64 (m : Int) &&& BitVec.ofInt 64 1).toNat = 1 := by rw [and1 (by omega), hodd]; rfl
      by_cases h1 : m = 1
      · subst h1
        refine GoalL.all (s := SPw x o (1 : Nat)) known mixed hS _ (pw_10 x o (1 : Nat) (0 : Nat) hpos hb (and_ok iO iX) (by decide) (half 1)) (by kernel_rfl) ?_
        refine ⟨⟨((x, iMul o x), 0), ?_, ?_, p, q + p, hp, by omega, ox, ok_iMul oo ox hq hp, by omega⟩, hlt, rfl, rfl⟩
        · show iMul o x = mkI (valI (iMul o x))
          rw [val_mul]; rfl
        · show valI (iMul o x) * valI x ^ 0 = _
          rw [val_mul, ← hv, Int.pow_zero, Int.mul_one, Int.pow_succ, Int.pow_zero, Int.one_mul]
      · refine GoalL.all (s := SPw x o (m : Nat)) known mixed hS _ (pw_11 x o (m : Nat) (m / 2 : Nat) hpos hb (and_ok iO iX) (by omega) (and_ok iX iX) (half m)) (by kernel_rfl) ?_
        refine ⟨⟨((iMul x x, iMul o x), m / 2), ?_, ?_, p + p, q + p, by omega, by omega, ok_iMul ox ox hp hp, ok_iMul oo ox hq hp, ?_⟩, hlt, rfl, rfl⟩
        · show iMul o x = mkI (valI (iMul o x))
          rw [val_mul]; rfl
        · show valI (iMul o x) * valI (iMul x x) ^ (m / 2) = _
          rw [val_mul, val_mul, ← hv, ← pow_odd hodd, Int.mul_assoc]
        · show q + p + (p + p) * (m / 2) ≤ 100000
          obtain ⟨j, rfl⟩ : ∃ j, m = 2 * j + 1 := ⟨m / 2, by omega⟩
          rw [show (2 * j + 1) / 2 = j by omega]
          have : p * (2 * j + 1) = (p + p) * j + p := by grind
          omega
    · have h0 : m % 2 = 0 := by omega
      have hb : ¬ IntKind.i64.wrap ↑(BitVec.ofInt 64 (m : Int) &&& BitVec.ofInt 64 1).toNat = 1 := by rw [and1 (by omega), h0]; decide
      refine GoalL.all (s := SPw x o (m : Nat)) known mixed hS _ (pw_01 x o (m : Nat) (m / 2 : Nat) hpos hb (by omega) (and_ok iX iX) (half m)) (by kernel_rfl) ?_
      refine ⟨⟨((iMul x x, o), m / 2), ho, ?_, p + p, q, by omega, hq, ok_iMul ox ox hp hp, oo, ?_⟩, hlt, rfl, rfl⟩
      · show valI o * valI (iMul x x) ^ (m / 2) = _
        rw [val_mul, ← hv, pow_even h0]
      · show q + (p + p) * (m / 2) ≤ 100000
        obtain ⟨j, rfl⟩ : ∃ j, m = 2 * j := ⟨m / 2, by omega⟩
        rw [show (2 * j) / 2 = j by omega]
        have : p * (2 * j) = (p + p) * j := by grind
        omega
theorem cPow_ok : cPow.Ok Tryz.prog := fun ⟨a, k, _⟩ h => by
  have h : okPw a k = true := h
  unfold okPw at h
  simp only [Bool.and_eq_true, decide_eq_true_eq] at h
  obtain ⟨h1, h2, h3⟩ := h
  obtain ⟨n, rfl⟩ : ∃ n : Nat, k = (n : Int) := ⟨k.toNat, (Int.toNat_of_nonneg h2).symm⟩
  exact pow_holds a n h1 h3
end
end Go.Proofs.YtjcbbabaabcdgaaGreatDoor
/- Package strings, strconv: HasPrefix, TrimPrefix, Atoi as known functions. -/
namespace Go.Proofs.YtjcbbabaabcdgaaGreatDoor
open Go.RowKit Sv
set_option maxRecDepth 100000
set_option linter.unusedVariables false
noncomputable section
def hasPre (s p : ByteArray) : Bool := Lib.hasPrefix s.data.toList p.data.toList
def trimPre (s p : ByteArray) : ByteArray := ⟨(Lib.trimPrefix s.data.toList p.data.toList).toArray⟩
def okAtoi (s : ByteArray) : Bool := decide (s.size ≤ 18) && (Lib.atoi s.data.toList).isSome
def atoiI (s : ByteArray) : Int := (Lib.atoi s.data.toList).getD 0
noncomputable def cHasPre : Ctr := { f := 185, ps := [.str, .str], rs := [.bool], fresh := true, pre := fun d => true, fn := fun d => (hasPre d.1 d.2.1, ()) }
noncomputable def cTrimPre : Ctr := { f := 186, ps := [.str, .str], rs := [.str], fresh := true, pre := fun d => true, fn := fun d => (trimPre d.1 d.2.1, ()) }
noncomputable def atoiRes (args : List AV) : Tst (Option AV) := match args with | [.raw (.string s)] => .must (okAtoi s) (.ret (some (.tuple [iv (atoiI s), .raw .nilIface]))) | _ => .ret none
noncomputable def rAtoi : RCtr := { f := 187, res := atoiRes }
--{
theorem cHasPre_ok : cHasPre.Ok Tryz.prog := fun ⟨s, p, _⟩ h w F xs hF hG hd => by
  cases hd with
  | cons d1 d2 =>
    cases d2 with
    | cons d2 d3 =>
    cases d3
    rw [d1.raw_eq, d2.raw_eq]
    refine (Tryz.strings_HasPrefix s p w).mono fun e w' ⟨h1, h2⟩ => ?_
    subst h2
    exact ⟨_, ⟨F.at', fun _ => none⟩, h1, .raw _, ⟨hF.glob, hF.all, fun b A h => by cases h⟩, (fun b A h => by cases h), Below.refl _ _⟩
theorem cTrimPre_ok : cTrimPre.Ok Tryz.prog := fun ⟨s, p, _⟩ h w F xs hF hG hd => by
  cases hd with
  | cons d1 d2 =>
    cases d2 with
    | cons d2 d3 =>
    cases d3
    rw [d1.raw_eq, d2.raw_eq]
    refine (Tryz.strings_TrimPrefix s p w).mono fun e w' ⟨h1, h2⟩ => ?_
    subst h2
    exact ⟨_, ⟨F.at', fun _ => none⟩, h1, .raw _, ⟨hF.glob, hF.all, fun b A h => by cases h⟩, (fun b A h => by cases h), Below.refl _ _⟩
theorem rAtoi_ok : rAtoi.Ok Tryz.prog := by
  intro args v hv w F xs hF hG hd
  change (atoiRes args).gr = _ at hv
  unfold atoiRes at hv
  split at hv
  · rename_i s
    unfold Tst.gr at hv
    cases ho : okAtoi s with
    | false => rw [ho] at hv; cases hv
    | true =>
      rw [ho] at hv
      cases hv
      unfold okAtoi at ho
      rw [Bool.and_eq_true, decide_eq_true_eq] at ho
      obtain ⟨n, hn⟩ := Option.isSome_iff_exists.1 ho.2
      cases hd with
      | cons d1 d2 =>
      cases d2
      rw [d1.raw_eq]
      refine (Tryz.strconv_Atoi s n ho.1 hn w).mono ?_
      rintro e w' ⟨rfl, t, rfl⟩
      refine ⟨_, rfl, ?_, Joins.below_bytesWorld _ _ _ _ (Nat.le_refl _)⟩
      have e : atoiI s = n := by unfold atoiI; rw [hn]; rfl
      rw [e]
      exact .tuple (.cons (.raw _) (.cons (.raw _) .nil))
  · cases hv
--}
noncomputable def BRead : Code := (Tryz.f120.body).getD .skip
noncomputable def rdCs : VCaller := rctrs [rAtoi] (ctrs [cHasPre, cTrimPre, cOf, cPow, cIMul, cIAdd, cINeg])
abbrev rdL : List Nat := [1, 1, 1, 1, 0, 0, 0]
def SRd (s : ByteArray) (o : NI) (neg : Bool) : St := { n := 41, sl := [(0, sv s), (2, .ptr 64 0), (3, bv neg), (4, .ptr 65 0)], en := [(64, b0), (65, bI o)], next := 66 }
end
end Go.Proofs.YtjcbbabaabcdgaaGreatDoor
