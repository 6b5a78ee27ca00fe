/- math/bits: LeadingZeros64, Div64. -/
import Derived.Test.YtjcbbabaabcdgaaGreatDoorZgDig5
namespace Go.Proofs.YtjcbbabaabcdgaaGreatDoor
open Go.RowKit Sv
set_option maxRecDepth 100000
set_option linter.unusedVariables false
noncomputable section
def lzI (x : Int) : Int := 64 - (Lib.bitLen x.toNat : Int)
def okU (x : Int) : Bool := decide (0 ≤ x) && decide (x < 18446744073709551616)
noncomputable def cLz : Ctr := { f := 214, ps := [tU], rs := [.int .i64], fresh := true, pre := fun d => okU d.1, fn := fun d => (lzI d.1, ()) }
noncomputable def BDiv : Code := (Tryz.f213.body).getD .skip
noncomputable def dvCs : VCaller := ctrs [cLz]
abbrev dL1 : List Nat := [1, 1, 1, 1, 1, 1, 1, 1, 1, 1, 1, 1, 1, 1, 0, 0, 0]
abbrev dL2 : List Nat := [1, 1, 1, 1, 1, 1, 1, 1, 1, 1, 1, 1, 1, 1, 1, 1, 1, 1, 0, 0, 0]
def SD1 (Y s v1 v2 X c d q r : Int) : St := { n := 135, sl := [(2, uv Y), (8, uv s), (9, uv v1), (10, uv v2), (11, uv X), (13, uv c), (14, uv d), (15, uv q), (16, uv r)], en := [], next := 64 }
def SD2 (Y s v1 v2 d p X q r : Int) : St := { n := 135, sl := [(2, uv Y), (8, uv s), (9, uv v1), (10, uv v2), (14, uv d), (15, uv p), (17, uv X), (18, uv q), (16, uv r)], en := [], next := 64 }
theorem dv_zero (hi lo y : Int) (h1 : ¬y = 0) (h2 : ¬y ≤ hi) (h3 : hi = 0) (h4 : y ≠ 0) (h5 : (IntKind.wrap IntKind.u64 (Int.tdiv lo y)) = (lo / y)) (h6 : (Int.tmod lo y) = (lo % y)) :
    Tst.path (vrun0 Tryz.prog dvCs (fl BDiv []) 9 135 [uv hi, uv lo, uv y]) [false, false, true] (toRet Tryz.prog Tryz.f213 true (.tuple [uv (lo / y), uv (lo % y)])) :=
  mp (an (beq_eq_false_iff_ne.mpr h1) (an (decide_eq_false h2) (an (beq_iff_eq.mpr h3) (an (decide_eq_true h4) (an (decide_eq_true h4) (an h5 (an h6 trivial)))))))
theorem dv_start (hi lo y Y s v1 v2 X c d q r : Int) (h1 : ¬y = 0) (h2 : ¬y ≤ hi) (h3 : ¬hi = 0) (h4 : (okU y) = true) (h5 : (0 : Int) ≤ IntKind.wrap IntKind.u64 (lzI y)) (h6 : (0 : Int) ≤ IntKind.wrap IntKind.u64 ((64 : Int) - IntKind.wrap IntKind.u64 (lzI y))) (h7 : Int.fdiv (IntKind.wrap IntKind.u64 (y * (2 : Int) ^ min (Int.toNat (IntKind.wrap IntKind.u64 (lzI y))) (64 : Nat))) ((2 : Int) ^ min (Int.toNat (32 : Int)) (64 : Nat)) ≠ 0) (h8 : (IntKind.wrap IntKind.u64 (y * (2 : Int) ^ min (Int.toNat (IntKind.wrap IntKind.u64 (lzI y))) (64 : Nat))) = (Y)) (h9 : (IntKind.wrap IntKind.u64 (lzI y)) = (s)) (h10 : (Int.fdiv (IntKind.wrap IntKind.u64 (y * (2 : Int) ^ min (Int.toNat (IntKind.wrap IntKind.u64 (lzI y))) (64 : Nat))) ((2 : Int) ^ min (Int.toNat (32 : Int)) (64 : Nat))) = (v1)) (h11 : (IntKind.wrap IntKind.u64 (↑(BitVec.toNat (BitVec.ofInt (64 : Nat) (IntKind.wrap IntKind.u64 (y * (2 : Int) ^ min (Int.toNat (IntKind.wrap IntKind.u64 (lzI y))) (64 : Nat))) &&& BitVec.ofInt (64 : Nat) (4294967295 : Int))) : Int)) = (v2)) (h12 : (IntKind.wrap IntKind.u64 (↑(BitVec.toNat (BitVec.ofInt (64 : Nat) (IntKind.wrap IntKind.u64 (hi * (2 : Int) ^ min (Int.toNat (IntKind.wrap IntKind.u64 (lzI y))) (64 : Nat))) ||| BitVec.ofInt (64 : Nat) (Int.fdiv lo ((2 : Int) ^ min (Int.toNat (IntKind.wrap IntKind.u64 ((64 : Int) - IntKind.wrap IntKind.u64 (lzI y)))) (64 : Nat))))) : Int)) = (X)) (h13 : (Int.fdiv (IntKind.wrap IntKind.u64 (lo * (2 : Int) ^ min (Int.toNat (IntKind.wrap IntKind.u64 (lzI y))) (64 : Nat))) ((2 : Int) ^ min (Int.toNat (32 : Int)) (64 : Nat))) = (c)) (h14 : (IntKind.wrap IntKind.u64 (↑(BitVec.toNat (BitVec.ofInt (64 : Nat) (IntKind.wrap IntKind.u64 (lo * (2 : Int) ^ min (Int.toNat (IntKind.wrap IntKind.u64 (lzI y))) (64 : Nat))) &&& BitVec.ofInt (64 : Nat) (4294967295 : Int))) : Int)) = (d)) (h15 : (IntKind.wrap IntKind.u64 (Int.tdiv (IntKind.wrap IntKind.u64 (↑(BitVec.toNat (BitVec.ofInt (64 : Nat) (IntKind.wrap IntKind.u64 (hi * (2 : Int) ^ min (Int.toNat (IntKind.wrap IntKind.u64 (lzI y))) (64 : Nat))) ||| BitVec.ofInt (64 : Nat) (Int.fdiv lo ((2 : Int) ^ min (Int.toNat (IntKind.wrap IntKind.u64 ((64 : Int) - IntKind.wrap IntKind.u64 (lzI y)))) (64 : Nat))))) : Int)) (Int.fdiv (IntKind.wrap IntKind.u64 (y * (2 : Int) ^ min (Int.toNat (IntKind.wrap IntKind.u64 (lzI y))) (64 : Nat))) ((2 : Int) ^ min (Int.toNat (32 : Int)) (64 : Nat))))) = (q)) (h16 : (IntKind.wrap IntKind.u64 (IntKind.wrap IntKind.u64 (↑(BitVec.toNat (BitVec.ofInt (64 : Nat) (IntKind.wrap IntKind.u64 (hi * (2 : Int) ^ min (Int.toNat (IntKind.wrap IntKind.u64 (lzI y))) (64 : Nat))) ||| BitVec.ofInt (64 : Nat) (Int.fdiv lo ((2 : Int) ^ min (Int.toNat (IntKind.wrap IntKind.u64 ((64 : Int) - IntKind.wrap IntKind.u64 (lzI y)))) (64 : Nat))))) : Int) - IntKind.wrap IntKind.u64 (IntKind.wrap IntKind.u64 (Int.tdiv (IntKind.wrap IntKind.u64 (↑(BitVec.toNat (BitVec.ofInt (64 : Nat) (IntKind.wrap IntKind.u64 (hi * (2 : Int) ^ min (Int.toNat (IntKind.wrap IntKind.u64 (lzI y))) (64 : Nat))) ||| BitVec.ofInt (64 : Nat) (Int.fdiv lo ((2 : Int) ^ min (Int.toNat (IntKind.wrap IntKind.u64 ((64 : Int) - IntKind.wrap IntKind.u64 (lzI y)))) (64 : Nat))))) : Int)) (Int.fdiv (IntKind.wrap IntKind.u64 (y * (2 : Int) ^ min (Int.toNat (IntKind.wrap IntKind.u64 (lzI y))) (64 : Nat))) ((2 : Int) ^ min (Int.toNat (32 : Int)) (64 : Nat)))) * Int.fdiv (IntKind.wrap IntKind.u64 (y * (2 : Int) ^ min (Int.toNat (IntKind.wrap IntKind.u64 (lzI y))) (64 : Nat))) ((2 : Int) ^ min (Int.toNat (32 : Int)) (64 : Nat))))) = (r)) :
    Tst.path (vrun0 Tryz.prog dvCs (fl BDiv []) 17 135 [uv hi, uv lo, uv y]) [false, false, false] (toSt Tryz.prog 135 .normal [] (SD1 Y s v1 v2 X c d q r)) :=
  mp (an (beq_eq_false_iff_ne.mpr h1) (an (decide_eq_false h2) (an (beq_eq_false_iff_ne.mpr h3) (an h4 (an (decide_eq_true h5) (an rt (an (decide_eq_true h5) (an (decide_eq_true h6) (an (decide_eq_true h5) (an rt (an (decide_eq_true h7) (an h8 (an h9 (an h10 (an h11 (an h12 (an h13 (an h14 (an h15 (an h16 trivial))))))))))))))))))))
theorem d1_a (Y s v1 v2 X c d q r : Int) (h1 : q ≥ 4294967296) (h2 : IntKind.wrap IntKind.u64 (r + v1) ≥ 4294967296) (h3 : (IntKind.wrap IntKind.u64 (q - 1)) = (q - 1)) (h4 : (IntKind.wrap IntKind.u64 (r + v1)) = (r + v1)) :
    Tst.path (vall Tryz.prog dvCs (fl BDiv dL1) (SD1 Y s v1 v2 X c d q r)) [false, false, false, false, false, false, false, false, true, true, true] (toSt Tryz.prog 135 (.exit 0) [] (SD1 Y s v1 v2 X c d (q - 1) (r + v1))) :=
  mp (an (bF (decide_eq_true h1)) (an (bF (decide_eq_true h1)) (an (bF (decide_eq_true h1)) (an (bF (decide_eq_true h1)) (an (bF (decide_eq_true h1)) (an (bF (decide_eq_true h1)) (an (bF (decide_eq_true h1)) (an (bF (decide_eq_true h1)) (an (decide_eq_true h1) (an rt (an (decide_eq_true h2) (an (rr Y) (an (rr s) (an (rr v1) (an (rr v2) (an (rr X) (an (rr c) (an (rr d) (an h3 (an h4 trivial))))))))))))))))))))
theorem d1_b (Y s v1 v2 X c d q r : Int) (h1 : q ≥ 4294967296) (h2 : ¬IntKind.wrap IntKind.u64 (r + v1) ≥ 4294967296) (h3 : (IntKind.wrap IntKind.u64 (q - 1)) = (q - 1)) (h4 : (IntKind.wrap IntKind.u64 (r + v1)) = (r + v1)) :
    Tst.path (vall Tryz.prog dvCs (fl BDiv dL1) (SD1 Y s v1 v2 X c d q r)) [false, false, false, false, false, false, false, false, true, true, false] (toSt Tryz.prog 135 .normal [] (SD1 Y s v1 v2 X c d (q - 1) (r + v1))) :=
  mp (an (bF (decide_eq_true h1)) (an (bF (decide_eq_true h1)) (an (bF (decide_eq_true h1)) (an (bF (decide_eq_true h1)) (an (bF (decide_eq_true h1)) (an (bF (decide_eq_true h1)) (an (bF (decide_eq_true h1)) (an (bF (decide_eq_true h1)) (an (decide_eq_true h1) (an rt (an (decide_eq_false h2) (an (rr Y) (an (rr s) (an (rr v1) (an (rr v2) (an (rr X) (an (rr c) (an (rr d) (an h3 (an h4 trivial))))))))))))))))))))
theorem d1_c (Y s v1 v2 X c d q r : Int) (h1 : ¬q ≥ 4294967296) (h2 : IntKind.wrap IntKind.u64 (q * v2) > IntKind.wrap IntKind.u64 (IntKind.wrap IntKind.u64 ((4294967296 : Int) * r) + c)) (h3 : IntKind.wrap IntKind.u64 (r + v1) ≥ 4294967296) (h4 : (IntKind.wrap IntKind.u64 (q - 1)) = (q - 1)) (h5 : (IntKind.wrap IntKind.u64 (r + v1)) = (r + v1)) :
    Tst.path (vall Tryz.prog dvCs (fl BDiv dL1) (SD1 Y s v1 v2 X c d q r)) [true, true, true, true, true, true, true, true, false, true, true] (toSt Tryz.prog 135 (.exit 0) [] (SD1 Y s v1 v2 X c d (q - 1) (r + v1))) :=
  mp (an (bF (decide_eq_false h1)) (an (bF (decide_eq_false h1)) (an (bF (decide_eq_false h1)) (an (bF (decide_eq_false h1)) (an (bF (decide_eq_false h1)) (an (bF (decide_eq_false h1)) (an (bF (decide_eq_false h1)) (an (bF (decide_eq_false h1)) (an (decide_eq_false h1) (an (decide_eq_true h2) (an (decide_eq_true h3) (an (rr Y) (an (rr s) (an (rr v1) (an (rr v2) (an (rr X) (an (rr c) (an (rr d) (an h4 (an h5 trivial))))))))))))))))))))
theorem d1_d (Y s v1 v2 X c d q r : Int) (h1 : ¬q ≥ 4294967296) (h2 : IntKind.wrap IntKind.u64 (q * v2) > IntKind.wrap IntKind.u64 (IntKind.wrap IntKind.u64 ((4294967296 : Int) * r) + c)) (h3 : ¬IntKind.wrap IntKind.u64 (r + v1) ≥ 4294967296) (h4 : (IntKind.wrap IntKind.u64 (q - 1)) = (q - 1)) (h5 : (IntKind.wrap IntKind.u64 (r + v1)) = (r + v1)) :
    Tst.path (vall Tryz.prog dvCs (fl BDiv dL1) (SD1 Y s v1 v2 X c d q r)) [true, true, true, true, true, true, true, true, false, true, false] (toSt Tryz.prog 135 .normal [] (SD1 Y s v1 v2 X c d (q - 1) (r + v1))) :=
  mp (an (bF (decide_eq_false h1)) (an (bF (decide_eq_false h1)) (an (bF (decide_eq_false h1)) (an (bF (decide_eq_false h1)) (an (bF (decide_eq_false h1)) (an (bF (decide_eq_false h1)) (an (bF (decide_eq_false h1)) (an (bF (decide_eq_false h1)) (an (decide_eq_false h1) (an (decide_eq_true h2) (an (decide_eq_false h3) (an (rr Y) (an (rr s) (an (rr v1) (an (rr v2) (an (rr X) (an (rr c) (an (rr d) (an h4 (an h5 trivial))))))))))))))))))))
theorem d1_e (Y s v1 v2 X c d q r : Int) (h1 : ¬q ≥ 4294967296) (h2 : ¬IntKind.wrap IntKind.u64 (q * v2) > IntKind.wrap IntKind.u64 (IntKind.wrap IntKind.u64 ((4294967296 : Int) * r) + c)) :
    Tst.path (vall Tryz.prog dvCs (fl BDiv dL1) (SD1 Y s v1 v2 X c d q r)) [true, true, true, true, true, true, true, true, false, false] (toSt Tryz.prog 135 (.exit 0) [] (SD1 Y s v1 v2 X c d q r)) :=
  mp (an (bF (decide_eq_false h1)) (an (bF (decide_eq_false h1)) (an (bF (decide_eq_false h1)) (an (bF (decide_eq_false h1)) (an (bF (decide_eq_false h1)) (an (bF (decide_eq_false h1)) (an (bF (decide_eq_false h1)) (an (bF (decide_eq_false h1)) (an (decide_eq_false h1) (an (decide_eq_false h2) (an (rr Y) (an (rr s) (an (rr v1) (an (rr v2) (an (rr X) (an (rr c) (an (rr d) (an (rr q) (an (rr r) trivial)))))))))))))))))))
theorem d_mid (Y s v1 v2 X c d q r X2 q2 r2 : Int) (h1 : v1 ≠ 0) (h2 : (IntKind.wrap IntKind.u64 (IntKind.wrap IntKind.u64 (IntKind.wrap IntKind.u64 (X * (4294967296 : Int)) + c) - IntKind.wrap IntKind.u64 (q * Y))) = (X2)) (h3 : (IntKind.wrap IntKind.u64 (Int.tdiv (IntKind.wrap IntKind.u64 (IntKind.wrap IntKind.u64 (IntKind.wrap IntKind.u64 (X * (4294967296 : Int)) + c) - IntKind.wrap IntKind.u64 (q * Y))) v1)) = (q2)) (h4 : (IntKind.wrap IntKind.u64 (IntKind.wrap IntKind.u64 (IntKind.wrap IntKind.u64 (IntKind.wrap IntKind.u64 (X * (4294967296 : Int)) + c) - IntKind.wrap IntKind.u64 (q * Y)) - IntKind.wrap IntKind.u64 (IntKind.wrap IntKind.u64 (Int.tdiv (IntKind.wrap IntKind.u64 (IntKind.wrap IntKind.u64 (IntKind.wrap IntKind.u64 (X * (4294967296 : Int)) + c) - IntKind.wrap IntKind.u64 (q * Y))) v1) * v1))) = (r2)) :
    Tst.path (vrun Tryz.prog dvCs (List.drop 18 (fl BDiv [])) 3 (SD1 Y s v1 v2 X c d q r)) [] (toSt Tryz.prog 135 .normal [] (SD2 Y s v1 v2 d q X2 q2 r2)) :=
  mp (an (decide_eq_true h1) (an (rr Y) (an (rr s) (an (rr v1) (an (rr v2) (an (rr d) (an (rr q) (an h2 (an h3 (an h4 trivial))))))))))
theorem d2_a (Y s v1 v2 d p X q r : Int) (h1 : q ≥ 4294967296) (h2 : IntKind.wrap IntKind.u64 (r + v1) ≥ 4294967296) (h3 : (IntKind.wrap IntKind.u64 (q - 1)) = (q - 1)) (h4 : (IntKind.wrap IntKind.u64 (r + v1)) = (r + v1)) :
    Tst.path (vall Tryz.prog dvCs (fl BDiv dL2) (SD2 Y s v1 v2 d p X q r)) [false, false, false, false, false, false, false, false, true, true, true] (toSt Tryz.prog 135 (.exit 2) [] (SD2 Y s v1 v2 d p X (q - 1) (r + v1))) :=
  mp (an (bF (decide_eq_true h1)) (an (bF (decide_eq_true h1)) (an (bF (decide_eq_true h1)) (an (bF (decide_eq_true h1)) (an (bF (decide_eq_true h1)) (an (bF (decide_eq_true h1)) (an (bF (decide_eq_true h1)) (an (bF (decide_eq_true h1)) (an (decide_eq_true h1) (an rt (an (decide_eq_true h2) (an (rr Y) (an (rr s) (an (rr v1) (an (rr v2) (an (rr d) (an (rr p) (an (rr X) (an h3 (an h4 trivial))))))))))))))))))))
theorem d2_b (Y s v1 v2 d p X q r : Int) (h1 : q ≥ 4294967296) (h2 : ¬IntKind.wrap IntKind.u64 (r + v1) ≥ 4294967296) (h3 : (IntKind.wrap IntKind.u64 (q - 1)) = (q - 1)) (h4 : (IntKind.wrap IntKind.u64 (r + v1)) = (r + v1)) :
    Tst.path (vall Tryz.prog dvCs (fl BDiv dL2) (SD2 Y s v1 v2 d p X q r)) [false, false, false, false, false, false, false, false, true, true, false] (toSt Tryz.prog 135 .normal [] (SD2 Y s v1 v2 d p X (q - 1) (r + v1))) :=
  mp (an (bF (decide_eq_true h1)) (an (bF (decide_eq_true h1)) (an (bF (decide_eq_true h1)) (an (bF (decide_eq_true h1)) (an (bF (decide_eq_true h1)) (an (bF (decide_eq_true h1)) (an (bF (decide_eq_true h1)) (an (bF (decide_eq_true h1)) (an (decide_eq_true h1) (an rt (an (decide_eq_false h2) (an (rr Y) (an (rr s) (an (rr v1) (an (rr v2) (an (rr d) (an (rr p) (an (rr X) (an h3 (an h4 trivial))))))))))))))))))))
theorem d2_c (Y s v1 v2 d p X q r : Int) (h1 : ¬q ≥ 4294967296) (h2 : IntKind.wrap IntKind.u64 (q * v2) > IntKind.wrap IntKind.u64 (IntKind.wrap IntKind.u64 ((4294967296 : Int) * r) + d)) (h3 : IntKind.wrap IntKind.u64 (r + v1) ≥ 4294967296) (h4 : (IntKind.wrap IntKind.u64 (q - 1)) = (q - 1)) (h5 : (IntKind.wrap IntKind.u64 (r + v1)) = (r + v1)) :
    Tst.path (vall Tryz.prog dvCs (fl BDiv dL2) (SD2 Y s v1 v2 d p X q r)) [true, true, true, true, true, true, true, true, false, true, true] (toSt Tryz.prog 135 (.exit 2) [] (SD2 Y s v1 v2 d p X (q - 1) (r + v1))) :=
  mp (an (bF (decide_eq_false h1)) (an (bF (decide_eq_false h1)) (an (bF (decide_eq_false h1)) (an (bF (decide_eq_false h1)) (an (bF (decide_eq_false h1)) (an (bF (decide_eq_false h1)) (an (bF (decide_eq_false h1)) (an (bF (decide_eq_false h1)) (an (decide_eq_false h1) (an (decide_eq_true h2) (an (decide_eq_true h3) (an (rr Y) (an (rr s) (an (rr v1) (an (rr v2) (an (rr d) (an (rr p) (an (rr X) (an h4 (an h5 trivial))))))))))))))))))))
theorem d2_d (Y s v1 v2 d p X q r : Int) (h1 : ¬q ≥ 4294967296) (h2 : IntKind.wrap IntKind.u64 (q * v2) > IntKind.wrap IntKind.u64 (IntKind.wrap IntKind.u64 ((4294967296 : Int) * r) + d)) (h3 : ¬IntKind.wrap IntKind.u64 (r + v1) ≥ 4294967296) (h4 : (IntKind.wrap IntKind.u64 (q - 1)) = (q - 1)) (h5 : (IntKind.wrap IntKind.u64 (r + v1)) = (r + v1)) :
    Tst.path (vall Tryz.prog dvCs (fl BDiv dL2) (SD2 Y s v1 v2 d p X q r)) [true, true, true, true, true, true, true, true, false, true, false] (toSt Tryz.prog 135 .normal [] (SD2 Y s v1 v2 d p X (q - 1) (r + v1))) :=
  mp (an (bF (decide_eq_false h1)) (an (bF (decide_eq_false h1)) (an (bF (decide_eq_false h1)) (an (bF (decide_eq_false h1)) (an (bF (decide_eq_false h1)) (an (bF (decide_eq_false h1)) (an (bF (decide_eq_false h1)) (an (bF (decide_eq_false h1)) (an (decide_eq_false h1) (an (decide_eq_true h2) (an (decide_eq_false h3) (an (rr Y) (an (rr s) (an (rr v1) (an (rr v2) (an (rr d) (an (rr p) (an (rr X) (an h4 (an h5 trivial))))))))))))))))))))
theorem d2_e (Y s v1 v2 d p X q r : Int) (h1 : ¬q ≥ 4294967296) (h2 : ¬IntKind.wrap IntKind.u64 (q * v2) > IntKind.wrap IntKind.u64 (IntKind.wrap IntKind.u64 ((4294967296 : Int) * r) + d)) :
    Tst.path (vall Tryz.prog dvCs (fl BDiv dL2) (SD2 Y s v1 v2 d p X q r)) [true, true, true, true, true, true, true, true, false, false] (toSt Tryz.prog 135 (.exit 2) [] (SD2 Y s v1 v2 d p X q r)) :=
  mp (an (bF (decide_eq_false h1)) (an (bF (decide_eq_false h1)) (an (bF (decide_eq_false h1)) (an (bF (decide_eq_false h1)) (an (bF (decide_eq_false h1)) (an (bF (decide_eq_false h1)) (an (bF (decide_eq_false h1)) (an (bF (decide_eq_false h1)) (an (decide_eq_false h1) (an (decide_eq_false h2) (an (rr Y) (an (rr s) (an (rr v1) (an (rr v2) (an (rr d) (an (rr p) (an (rr X) (an (rr q) (an (rr r) trivial)))))))))))))))))))
theorem d_end (Y s v1 v2 d p X q r a b : Int) (h1 : (0 : Int) ≤ s) (h2 : (IntKind.wrap IntKind.u64 (IntKind.wrap IntKind.u64 (p * (4294967296 : Int)) + q)) = (a)) (h3 : (Int.fdiv (IntKind.wrap IntKind.u64 (IntKind.wrap IntKind.u64 (IntKind.wrap IntKind.u64 (X * (4294967296 : Int)) + d) - IntKind.wrap IntKind.u64 (q * Y))) ((2 : Int) ^ min (Int.toNat s) (64 : Nat))) = (b)) :
    Tst.path (vall Tryz.prog dvCs (List.drop 22 (fl BDiv [])) (SD2 Y s v1 v2 d p X q r)) [] (toRet Tryz.prog Tryz.f213 true (.tuple [uv a, uv b])) :=
  mp (an (decide_eq_true h1) (an h2 (an h3 trivial)))
def div64Q (hi lo y : Int) : Int := (hi * 18446744073709551616 + lo) / y
def div64R (hi lo y : Int) : Int := (hi * 18446744073709551616 + lo) % y
def okD (hi lo y : Int) : Bool := (decide (0 ≤ hi) && decide (hi < y)) && (okU lo && okU y)
noncomputable def cDiv64 : Ctr := { f := 213, ps := [tU, tU, tU], rs := [tU, tU], fresh := true, pre := fun d => okD d.1 d.2.1 d.2.2.1, fn := fun d => (div64Q d.1 d.2.1 d.2.2.1, (div64R d.1 d.2.1 d.2.2.1, ())) }
theorem okU_iff {x : Int} : okU x = true ↔ 0 ≤ x ∧ x < 18446744073709551616 := by
  unfold okU
  rw [Bool.and_eq_true, decide_eq_true_eq, decide_eq_true_eq]
theorem cLz_ok : cLz.Ok Tryz.prog := fun ⟨x, _⟩ h w F xs hF hG hd => by
  have h := okU_iff.1 h
  cases hd with
  | cons d1 d2 =>
    cases d2
    rw [d1.raw_eq]
    refine (Tryz.bits_LeadingZeros64 x w h.1 (by omega)).mono fun e w' ⟨h1, h2⟩ => ?_
    subst h2
    exact ⟨_, ⟨F.at', fun _ => none⟩, h1, .raw _, ⟨hF.glob, hF.all, fun b A h => by cases h⟩, (fun b A h => by cases h), Below.refl _ _⟩
theorem wrapU_mod (z : Int) : IntKind.wrap .u64 z = z % 18446744073709551616 := by
  unfold IntKind.wrap
  have e : IntKind.signed .u64 = false := rfl
  have e2 : IntKind.bits .u64 = 64 := rfl
  simp only [e, e2, Bool.false_and, Bool.false_eq_true, if_false]
  rfl
theorem andU_mask {a : Int} (h : 0 ≤ a ∧ a < 18446744073709551616) : IntKind.wrap .u64 (((BitVec.ofInt 64 a &&& BitVec.ofInt 64 4294967295).toNat : Nat) : Int) = a % 4294967296 := by
  obtain ⟨A, rfl⟩ : ∃ A : Nat, a = (A : Int) := ⟨a.toNat, by omega⟩
  have hA : A < 2 ^ 64 := by have e64 : ((2 ^ 64 : Nat) : Int) = 18446744073709551616 := rfl; rw [← e64] at h; exact Int.ofNat_lt.1 h.2
  rw [BitVec.toNat_and, BitVec.ofInt_natCast, BitVec.toNat_ofNat, Nat.mod_eq_of_lt hA]
  rw [show (BitVec.ofInt 64 4294967295).toNat = 2 ^ 32 - 1 from rfl, Nat.and_two_pow_sub_one_eq_mod]
  have : A % 2 ^ 32 < 2 ^ 32 := Nat.mod_lt _ (by decide)
  rw [wrapU (by have e : (2 : Nat) ^ 32 = 4294967296 := rfl; omega)]
  rfl
theorem orU_comm (a b : Int) : orU a b = orU b a := by unfold orU; rw [BitVec.or_comm]
theorem bitLen_zero : ∀ f : Nat, Lib.bitLenAux f 0 = 0
  | 0 => rfl
  | f + 1 => by unfold Lib.bitLenAux; rw [if_pos rfl]
theorem bitLen_spec : ∀ (f x : Nat), x < 2 ^ f → 0 < x → 2 ^ (Lib.bitLenAux f x - 1) ≤ x ∧ x < 2 ^ Lib.bitLenAux f x ∧ 1 ≤ Lib.bitLenAux f x ∧ Lib.bitLenAux f x ≤ f := by
  intro f
  induction f with
  | zero => intro x h h0; simp at h; omega
  | succ f ih =>
    intro x h h0
    unfold Lib.bitLenAux
    rw [if_neg (by omega)]
    by_cases h1 : x = 1
    · subst h1
      rw [show 1 / 2 = 0 from rfl, bitLen_zero]
      simp
    · obtain ⟨g1, g2, g3, g4⟩ := ih (x / 2) (by rw [Nat.pow_succ] at h; omega) (by omega)
      generalize Lib.bitLenAux f (x / 2) = L at *
      obtain ⟨l, rfl⟩ : ∃ l, L = l + 1 := ⟨L - 1, by omega⟩
      rw [show 1 + (l + 1) - 1 = l + 1 by omega, show 1 + (l + 1) = l + 1 + 1 by omega]
      rw [Nat.add_sub_cancel] at g1
      rw [Nat.pow_succ] at g2
      rw [Nat.pow_succ, Nat.pow_succ]
      omega
theorem lz_spec {x : Int} (h : 0 < x ∧ x < 18446744073709551616) : ∃ s : Nat, lzI x = s ∧ s ≤ 63 ∧ 9223372036854775808 ≤ x * 2 ^ s ∧ x * 2 ^ s < 18446744073709551616 := by
  obtain ⟨X, rfl⟩ : ∃ X : Nat, x = (X : Int) := ⟨x.toNat, by omega⟩
  have e64 : ((2 ^ 64 : Nat) : Int) = 18446744073709551616 := rfl
  have hX : X < 2 ^ 64 := by rw [← e64] at h; exact Int.ofNat_lt.1 h.2
  obtain ⟨g1, g2, g3, g4⟩ := bitLen_spec 64 X hX (by omega)
  refine ⟨64 - Lib.bitLenAux 64 X, ?_, by omega, ?_, ?_⟩
  · unfold lzI Lib.bitLen
    rw [Int.toNat_natCast]; omega
  · generalize Lib.bitLenAux 64 X = L at *
    have h1 : 2 ^ (L - 1) * 2 ^ (64 - L) ≤ X * 2 ^ (64 - L) := Nat.mul_le_mul_right _ g1
    rw [← Nat.pow_add, show L - 1 + (64 - L) = 63 by omega] at h1
    have e : ((X * 2 ^ (64 - L) : Nat) : Int) = (X : Int) * 2 ^ (64 - L) := by rw [Int.natCast_mul, Int.natCast_pow]; rfl
    have e63 : ((2 ^ 63 : Nat) : Int) = 9223372036854775808 := rfl
    rw [← e, ← e63]; exact Int.ofNat_le.2 h1
  · generalize Lib.bitLenAux 64 X = L at *
    have h1 : X * 2 ^ (64 - L) < 2 ^ L * 2 ^ (64 - L) := Nat.mul_lt_mul_of_pos_right g2 (Nat.pow_pos (by decide))
    rw [← Nat.pow_add, show L + (64 - L) = 64 by omega] at h1
    have e : ((X * 2 ^ (64 - L) : Nat) : Int) = (X : Int) * 2 ^ (64 - L) := by rw [Int.natCast_mul, Int.natCast_pow]; rfl
    rw [← e, ← e64]; exact Int.ofNat_lt.2 h1
section
variable {b v1 v2 X c q r : Int}
theorem dq_eq (h : q * v1 + r = X) : q * (v1 * b + v2) = X * b - r * b + q * v2 := by subst h; grind
theorem dq_stop (hY : 0 < v1 * b + v2) (h : q * v1 + r = X) (hq : (X * b + c) / (v1 * b + v2) ≤ q) (hle : q * v2 ≤ b * r + c) : (X * b + c) / (v1 * b + v2) = q := by
  have h1 : q * (v1 * b + v2) ≤ X * b + c := by rw [dq_eq h, Int.mul_comm r b]; omega
  have := (Int.le_ediv_iff_mul_le hY).2 h1
  omega
theorem dq_go (hY : 0 < v1 * b + v2) (hX : X < v1 * b + v2) (hb : 0 < b) (hc : c < b) (h : q * v1 + r = X) (hgt : b ≤ q ∨ b * r + c < q * v2) : (X * b + c) / (v1 * b + v2) ≤ q - 1 := by
  have h1 : X * b + c < q * (v1 * b + v2) := by
    rcases hgt with hgt | hgt
    · have a1 := Int.mul_le_mul_of_nonneg_right hgt (Int.le_of_lt hY)
      have a2 := Int.mul_le_mul_of_nonneg_right (show X ≤ v1 * b + v2 - 1 by omega) (Int.le_of_lt hb)
      rw [Int.sub_mul, Int.one_mul, Int.mul_comm (v1 * b + v2)] at a2
      omega
    · rw [dq_eq h, Int.mul_comm r b]; omega
  have := (Int.ediv_lt_iff_lt_mul hY).2 h1
  omega
theorem dq_far (hv1 : 0 ≤ v1) (hX : X < v1 * b + v2) (hv2 : 0 ≤ v2 ∧ v2 < b) (hc : 0 ≤ c) (h : q * v1 + r = X) (h0 : 0 ≤ q) (hr : b ≤ r) : q * v2 ≤ b * r + c := by
  have hqb : q < b := by
    refine Int.not_le.1 fun hn => ?_
    have := Int.mul_le_mul_of_nonneg_right hn hv1
    rw [Int.mul_comm b v1] at this
    omega
  have a1 : q * v2 ≤ b * b := Int.mul_le_mul (Int.le_of_lt hqb) (Int.le_of_lt hv2.2) hv2.1 (by omega)
  have a2 := Int.mul_le_mul_of_nonneg_left hr (show 0 ≤ b by omega)
  omega
end
theorem mul_lt32 {q v : Int} (h0 : 0 ≤ q) (hq : q < 4294967296) (hv : 0 ≤ v ∧ v < 4294967296) : 0 ≤ q * v ∧ q * v < 18446744073709551616 := by
  refine ⟨Int.mul_nonneg h0 hv.1, ?_⟩
  have := Int.mul_le_mul (show q ≤ 4294967295 by omega) (show v ≤ 4294967295 by omega) hv.1 (by decide)
  omega
structure DP (v1 v2 X c Y : Int) : Prop where
  y : Y = v1 * 4294967296 + v2
  v1 : 2147483648 ≤ v1 ∧ v1 < 4294967296
  v2 : 0 ≤ v2 ∧ v2 < 4294967296
  x : 0 ≤ X ∧ X < Y
  c : 0 ≤ c ∧ c < 4294967296
theorem DP.start {v1 v2 X c Y : Int} (p : DP v1 v2 X c Y) : X.tdiv v1 * v1 + (X - X.tdiv v1 * v1) = X ∧ (X * 4294967296 + c) / Y ≤ X.tdiv v1 ∧ 0 ≤ X.tdiv v1 ∧ 0 ≤ X - X.tdiv v1 * v1 ∧ X - X.tdiv v1 * v1 < 4294967296 ∧ X.tdiv v1 < 18446744073709551616 := by
  have hv := p.v1
  have hx := p.x
  have hy := p.y
  have hv2 := p.v2
  have e : X.tdiv v1 = X / v1 := Int.tdiv_eq_ediv_of_nonneg hx.1
  rw [e]
  have h1 := Int.emod_add_mul_ediv X v1
  have h2 := Int.emod_nonneg X (show v1 ≠ 0 by omega)
  have h3 := Int.emod_lt_of_pos X (show 0 < v1 by omega)
  rw [Int.mul_comm] at h1
  have h4 : 0 ≤ X / v1 := Int.ediv_nonneg hx.1 (by omega)
  have h5 : X / v1 ≤ X := Int.ediv_le_self _ hx.1
  refine ⟨by omega, ?_, h4, by omega, by omega, by omega⟩
  have hY : 0 < Y := by omega
  have hc := p.c
  have key : X * 4294967296 + c < (X / v1 + 1) * Y := by
    have a1 : (X / v1 + 1) * Y = (X / v1 * v1 + v1) * 4294967296 + (X / v1 + 1) * v2 := by rw [hy]; grind
    have a2 := Int.mul_nonneg (show 0 ≤ X / v1 + 1 by omega) hv2.1
    omega
  have := (Int.ediv_lt_iff_lt_mul hY).2 key
  omega
theorem DP.lim {v1 v2 X c Y q r : Int} (p : DP v1 v2 X c Y) (h0 : 0 ≤ q) (hq : q < 4294967296) (hr : 0 ≤ r ∧ r < 4294967296) : IntKind.wrap .u64 (q * v2) = q * v2 ∧ IntKind.wrap .u64 (IntKind.wrap .u64 (4294967296 * r) + c) = 4294967296 * r + c := by
  have hc := p.c
  exact ⟨wrapU (mul_lt32 h0 hq p.v2), by rw [wrapU (x := 4294967296 * r) (by omega), wrapU (by omega)]⟩
theorem div64_holds (hi lo y : Int) (h : okD hi lo y = true) : Holds Tryz.prog true 213 [uv hi, uv lo, uv y] (.tuple [uv (div64Q hi lo y), uv (div64R hi lo y)]) := by
  unfold okD at h
  simp only [Bool.and_eq_true, decide_eq_true_eq, okU_iff] at h
  obtain ⟨⟨hi0, hiy⟩, ⟨lo0, lo1⟩, y0, y1⟩ := h
  have hS := one_ok cLz_ok
  refine holds_fl (c := BDiv) Tryz.func213 rfl rfl fun w F => ?_
  by_cases hz : hi = 0
  · have e1 : div64Q hi lo y = lo / y := by unfold div64Q; rw [hz, Int.zero_mul, Int.zero_add]
    have e2 : div64R hi lo y = lo % y := by unfold div64R; rw [hz, Int.zero_mul, Int.zero_add]
    rw [e1, e2]
    refine GoalL.ret known mixed hS 9 _ (dv_zero hi lo y (by omega) (by omega) hz (by omega) ?_ (Int.tmod_eq_emod_of_nonneg lo0)) fun T H h => h
    rw [Int.tdiv_eq_ediv_of_nonneg lo0]
    exact wrapU ⟨Int.ediv_nonneg lo0 (by omega), by have := Int.ediv_le_self y lo0; omega⟩
  · obtain ⟨s, hs, hs63, hY0, hY1⟩ := lz_spec (x := y) (by omega)
    have hws : IntKind.wrap .u64 (lzI y) = (s : Int) := by rw [hs]; exact wrapU (by omega)
    have hws2 : IntKind.wrap .u64 (64 - (s : Int)) = ((64 - s : Nat) : Int) := by rw [wrapU (by omega)]; omega
    have hp : (0 : Int) < 2 ^ s := pow_pos' (by decide) _
    obtain ⟨l1, l2, l3, l4⟩ := word_split (x := lo) (s := s) (by omega) ⟨lo0, lo1⟩
    generalize hYe : y * 2 ^ s = Y at *
    have hhi : 0 ≤ hi * 2 ^ s ∧ hi * 2 ^ s + 2 ^ s ≤ Y := by
      refine ⟨Int.mul_nonneg hi0 (Int.le_of_lt hp), ?_⟩
      have := Int.mul_le_mul_of_nonneg_right (show hi + 1 ≤ y by omega) (Int.le_of_lt hp)
      rw [Int.add_mul, Int.one_mul] at this
      omega
    generalize hX : hi * 2 ^ s + lo / 2 ^ (64 - s) = X
    generalize hL : lo * 2 ^ s % 18446744073709551616 = L at *
    have hL1 : 0 ≤ L ∧ L < 18446744073709551616 := by rw [← hL]; exact ⟨Int.emod_nonneg _ (by decide), Int.emod_lt_of_pos _ (by decide)⟩
    have dp1 : DP (Y / 4294967296) (Y % 4294967296) X (L / 4294967296) Y := ⟨by omega, by omega, by omega, by omega, by omega⟩
    obtain ⟨k1, k2, k3, k4, k5, k6⟩ := dp1.start
    have hmin : min s 64 = s := by omega
    have hmin2 : min (64 - s) 64 = 64 - s := by omega
    have hwY : IntKind.wrap .u64 Y = Y := wrapU (by omega)
    have hfd : ∀ z : Int, Int.fdiv z (2 ^ min (Int.toNat 32) 64) = z / 4294967296 := fun z => by
      rw [show (2 : Int) ^ min (Int.toNat 32) 64 = 4294967296 from rfl]
      exact Int.fdiv_eq_ediv_of_nonneg _ (by decide)
    have hwL : IntKind.wrap .u64 (lo * 2 ^ s) = L := by rw [wrapU_mod]; exact hL
    have hwX : IntKind.wrap .u64 (((BitVec.ofInt 64 (IntKind.wrap .u64 (hi * 2 ^ s)) ||| BitVec.ofInt 64 (Int.fdiv lo (2 ^ (64 - s)))).toNat : Nat) : Int) = X := by
      rw [wrapU (x := hi * 2 ^ s) (by omega), Int.fdiv_eq_ediv_of_nonneg _ (Int.le_of_lt (pow_pos' (by decide) _))]
      show orU _ _ = _
      rw [orU_comm, orU_add (s := s) (by omega) l3 hi0 (Int.mul_comm _ _) (by omega), ← hX]
      omega
    have A : IntKind.wrap .u64 (y * 2 ^ min (Int.toNat (IntKind.wrap .u64 (lzI y))) 64) = Y := by rw [hws, Int.toNat_natCast, hmin, hYe]; exact hwY
    have B : IntKind.wrap .u64 (lo * 2 ^ min (Int.toNat (IntKind.wrap .u64 (lzI y))) 64) = L := by rw [hws, Int.toNat_natCast, hmin]; exact hwL
    have C : IntKind.wrap .u64 (((BitVec.ofInt 64 (IntKind.wrap .u64 (hi * 2 ^ min (Int.toNat (IntKind.wrap .u64 (lzI y))) 64)) ||| BitVec.ofInt 64 (Int.fdiv lo (2 ^ min (Int.toNat (IntKind.wrap .u64 (64 - IntKind.wrap .u64 (lzI y)))) 64))).toNat : Nat) : Int) = X := by
      rw [hws, hws2, Int.toNat_natCast, Int.toNat_natCast, hmin, hmin2]; exact hwX
    have hmd : ∀ z : Int, 0 ≤ z ∧ z < 18446744073709551616 → IntKind.wrap .u64 (((BitVec.ofInt 64 z &&& BitVec.ofInt 64 4294967295).toNat : Nat) : Int) = z % 4294967296 := fun z hz => andU_mask hz
    have hq1 := wrapU (x := X.tdiv (Y / 4294967296)) ⟨k3, k6⟩
    have hqm : IntKind.wrap .u64 (X.tdiv (Y / 4294967296) * (Y / 4294967296)) = X.tdiv (Y / 4294967296) * (Y / 4294967296) := wrapU (by have := dp1.v1; have := Int.mul_nonneg k3 (show 0 ≤ Y / 4294967296 by omega); omega)
    have hr1 := wrapU (x := X - X.tdiv (Y / 4294967296) * (Y / 4294967296)) (by omega)
    refine GoalL.to known mixed hS 17 _ (dv_start hi lo y Y s (Y / 4294967296) (Y % 4294967296) X (L / 4294967296) (L % 4294967296) (X.tdiv (Y / 4294967296)) (X - X.tdiv (Y / 4294967296) * (Y / 4294967296)) (by omega) (by omega) hz (okU_iff.2 ⟨y0, y1⟩)
      (by rw [hws]; omega) (by rw [hws, hws2]; omega) (by rw [A, hfd]; have := dp1.v1; omega) A hws (by rw [A, hfd]) (by rw [A]; exact hmd Y (by omega)) C (by rw [B, hfd]) (by rw [B]; exact hmd L hL1) (by rw [C, A, hfd]; exact hq1) (by rw [C, A, hfd, hq1, hqm]; exact hr1)) (by kernel_rfl) ?_
    have hN : (hi * 18446744073709551616 + lo) * 2 ^ s = (X * 4294967296 + L / 4294967296) * 4294967296 + L % 4294967296 := by
      have e1 : L = L / 4294967296 * 4294967296 + L % 4294967296 := by omega
      rw [Int.add_mul, Int.mul_right_comm, l2, ← l1, ← hX]
      omega
    generalize hv1 : Y / 4294967296 = v1 at *
    generalize hv2 : Y % 4294967296 = v2 at *
    generalize hc : L / 4294967296 = c at *
    generalize hd : L % 4294967296 = d at *
    have hd2 : 0 ≤ d ∧ d < 4294967296 := by omega
    have hYp : 0 < Y := by omega
    have hdm1 := Int.emod_add_mul_ediv (X * 4294967296 + c) Y
    have hx0 := Int.emod_nonneg (X * 4294967296 + c) (show Y ≠ 0 by omega)
    have hx1 := Int.emod_lt_of_pos (X * 4294967296 + c) hYp
    have dp2 : DP v1 v2 ((X * 4294967296 + c) % Y) d Y := ⟨dp1.y, dp1.v1, dp1.v2, ⟨hx0, hx1⟩, hd2⟩
    have rest2 : ∀ r, GoalL Tryz.prog w F 135 (List.drop 22 (fl BDiv [])) (SD2 Y s v1 v2 d ((X * 4294967296 + c) / Y) ((X * 4294967296 + c) % Y) (((X * 4294967296 + c) % Y * 4294967296 + d) / Y) r).T (SD2 Y s v1 v2 d ((X * 4294967296 + c) / Y) ((X * 4294967296 + c) % Y) (((X * 4294967296 + c) % Y * 4294967296 + d) / Y) r).H (retQ Tryz.prog true Tryz.f213 (.tuple [uv (div64Q hi lo y), uv (div64R hi lo y)])) := fun r => by
      have hdm2 := Int.emod_add_mul_ediv ((X * 4294967296 + c) % Y * 4294967296 + d) Y
      have hz0 := Int.emod_nonneg ((X * 4294967296 + c) % Y * 4294967296 + d) (show Y ≠ 0 by omega)
      have hz1 := Int.emod_lt_of_pos ((X * 4294967296 + c) % Y * 4294967296 + d) hYp
      have hq0 : 0 ≤ (X * 4294967296 + c) / Y := Int.ediv_nonneg (by have := dp1.x; have := dp1.c; omega) (by omega)
      have hq1' : (X * 4294967296 + c) / Y < 4294967296 := Int.ediv_lt_of_lt_mul hYp (by have := dp1.x; have := dp1.c; omega)
      have hp0 : 0 ≤ ((X * 4294967296 + c) % Y * 4294967296 + d) / Y := Int.ediv_nonneg (by omega) (by omega)
      have hp1 : ((X * 4294967296 + c) % Y * 4294967296 + d) / Y < 4294967296 := Int.ediv_lt_of_lt_mul hYp (by omega)
      generalize (X * 4294967296 + c) / Y = Q1 at *
      generalize (X * 4294967296 + c) % Y = X2 at *
      generalize hQ2 : (X2 * 4294967296 + d) / Y = Q2 at *
      generalize hX3 : (X2 * 4294967296 + d) % Y = X3 at *
      obtain ⟨j1, j2⟩ := div_end (A := hi * 18446744073709551616 + lo) (b := y) (V := Y) (S := 2 ^ s) (U := X3) (q := Q1 * 4294967296 + Q2) hp (by omega) hYe.symm (by rw [hN]; grind) hz0 hz1
      refine GoalL.allRet (s := SD2 Y s v1 v2 d Q1 X2 Q2 r) known mixed hS _ (d_end Y s v1 v2 d Q1 X2 Q2 r _ _ (by omega) ?_ ?_) fun T H h => h
      · rw [wrapU (x := Q1 * 4294967296) (by omega), wrapU (by omega)]
        exact j1.symm
      · rw [Int.toNat_natCast, hmin, Int.fdiv_eq_ediv_of_nonneg _ (Int.le_of_lt hp)]
        have e : IntKind.wrap .u64 (IntKind.wrap .u64 (IntKind.wrap .u64 (X2 * 4294967296) + d) - IntKind.wrap .u64 (Q2 * Y)) = X3 := by
          rw [wrapU_mod, wrapU_mod, wrapU_mod, wrapU_mod]
          rw [Int.mul_comm Y] at hdm2
          generalize Q2 * Y = P at *
          omega
        rw [e, j2, Int.mul_ediv_cancel_left _ (by omega)]
        rfl
    have rest1 : ∀ r, GoalL Tryz.prog w F 135 (List.drop 18 (fl BDiv [])) (SD1 Y s v1 v2 X c d ((X * 4294967296 + c) / Y) r).T (SD1 Y s v1 v2 X c d ((X * 4294967296 + c) / Y) r).H (retQ Tryz.prog true Tryz.f213 (.tuple [uv (div64Q hi lo y), uv (div64R hi lo y)])) := fun r => by
      obtain ⟨n1, n2, n3, n4, n5, n6⟩ := dp2.start
      have e : IntKind.wrap .u64 (IntKind.wrap .u64 (IntKind.wrap .u64 (X * 4294967296) + c) - IntKind.wrap .u64 ((X * 4294967296 + c) / Y * Y)) = (X * 4294967296 + c) % Y := by
        rw [wrapU_mod, wrapU_mod, wrapU_mod, wrapU_mod]
        rw [Int.mul_comm Y] at hdm1
        generalize (X * 4294967296 + c) / Y * Y = P at *
        omega
      have m1 := wrapU (x := ((X * 4294967296 + c) % Y).tdiv v1) ⟨n3, n6⟩
      have m2 : IntKind.wrap .u64 (((X * 4294967296 + c) % Y).tdiv v1 * v1) = ((X * 4294967296 + c) % Y).tdiv v1 * v1 := wrapU (by have := dp1.v1; have := Int.mul_nonneg n3 (show 0 ≤ v1 by omega); omega)
      refine GoalL.st (s := SD1 Y s v1 v2 X c d ((X * 4294967296 + c) / Y) r) known mixed hS 3 _ (d_mid Y s v1 v2 X c d ((X * 4294967296 + c) / Y) r ((X * 4294967296 + c) % Y) (((X * 4294967296 + c) % Y).tdiv v1) ((X * 4294967296 + c) % Y - ((X * 4294967296 + c) % Y).tdiv v1 * v1) (by have := dp1.v1; omega) e (by rw [e]; exact m1) (by rw [e, m1, m2]; exact wrapU (by omega))) (by kernel_rfl) ?_
      generalize (X * 4294967296 + c) % Y = X2 at *
      refine GoalL.loop (ι := { p : Int × Int // p.1 * v1 + p.2 = X2 ∧ (X2 * 4294967296 + d) / Y ≤ p.1 ∧ 0 ≤ p.1 ∧ 0 ≤ p.2 ∧ p.2 < 4294967296 ∧ p.1 < 18446744073709551616 }) (id := 2) (b := cat BDiv dL2) (rest := List.drop 22 (fl BDiv [])) (by kernel_rfl) (fun p => SD2 Y s v1 v2 d ((X * 4294967296 + c) / Y) X2 p.1.1 p.1.2) (fun p => p.1.1.toNat) ⟨(X2.tdiv v1, X2 - X2.tdiv v1 * v1), n1, n2, n3, n4, n5, n6⟩ (fun _ => rfl) ?_
      rintro ⟨⟨q, r⟩, a1, a2, a3, a4, a5, a6⟩
      have a1 : q * v1 + r = X2 := a1
      have a2 : (X2 * 4294967296 + d) / Y ≤ q := a2
      have a3 : 0 ≤ q := a3
      have a4 : 0 ≤ r := a4
      have a5 : r < 4294967296 := a5
      have a6 : q < 18446744073709551616 := a6
      have hgo : (4294967296 ≤ q ∨ 4294967296 * r + d < q * v2) → (X2 * 4294967296 + d) / Y ≤ q - 1 := fun hg => by
        have := dp2.y
        subst this
        exact dq_go hYp dp2.x.2 (by decide) hd2.2 a1 hg
      have hp0 : 0 ≤ (X2 * 4294967296 + d) / Y := Int.ediv_nonneg (by have := dp2.x; omega) (by omega)
      have hw1 := wrapU (x := r + v1) (by have := dp1.v1; omega)
      have hexit : (4294967296 ≤ q ∨ 4294967296 * r + d < q * v2) → 4294967296 ≤ r + v1 → q - 1 = (X2 * 4294967296 + d) / Y := fun hg hr => by
        have g1 := hgo hg
        have e1 : (q - 1) * v1 + (r + v1) = X2 := by rw [Int.sub_mul, Int.one_mul]; omega
        have hf := dq_far (by have := dp1.v1; omega) (by have := dp2.x; have := dp2.y; omega) dp2.v2 hd2.1 e1 (by omega) hr
        have := dp2.y
        subst this
        exact (dq_stop hYp e1 g1 hf).symm
      by_cases hqb : q ≥ 4294967296
      · have hw2 := wrapU (x := q - 1) (by omega)
        by_cases hrb : r + v1 ≥ 4294967296
        · refine GoalL.all (s := SD2 Y s v1 v2 d ((X * 4294967296 + c) / Y) X2 q r) known mixed hS _ (d2_a Y s v1 v2 d _ X2 q r hqb (by rw [hw1]; exact hrb) hw2 hw1) (by kernel_rfl) ?_
          refine onN_exit (inB_exit ?_)
          rw [hexit (.inl hqb) hrb]
          exact rest2 _
        · refine GoalL.all (s := SD2 Y s v1 v2 d ((X * 4294967296 + c) / Y) X2 q r) known mixed hS _ (d2_b Y s v1 v2 d _ X2 q r hqb (by rw [hw1]; exact hrb) hw2 hw1) (by kernel_rfl) ?_
          exact ⟨⟨(q - 1, r + v1), by show (q - 1) * v1 + (r + v1) = X2; rw [Int.sub_mul, Int.one_mul]; omega, hgo (.inl hqb), by show 0 ≤ q - 1; omega, by show 0 ≤ r + v1; have := dp1.v1; omega, by show r + v1 < _; omega, by show q - 1 < _; omega⟩, by show (q - 1).toNat < q.toNat; omega, rfl, rfl⟩
      · obtain ⟨w1, w2⟩ := dp2.lim a3 (by omega) ⟨a4, a5⟩
        by_cases hgt : 4294967296 * r + d < q * v2
        · have hq1 : 1 ≤ q := by
            by_cases hq0 : q = 0
            · rw [hq0, Int.zero_mul] at hgt; omega
            · omega
          have hw2 := wrapU (x := q - 1) (by omega)
          by_cases hrb : r + v1 ≥ 4294967296
          · refine GoalL.all (s := SD2 Y s v1 v2 d ((X * 4294967296 + c) / Y) X2 q r) known mixed hS _ (d2_c Y s v1 v2 d _ X2 q r hqb (by rw [w1, w2]; exact hgt) (by rw [hw1]; exact hrb) hw2 hw1) (by kernel_rfl) ?_
            refine onN_exit (inB_exit ?_)
            rw [hexit (.inr hgt) hrb]
            exact rest2 _
          · refine GoalL.all (s := SD2 Y s v1 v2 d ((X * 4294967296 + c) / Y) X2 q r) known mixed hS _ (d2_d Y s v1 v2 d _ X2 q r hqb (by rw [w1, w2]; exact hgt) (by rw [hw1]; exact hrb) hw2 hw1) (by kernel_rfl) ?_
            exact ⟨⟨(q - 1, r + v1), by show (q - 1) * v1 + (r + v1) = X2; rw [Int.sub_mul, Int.one_mul]; omega, hgo (.inr hgt), by show 0 ≤ q - 1; omega, by show 0 ≤ r + v1; have := dp1.v1; omega, by show r + v1 < _; omega, by show q - 1 < _; omega⟩, by show (q - 1).toNat < q.toNat; omega, rfl, rfl⟩
        · refine GoalL.all (s := SD2 Y s v1 v2 d ((X * 4294967296 + c) / Y) X2 q r) known mixed hS _ (d2_e Y s v1 v2 d _ X2 q r hqb (by rw [w1, w2]; exact hgt)) (by kernel_rfl) ?_
          refine onN_exit (inB_exit ?_)
          have e1 : (X2 * 4294967296 + d) / Y = q := by
            have := dp2.y
            subst this
            exact dq_stop hYp a1 a2 (by omega)
          rw [← e1]
          exact rest2 _
    refine GoalL.loop (ι := { p : Int × Int // p.1 * v1 + p.2 = X ∧ (X * 4294967296 + c) / Y ≤ p.1 ∧ 0 ≤ p.1 ∧ 0 ≤ p.2 ∧ p.2 < 4294967296 ∧ p.1 < 18446744073709551616 }) (id := 0) (b := cat BDiv dL1) (rest := List.drop 18 (fl BDiv [])) (by kernel_rfl) (fun p => SD1 Y s v1 v2 X c d p.1.1 p.1.2) (fun p => p.1.1.toNat) ⟨(X.tdiv v1, X - X.tdiv v1 * v1), k1, k2, k3, k4, k5, k6⟩ (fun _ => rfl) ?_
    rintro ⟨⟨q, r⟩, a1, a2, a3, a4, a5, a6⟩
    have a1 : q * v1 + r = X := a1
    have a2 : (X * 4294967296 + c) / Y ≤ q := a2
    have a3 : 0 ≤ q := a3
    have a4 : 0 ≤ r := a4
    have a5 : r < 4294967296 := a5
    have a6 : q < 18446744073709551616 := a6
    have hgo : (4294967296 ≤ q ∨ 4294967296 * r + c < q * v2) → (X * 4294967296 + c) / Y ≤ q - 1 := fun hg => by
      have := dp1.y
      subst this
      exact dq_go hYp dp1.x.2 (by decide) dp1.c.2 a1 hg
    have hp0 : 0 ≤ (X * 4294967296 + c) / Y := Int.ediv_nonneg (by have := dp1.x; have := dp1.c; omega) (by omega)
    have hw1 := wrapU (x := r + v1) (by have := dp1.v1; omega)
    have hexit : (4294967296 ≤ q ∨ 4294967296 * r + c < q * v2) → 4294967296 ≤ r + v1 → q - 1 = (X * 4294967296 + c) / Y := fun hg hr => by
      have g1 := hgo hg
      have e1 : (q - 1) * v1 + (r + v1) = X := by rw [Int.sub_mul, Int.one_mul]; omega
      have hf := dq_far (by have := dp1.v1; omega) (by have := dp1.x; have := dp1.y; omega) dp1.v2 dp1.c.1 e1 (by omega) hr
      have := dp1.y
      subst this
      exact (dq_stop hYp e1 g1 hf).symm
    by_cases hqb : q ≥ 4294967296
    · have hw2 := wrapU (x := q - 1) (by omega)
      by_cases hrb : r + v1 ≥ 4294967296
      · refine GoalL.all (s := SD1 Y s v1 v2 X c d q r) known mixed hS _ (d1_a Y s v1 v2 X c d q r hqb (by rw [hw1]; exact hrb) hw2 hw1) (by kernel_rfl) ?_
        refine onN_exit (inB_exit ?_)
        rw [hexit (.inl hqb) hrb]
        exact rest1 _
      · refine GoalL.all (s := SD1 Y s v1 v2 X c d q r) known mixed hS _ (d1_b Y s v1 v2 X c d q r hqb (by rw [hw1]; exact hrb) hw2 hw1) (by kernel_rfl) ?_
        exact ⟨⟨(q - 1, r + v1), by show (q - 1) * v1 + (r + v1) = X; rw [Int.sub_mul, Int.one_mul]; omega, hgo (.inl hqb), by show 0 ≤ q - 1; omega, by show 0 ≤ r + v1; have := dp1.v1; omega, by show r + v1 < _; omega, by show q - 1 < _; omega⟩, by show (q - 1).toNat < q.toNat; omega, rfl, rfl⟩
    · obtain ⟨w1, w2⟩ := dp1.lim a3 (by omega) ⟨a4, a5⟩
      by_cases hgt : 4294967296 * r + c < q * v2
      · have hq1 : 1 ≤ q := by
          by_cases hq0 : q = 0
          · rw [hq0, Int.zero_mul] at hgt; omega
          · omega
        have hw2 := wrapU (x := q - 1) (by omega)
        by_cases hrb : r + v1 ≥ 4294967296
        · refine GoalL.all (s := SD1 Y s v1 v2 X c d q r) known mixed hS _ (d1_c Y s v1 v2 X c d q r hqb (by rw [w1, w2]; exact hgt) (by rw [hw1]; exact hrb) hw2 hw1) (by kernel_rfl) ?_
          refine onN_exit (inB_exit ?_)
          rw [hexit (.inr hgt) hrb]
          exact rest1 _
        · refine GoalL.all (s := SD1 Y s v1 v2 X c d q r) known mixed hS _ (d1_d Y s v1 v2 X c d q r hqb (by rw [w1, w2]; exact hgt) (by rw [hw1]; exact hrb) hw2 hw1) (by kernel_rfl) ?_
          exact ⟨⟨(q - 1, r + v1), by show (q - 1) * v1 + (r + v1) = X; rw [Int.sub_mul, Int.one_mul]; omega, hgo (.inr hgt), by show 0 ≤ q - 1; omega, by show 0 ≤ r + v1; have := dp1.v1; omega, by show r + v1 < _; omega, by show q - 1 < _; omega⟩, by show (q - 1).toNat < q.toNat; omega, rfl, rfl⟩
      · refine GoalL.all (s := SD1 Y s v1 v2 X c d q r) known mixed hS _ (d1_e Y s v1 v2 X c d q r hqb (by rw [w1, w2]; exact hgt)) (by kernel_rfl) ?_
        refine onN_exit (inB_exit ?_)
        have e1 : (X * 4294967296 + c) / Y = q := by
          have := dp1.y
          subst this
          exact dq_stop hYp a1 a2 (by omega)
        rw [← e1]
        exact rest1 _
theorem cDiv64_ok : cDiv64.Ok Tryz.prog := fun ⟨hi, lo, y, _⟩ h => div64_holds hi lo y h
end
end Go.Proofs.YtjcbbabaabcdgaaGreatDoor
/- Package num: a list of words shifted up. -/
namespace Go.Proofs.YtjcbbabaabcdgaaGreatDoor
open Go.RowKit Sv
set_option maxRecDepth 100000
set_option linter.unusedVariables false
noncomputable section
def shlU (x s : Int) : Int := IntKind.wrap .u64 (x * 2 ^ min (Int.toNat s) 64)
def shrU (x s : Int) : Int := Int.fdiv x (2 ^ min (Int.toNat s) 64)
noncomputable def BShUp : Code := (Tryz.f215.body).getD .skip
abbrev suL : List Nat := [1, 1, 0, 1, 0, 0]
def SSu (w out : List Int) (s : Int) (i : Nat) : St := { n := 40, sl := [(0, lu w), (1, iv s), (5, obU 64 out), (12, lu w), (13, iv w.length), (14, iv i)], en := [(64, oeU out)], next := 65 }
theorem su_start (w : List Int) (s : Int) (h1 : -9223372036854775808 ≤ (↑w.length : Int) + 1 ∧ (↑w.length : Int) + 1 ≤ 9223372036854775807) (h2 : Int.toNat ((↑w.length : Int) + 1) ≤ 1000000) (h3 : (Int.toNat ((↑w.length : Int) + 1)) = (zerW (w.length + (1 : Nat))).length) (h4 : (Cap.known (Int.toNat ((↑w.length : Int) + 1))) = (Cap.known (w.length + (1 : Nat)))) (h5 : (capOf (zerW (w.length + (1 : Nat))).length) = (capOf (w.length + (1 : Nat)))) (h6 : (List.flatten (List.replicate (Int.toNat ((↑w.length : Int) + 1)) (List.map AV.raw (Array.toList #[Value.int .u64 (0 : Int)])))) = (List.flatMap (fun x => [AV.raw (Value.int .u64 x)]) (zerW (w.length + (1 : Nat))))) (h7 : (w.length + (1 : Nat)) = (zerW (w.length + (1 : Nat))).length) :
    Tst.path (vrun0 Tryz.prog (ctrs []) (fl BShUp []) 3 40 [lu w, iv s]) [] (toSt Tryz.prog 40 .normal [(64, 64, some (w.length + 1))] (SSu w (zerW (w.length + 1)) s 0)) :=
  mp (an (fits_i64 h1) (an (show (decide ((0 : Int) ≤ (↑w.length : Int) + 1)) = true from decide_eq_true (by omega)) (an (show (decide ((0 : Int) ≤ (↑w.length : Int) + 1)) = true from decide_eq_true (by omega)) (an (show (decide (Int.toNat ((↑w.length : Int) + 1) ≤ Int.toNat ((↑w.length : Int) + 1))) = true from decide_eq_true (by omega)) (an (show (bounded (Int.toNat ((↑w.length : Int) + 1)) (8 : Nat)) = true from bounded_of h2 (by omega)) (an (rr w) (an (rr s) (an (an h3 (an h4 h5)) (an (rr w) (an (rr ((↑w.length : Int))) (an (rr ((0 : Int))) (an (an h6 h7) trivial))))))))))))
theorem su_two (w out : List Int) (s : Int) (i : Nat) (h1 : (↑i : Int) < (↑w.length : Int)) (h2 : i < w.length) (h3 : i < out.length) (h4 : (0 : Int) ≤ s) (h5 : s > 0) (h6 : -9223372036854775808 ≤ (↑i : Int) + 1 ∧ (↑i : Int) + 1 ≤ 9223372036854775807) (h7 : -9223372036854775808 ≤ 64 - s ∧ (64 : Int) - s ≤ 9223372036854775807) (h8 : (0 : Int) ≤ 64 - s) (h9 : Int.toNat ((↑i : Int) + 1) < out.length) (h10 : (ownHas 168 tU (some (ABlk.own 168 (.int .u64) (List.set out i (IntKind.wrap IntKind.u64 (↑(BitVec.toNat (BitVec.ofInt (64 : Nat) (List.getD out i (0 : Int)) ||| BitVec.ofInt (64 : Nat) (IntKind.wrap IntKind.u64 (List.getD w i (0 : Int) * (2 : Int) ^ min (Int.toNat s) (64 : Nat))))) : Int))))) (Int.toNat ((↑i : Int) + 1))) = true) (h11 : out.length = (List.set (List.set out i (orU (List.getD out i (0 : Int)) (shlU (List.getD w i (0 : Int)) s))) (i + (1 : Nat)) (shrU (List.getD w i (0 : Int)) ((64 : Int) - s))).length) (h12 : (capOf out.length) = (capOf (List.set (List.set out i (orU (List.getD out i (0 : Int)) (shlU (List.getD w i (0 : Int)) s))) (i + (1 : Nat)) (shrU (List.getD w i (0 : Int)) ((64 : Int) - s))).length)) (h13 : (List.set (List.set out i (IntKind.wrap IntKind.u64 (↑(BitVec.toNat (BitVec.ofInt (64 : Nat) (List.getD out i (0 : Int)) ||| BitVec.ofInt (64 : Nat) (IntKind.wrap IntKind.u64 (List.getD w i (0 : Int) * (2 : Int) ^ min (Int.toNat s) (64 : Nat))))) : Int))) (Int.toNat ((↑i : Int) + 1)) (Int.fdiv (List.getD w i (0 : Int)) ((2 : Int) ^ min (Int.toNat ((64 : Int) - s)) (64 : Nat)))) = (List.set (List.set out i (orU (List.getD out i (0 : Int)) (shlU (List.getD w i (0 : Int)) s))) (i + (1 : Nat)) (shrU (List.getD w i (0 : Int)) ((64 : Int) - s)))) :
    Tst.path (vall Tryz.prog (ctrs []) (fl BShUp suL) (SSu w out s i)) [true, true] (toSt Tryz.prog 40 .normal [(64, 64, none)] (SSu w ((out.set i (orU (out.getD i 0) (shlU (w.getD i 0) s))).set (i + 1) (shrU (w.getD i 0) (64 - s))) s (i + 1))) :=
  mp (an (decide_eq_true h1) (an (show (decide ((0 : Int) ≤ (↑i : Int))) = true from decide_eq_true (by omega)) (an (decide_eq_true h2) (an (show (decide ((0 : Int) ≤ (↑i : Int))) = true from decide_eq_true (by omega)) (an (decide_eq_true h3) (an (show (ownHas 168 tU (optOwn (nat_lit 168) tU out) ((0 : Nat) + i)) = true from (by simp only [Nat.zero_add] <;> exact (show (ownHas 168 tU (optOwn (nat_lit 168) tU out) i) = true from (by rw [ownHas_optOwn]; exact decide_eq_true h3)))) (an (show (ownHas 168 tU (optOwn (nat_lit 168) tU out) ((0 : Nat) + i)) = true from (by simp only [Nat.zero_add] <;> exact (show (ownHas 168 tU (optOwn (nat_lit 168) tU out) i) = true from (by rw [ownHas_optOwn]; exact decide_eq_true h3)))) (an (sr (AV.raw (Value.int .u64 (List.getD (blkXs tU (optOwn (nat_lit 168) tU out)) ((0 : Nat) + i) (0 : Int))))) (an (decide_eq_true h4) (an (show (decide ((0 : Int) ≤ (↑i : Int))) = true from decide_eq_true (by omega)) (an (decide_eq_true h3) (an (show (ownHas 168 tU (optOwn (nat_lit 168) tU out) ((0 : Nat) + i)) = true from (by simp only [Nat.zero_add] <;> exact (show (ownHas 168 tU (optOwn (nat_lit 168) tU out) i) = true from (by rw [ownHas_optOwn]; exact decide_eq_true h3)))) (an (decide_eq_true h5) (an (fits_i64 h6) (an (fits_i64 h7) (an (decide_eq_true h8) (an (show (decide ((0 : Int) ≤ (↑i : Int) + 1)) = true from decide_eq_true (by omega)) (an (decide_eq_true h9) (an (show (ownHas 168 tU (some (ABlk.own 168 (.int .u64) (List.set (blkXs tU (optOwn (nat_lit 168) tU out)) ((0 : Nat) + i) (IntKind.wrap IntKind.u64 (↑(BitVec.toNat (BitVec.ofInt (64 : Nat) (List.getD (blkXs tU (optOwn (nat_lit 168) tU out)) ((0 : Nat) + i) (0 : Int)) ||| BitVec.ofInt (64 : Nat) (IntKind.wrap IntKind.u64 (List.getD w i (0 : Int) * (2 : Int) ^ min (Int.toNat s) (64 : Nat))))) : Int))))) ((0 : Nat) + Int.toNat ((↑i : Int) + 1))) = true from (by simp only [blkXs_optOwn, Nat.zero_add] <;> exact (show (ownHas 168 tU (some (ABlk.own 168 (.int .u64) (List.set out i (IntKind.wrap IntKind.u64 (↑(BitVec.toNat (BitVec.ofInt (64 : Nat) (List.getD out i (0 : Int)) ||| BitVec.ofInt (64 : Nat) (IntKind.wrap IntKind.u64 (List.getD w i (0 : Int) * (2 : Int) ^ min (Int.toNat s) (64 : Nat))))) : Int))))) (Int.toNat ((↑i : Int) + 1))) = true from h10))) (an (fits_i64 h6) (an (rr w) (an (rr s) (an (an (rr ((0 : Nat))) (an h11 h12)) (an (rr w) (an (rr ((↑w.length : Int))) (an (show ((↑i : Int) + 1) = ((↑(i + (1 : Nat)) : Int)) from (by omega)) (an (show (List.set (List.set (blkXs tU (optOwn (nat_lit 168) tU out)) ((0 : Nat) + i) (IntKind.wrap IntKind.u64 (↑(BitVec.toNat (BitVec.ofInt (64 : Nat) (List.getD (blkXs tU (optOwn (nat_lit 168) tU out)) ((0 : Nat) + i) (0 : Int)) ||| BitVec.ofInt (64 : Nat) (IntKind.wrap IntKind.u64 (List.getD w i (0 : Int) * (2 : Int) ^ min (Int.toNat s) (64 : Nat))))) : Int))) ((0 : Nat) + Int.toNat ((↑i : Int) + 1)) (Int.fdiv (List.getD w i (0 : Int)) ((2 : Int) ^ min (Int.toNat ((64 : Int) - s)) (64 : Nat)))) = (List.set (List.set out i (orU (List.getD out i (0 : Int)) (shlU (List.getD w i (0 : Int)) s))) (i + (1 : Nat)) (shrU (List.getD w i (0 : Int)) ((64 : Int) - s))) from (by simp only [blkXs_optOwn, Nat.zero_add] <;> exact h13)) trivial)))))))))))))))))))))))))))
theorem su_one (w out : List Int) (s : Int) (i : Nat) (h1 : (↑i : Int) < (↑w.length : Int)) (h2 : i < w.length) (h3 : i < out.length) (h4 : (0 : Int) ≤ s) (h5 : ¬s > 0) (h6 : -9223372036854775808 ≤ (↑i : Int) + 1 ∧ (↑i : Int) + 1 ≤ 9223372036854775807) (h7 : out.length = (List.set out i (orU (List.getD out i (0 : Int)) (shlU (List.getD w i (0 : Int)) s))).length) (h8 : (capOf out.length) = (capOf (List.set out i (orU (List.getD out i (0 : Int)) (shlU (List.getD w i (0 : Int)) s))).length)) (h9 : (List.set out i (IntKind.wrap IntKind.u64 (↑(BitVec.toNat (BitVec.ofInt (64 : Nat) (List.getD out i (0 : Int)) ||| BitVec.ofInt (64 : Nat) (IntKind.wrap IntKind.u64 (List.getD w i (0 : Int) * (2 : Int) ^ min (Int.toNat s) (64 : Nat))))) : Int))) = (List.set out i (orU (List.getD out i (0 : Int)) (shlU (List.getD w i (0 : Int)) s)))) :
    Tst.path (vall Tryz.prog (ctrs []) (fl BShUp suL) (SSu w out s i)) [true, false] (toSt Tryz.prog 40 .normal [(64, 64, none)] (SSu w (out.set i (orU (out.getD i 0) (shlU (w.getD i 0) s))) s (i + 1))) :=
  mp (an (decide_eq_true h1) (an (show (decide ((0 : Int) ≤ (↑i : Int))) = true from decide_eq_true (by omega)) (an (decide_eq_true h2) (an (show (decide ((0 : Int) ≤ (↑i : Int))) = true from decide_eq_true (by omega)) (an (decide_eq_true h3) (an (show (ownHas 168 tU (optOwn (nat_lit 168) tU out) ((0 : Nat) + i)) = true from (by simp only [Nat.zero_add] <;> exact (show (ownHas 168 tU (optOwn (nat_lit 168) tU out) i) = true from (by rw [ownHas_optOwn]; exact decide_eq_true h3)))) (an (show (ownHas 168 tU (optOwn (nat_lit 168) tU out) ((0 : Nat) + i)) = true from (by simp only [Nat.zero_add] <;> exact (show (ownHas 168 tU (optOwn (nat_lit 168) tU out) i) = true from (by rw [ownHas_optOwn]; exact decide_eq_true h3)))) (an (sr (AV.raw (Value.int .u64 (List.getD (blkXs tU (optOwn (nat_lit 168) tU out)) ((0 : Nat) + i) (0 : Int))))) (an (decide_eq_true h4) (an (show (decide ((0 : Int) ≤ (↑i : Int))) = true from decide_eq_true (by omega)) (an (decide_eq_true h3) (an (show (ownHas 168 tU (optOwn (nat_lit 168) tU out) ((0 : Nat) + i)) = true from (by simp only [Nat.zero_add] <;> exact (show (ownHas 168 tU (optOwn (nat_lit 168) tU out) i) = true from (by rw [ownHas_optOwn]; exact decide_eq_true h3)))) (an (decide_eq_false h5) (an (fits_i64 h6) (an (rr w) (an (rr s) (an (an (rr ((0 : Nat))) (an h7 h8)) (an (rr w) (an (rr ((↑w.length : Int))) (an (show ((↑i : Int) + 1) = ((↑(i + (1 : Nat)) : Int)) from (by omega)) (an (show (List.set (blkXs tU (optOwn (nat_lit 168) tU out)) ((0 : Nat) + i) (IntKind.wrap IntKind.u64 (↑(BitVec.toNat (BitVec.ofInt (64 : Nat) (List.getD (blkXs tU (optOwn (nat_lit 168) tU out)) ((0 : Nat) + i) (0 : Int)) ||| BitVec.ofInt (64 : Nat) (IntKind.wrap IntKind.u64 (List.getD w i (0 : Int) * (2 : Int) ^ min (Int.toNat s) (64 : Nat))))) : Int))) = (List.set out i (orU (List.getD out i (0 : Int)) (shlU (List.getD w i (0 : Int)) s))) from (by simp only [blkXs_optOwn, Nat.zero_add] <;> exact h9)) trivial)))))))))))))))))))))
theorem su_end (w out : List Int) (s : Int) (i : Nat) (h1 : ¬(↑i : Int) < (↑w.length : Int)) :
    Tst.path (vall Tryz.prog (ctrs []) (fl BShUp suL) (SSu w out s i)) [false] (toSt Tryz.prog 40 (.exit 0) [(64, 64, none)] (SSu w out s i)) :=
  mp (an (decide_eq_false h1) (an (rr w) (an (rr s) (an (an (rr ((0 : Nat))) (an (rr out.length) (rr (capOf out.length)))) (an (rr w) (an (rr ((↑w.length : Int))) (an (rr ((↑i : Int))) (an (show (fitOpt Tryz.prog none (optOwn (nat_lit 168) tU out) (nat_lit 168) tU out) from (fitOpt_refl _ _ _ _)) trivial))))))))
theorem su_ret (w : List Int) (x : Int) (l : List Int) (s : Int) (i : Nat) (h1 : (capOf (x :: l).length) = (Cap.full)) :
    Tst.path (vall Tryz.prog (ctrs []) (List.drop 4 (fl BShUp [])) (SSu w (x :: l) s i)) [] (toRetO Tryz.prog Tryz.f215 168 tU (x :: l)) :=
  mp (an (rr (x :: l).length) (an h1 (rr (x :: l))))
def shW (w : List Int) (s : Int) : List Int := padD 18446744073709551616 (w.length + 1) (vw w * 2 ^ s.toNat)
def okS (w : List Int) (s : Int) : Bool := dgB w && (decide (w.length ≤ 400000) && (decide (0 ≤ s) && decide (s < 64)))
noncomputable def oShUp : OCtr := { f := 215, e := 168, t := tU, ps := [.list false tU, .int .i64], pre := fun d => okS d.1 d.2.1, out := fun d => shW d.1 d.2.1 }
theorem shl_eq {x : Int} {s : Nat} (hs : s ≤ 64) (hx : 0 ≤ x ∧ x < 18446744073709551616) : shlU x s = 2 ^ s * (x % 2 ^ (64 - s)) := by
  unfold shlU
  rw [Int.toNat_natCast, Nat.min_eq_left hs, wrapU_mod]
  exact (word_split hs hx).1
theorem shr_eq {x : Int} {s : Nat} (hs : s ≤ 64) (hx : 0 ≤ x) : shrU x s = x / 2 ^ s := by
  unfold shrU
  rw [Int.toNat_natCast, Nat.min_eq_left hs]
  exact Int.fdiv_eq_ediv_of_nonneg _ (Int.le_of_lt (pow_pos' (by decide) _))
theorem set_get {l : List Int} {i : Nat} (j : Nat) {d : Int} : (l.set i d).getD j 0 = if i = j ∧ i < l.length then d else l.getD j 0 := by
  simp only [List.getD_eq_getElem?_getD, List.getElem?_set]
  by_cases h : i = j
  · subst h
    by_cases hl : i < l.length
    · simp [hl]
    · simp [hl]
  · simp [h]
theorem set_same {l : List Int} {i : Nat} (h : i < l.length) : l.set i (l.getD i 0) = l := by
  rw [dg_getD h]; exact List.set_getElem_self h
structure SuI (w : List Int) (s : Nat) (out : List Int) (i : Nat) : Prop where
  le : i ≤ w.length
  len : out.length = w.length + 1
  dg : Dg 18446744073709551616 out
  low : out.getD i 0 < 2 ^ s
  zero : ∀ k, i < k → out.getD k 0 = 0
  val : vw (out.take i) + 18446744073709551616 ^ i * out.getD i 0 = vw (w.take i) * 2 ^ s
theorem su_next {w : List Int} (hw : Dg 18446744073709551616 w) {s : Nat} (hs : s ≤ 63) {out : List Int} {i : Nat} (I : SuI w s out i) (hi : i < w.length) :
    SuI w s ((out.set i (orU (out.getD i 0) (shlU (w.getD i 0) s))).set (i + 1) (w.getD i 0 / 2 ^ (64 - s))) (i + 1) := by
  have hx := hw.get (by decide) i
  have ho := I.dg.get (by decide) i
  obtain ⟨l1, l2, l3, l4⟩ := word_split (s := s) (by omega) hx
  have hlen := I.len
  have hp : (0 : Int) < 2 ^ s := pow_pos' (by decide) _
  have hlt : 2 ^ s * (w.getD i 0 % 2 ^ (64 - s)) < 18446744073709551616 := by rw [← l1]; exact Int.emod_lt_of_pos _ (by decide)
  have hor : orU (out.getD i 0) (shlU (w.getD i 0) s) = out.getD i 0 + 2 ^ s * (w.getD i 0 % 2 ^ (64 - s)) := by
    rw [shl_eq (by omega) hx]
    exact orU_add (by omega) ⟨ho.1, I.low⟩ l4.1 rfl hlt
  have h64 : (2 : Int) ^ s * 2 ^ (64 - s) = 18446744073709551616 := by rw [← Int.pow_add, show s + (64 - s) = 64 by omega]; rfl
  have hor2 : 0 ≤ out.getD i 0 + 2 ^ s * (w.getD i 0 % 2 ^ (64 - s)) ∧ out.getD i 0 + 2 ^ s * (w.getD i 0 % 2 ^ (64 - s)) < 18446744073709551616 := by
    have h1 := Int.mul_nonneg (Int.le_of_lt hp) l4.1
    have h2 := Int.mul_le_mul_of_nonneg_left (show w.getD i 0 % 2 ^ (64 - s) + 1 ≤ 2 ^ (64 - s) by omega) (Int.le_of_lt hp)
    rw [h64, Int.mul_add, Int.mul_one] at h2
    have := I.low
    omega
  have hh : 0 ≤ w.getD i 0 / 2 ^ (64 - s) ∧ w.getD i 0 / 2 ^ (64 - s) < 18446744073709551616 := by
    have : (2 : Int) ^ s ≤ 2 ^ 64 := pow_le_pow' (by decide) (by omega)
    have e : (2 : Int) ^ 64 = 18446744073709551616 := rfl
    omega
  rw [hor]
  refine ⟨hi, by simp [hlen], (I.dg.set hor2).set hh, ?_, fun k hk => ?_, ?_⟩
  · rw [set_get, if_pos ⟨rfl, by rw [List.length_set]; omega⟩]; exact l3.2
  · rw [set_get, if_neg (by omega), set_get, if_neg (by omega)]; exact I.zero k (by omega)
  · rw [set_get, if_pos ⟨rfl, by rw [List.length_set]; omega⟩]
    have hv := I.val
    unfold vw at hv ⊢
    rw [set_take, vl_set_next (by omega), vl_take (l := w) hi, Int.pow_succ]
    generalize vl 18446744073709551616 (out.take i) = A at *
    generalize vl 18446744073709551616 (w.take i) = Bv at *
    generalize out.getD i 0 = o at *
    generalize w.getD i 0 / 2 ^ (64 - s) = h at *
    generalize w.getD i 0 % 2 ^ (64 - s) = l at *
    generalize w.getD i 0 = x at *
    generalize (18446744073709551616 : Int) ^ i = P at *
    generalize (2 : Int) ^ s = S at *
    have e : P * (x * S) = P * (S * l + 18446744073709551616 * h) := by rw [l2]
    grind
theorem su_fin {w : List Int} {s : Nat} {out : List Int} (I : SuI w s out w.length) : out = shW w s := by
  have hv := I.val
  have hl := I.len
  have h1 := vl_take (b := 18446744073709551616) (l := out) (k := w.length) (by omega)
  rw [List.take_of_length_le (by omega)] at h1
  rw [List.take_length] at hv
  have h2 := pad_eq (b := 18446744073709551616) (by decide) I.dg
  unfold shW
  rw [Int.toNat_natCast, ← hv]
  unfold vw
  rw [← h1, ← hl]; exact h2
theorem shUp_run (w : List Int) (si : Int) (h : okS w si = true) (w0 : World) (F : Sv.Env) : GoalL Tryz.prog w0 F 40 (fl BShUp []) (initT [lu w, iv si] .nil 0) H0 (retO Tryz.prog Tryz.f215 168 tU (shW w si)) := by
  unfold okS at h
  simp only [Bool.and_eq_true, decide_eq_true_eq, dgB_iff] at h
  obtain ⟨hw, hl, h0, h1⟩ := h
  obtain ⟨s, rfl⟩ : ∃ s : Nat, si = (s : Int) := ⟨si.toNat, by omega⟩
  have e1 : ((w.length : Int) + 1).toNat = w.length + 1 := by omega
  refine GoalL.to known mixed none_ok 3 _ (su_start w s (by omega) (by omega) (by rw [zer_len, e1]) (by rw [e1]) (by rw [zer_len]) (by rw [e1]; exact zer_cells _) (by rw [zer_len])) (by kernel_rfl) ?_
  have hz : ∀ k, (zerW (w.length + 1)).getD k 0 = 0 := fun k => by
    unfold zerW
    rw [List.getD_eq_getElem?_getD, List.getElem?_replicate]; split <;> rfl
  refine GoalL.loop (ι := { p : List Int × Nat // SuI w s p.1 p.2 }) (id := 0) (b := cat BShUp suL) (rest := List.drop 4 (fl BShUp [])) (by kernel_rfl) (fun p => SSu w p.1.1 s p.1.2) (fun p => w.length - p.1.2)
    ⟨(zerW (w.length + 1), 0), ⟨Nat.zero_le _, zer_len _, zer_dg _, by show (zerW (w.length + 1)).getD 0 0 < _; rw [hz]; exact pow_pos' (by decide) _, fun k _ => hz k, by show vl _ ([] : List Int) + _ * (zerW (w.length + 1)).getD 0 0 = vl _ ([] : List Int) * _; rw [hz]; simp [vl]⟩⟩ (fun _ => rfl) ?_
  rintro ⟨⟨out, i⟩, I⟩
  have I : SuI w s out i := I
  have hlen := I.len
  by_cases hi : i < w.length
  · have hx := hw.get (by decide) i
    have N := su_next hw (by omega) I hi
    have ei : ((i : Int) + 1).toNat = i + 1 := by omega
    by_cases hs0 : s = 0
    · subst hs0
      have e2 : (out.set i (orU (out.getD i 0) (shlU (w.getD i 0) (0 : Nat)))).set (i + 1) (w.getD i 0 / 2 ^ (64 - 0)) = out.set i (orU (out.getD i 0) (shlU (w.getD i 0) (0 : Nat))) := by
        have e3 : w.getD i 0 / 2 ^ (64 - 0) = (out.set i (orU (out.getD i 0) (shlU (w.getD i 0) (0 : Nat)))).getD (i + 1) 0 := by
          rw [set_get, if_neg (by omega), I.zero (i + 1) (by omega)]
          exact Int.ediv_eq_zero_of_lt hx.1 hx.2
        rw [e3]
        exact set_same (by rw [List.length_set]; omega)
      rw [e2] at N
      exact GoalL.all (s := SSu w out (0 : Nat) i) (s' := SSu w (out.set i (orU (out.getD i 0) (shlU (w.getD i 0) (0 : Nat)))) (0 : Nat) (i + 1)) known mixed none_ok _ (su_one w out _ i (by omega) hi (by omega) (by omega) (by omega) (by omega) (by rw [List.length_set]) (by rw [List.length_set]) rfl) (by kernel_rfl)
        ⟨⟨(_, i + 1), N⟩, by simp; omega, rfl, rfl⟩
    · have e4 : shrU (w.getD i 0) (64 - (s : Int)) = w.getD i 0 / 2 ^ (64 - s) := by
        rw [show (64 - (s : Int)) = ((64 - s : Nat) : Int) by omega]
        exact shr_eq (by omega) hx.1
      rw [← e4] at N
      exact GoalL.all (s := SSu w out s i) (s' := SSu w ((out.set i (orU (out.getD i 0) (shlU (w.getD i 0) s))).set (i + 1) (shrU (w.getD i 0) (64 - s))) s (i + 1)) known mixed none_ok _ (su_two w out s i (by omega) hi (by omega) (by omega) (by omega) (by omega) (by omega) (by omega) (by rw [ei]; omega) (by rw [ei, ownHas_own]; exact decide_eq_true (by rw [List.length_set]; omega)) (by simp) (by simp) (by rw [ei]; rfl)) (by kernel_rfl)
        ⟨⟨(_, i + 1), N⟩, by simp; omega, rfl, rfl⟩
  · refine GoalL.all (s := SSu w out s i) known mixed none_ok _ (su_end w out s i (by omega)) (by kernel_rfl) ?_
    refine onN_exit (inB_exit ?_)
    have hle := I.le
    obtain rfl : i = w.length := by omega
    rw [← su_fin I]
    cases out with
    | nil => have := I.len; simp at this
    | cons x l => exact GoalL.retOwn known mixed none_ok 8 _ (su_ret w x l s w.length rfl) fun T H h => h
theorem oShUp_ok : oShUp.Ok Tryz.prog :=
  ⟨rfl, _, BShUp, Tryz.func215, rfl, by decide, fun ⟨w, s, _⟩ h => ⟨by show 1 ≤ (shW w s).length; unfold shW; rw [pad_len]; omega, fun w0 F => shUp_run w s h w0 F⟩⟩
end
end Go.Proofs.YtjcbbabaabcdgaaGreatDoor
/- Package num: one step of the long division. -/
namespace Go.Proofs.YtjcbbabaabcdgaaGreatDoor
open Go.RowKit Sv
set_option maxRecDepth 100000
set_option linter.unusedVariables false
noncomputable section
def toRetE (P : Program) (fn : Func) (e : TypeId) (t : Ty) (xs : List t.den) (res : AV) : R → Prop
  | .ret T H [] => (match aresults P fn T H with
    | .ok v _ => frz true H v res ∧ (match H.get 64 with
      | some (.own e' t' ys) => chk (Nat.beq e e') (eqD t' t ys xs)
      | _ => False)
    | _ => False)
  | _ => False
noncomputable def BStep : Code := (Tryz.f216.body).getD .skip
noncomputable def stCs : VCaller := ctrs [cMul64, cDiv64]
abbrev stL1 : List Nat := [1, 1, 1, 1, 1, 0, 0, 0]
abbrev stL2 : List Nat := [1, 1, 1, 1, 1, 1, 1, 0, 1, 0, 0]
abbrev stL3 : List Nat := [1, 1, 1, 1, 1, 1, 1, 1, 1, 1, 1, 0, 1, 0, 0]
abbrev uo (v : List Int) (k : Nat) (cap : Cap) : AV := .osl 168 tU 64 k (v.length + 1) cap
abbrev enS (xs : List Int) : List (Nat × Ent) := [(64, .blk (.own 168 tU xs))]
abbrev s64 : Sv.Ren := [(64, 64, none)]
def SSa (xs v : List Int) (k : Nat) (cap : Cap) (q r o : Int) : St := { n := 186, sl := [(0, uo v k cap), (1, lu v), (5, iv v.length), (6, uv q), (7, uv r), (8, uv o)], en := enS xs, next := 65 }
def SSc (xs v : List Int) (k : Nat) (cap : Cap) (q c b : Int) (i : Nat) : St := { n := 186, sl := [(0, uo v k cap), (1, lu v), (5, iv v.length), (6, uv q), (11, uv b), (12, uv c), (104, iv v.length), (105, iv i)], en := enS xs, next := 65 }
def SSe (xs v : List Int) (k : Nat) (cap : Cap) (q b : Int) : St := { n := 186, sl := [(0, uo v k cap), (1, lu v), (5, iv v.length), (6, uv q), (11, uv b)], en := enS xs, next := 65 }
def SSd (xs v : List Int) (k : Nat) (cap : Cap) (q c : Int) (i : Nat) : St := { n := 186, sl := [(0, uo v k cap), (1, lu v), (5, iv v.length), (6, uv q), (17, uv c), (156, iv v.length), (157, iv i)], en := enS xs, next := 65 }
def loS (q x c : Int) : Int := sumD (mlLo q x) c 0
def hiS (q x c : Int) : Int := IntKind.wrap .u64 (mlHi q x + carD (mlLo q x) c 0)
def decS (q : Int) : Int := IntKind.wrap .u64 (q - 1)
theorem st_max (xs v : List Int) (k : Nat) (cap : Cap) (h1 : (ownHas 168 tU (some (ABlk.own 168 (.int .u64) xs)) (k + v.length)) = true) (h2 : -9223372036854775808 ≤ (↑v.length : Int) - 1 ∧ (↑v.length : Int) - 1 ≤ 9223372036854775807) (h3 : (0 : Int) ≤ (↑v.length : Int) - 1) (h4 : Int.toNat ((↑v.length : Int) - 1) < v.length) (h5 : List.getD xs (k + v.length) (0 : Int) ≥ List.getD v (Int.toNat ((↑v.length : Int) - 1)) (0 : Int)) (h6 : (ownHas 168 tU (some (ABlk.own 168 (.int .u64) xs)) (k + Int.toNat ((↑v.length : Int) - 1))) = true) (h7 : ((↑((Int.toNat (List.getD xs (k + Int.toNat ((↑v.length : Int) - 1)) (0 : Int)) + Int.toNat (List.getD v (Int.toNat ((↑v.length : Int) - 1)) (0 : Int)) + Int.toNat (0 : Int)) % (2 : Nat) ^ (64 : Nat)) : Int)) = (sumD (List.getD xs (k + Int.toNat ((↑v.length : Int) - 1)) (0 : Int)) (List.getD v (Int.toNat ((↑v.length : Int) - 1)) (0 : Int)) (0 : Int))) (h8 : ((↑((Int.toNat (List.getD xs (k + Int.toNat ((↑v.length : Int) - 1)) (0 : Int)) + Int.toNat (List.getD v (Int.toNat ((↑v.length : Int) - 1)) (0 : Int)) + Int.toNat (0 : Int)) / (2 : Nat) ^ (64 : Nat)) : Int)) = (carD (List.getD xs (k + Int.toNat ((↑v.length : Int) - 1)) (0 : Int)) (List.getD v (Int.toNat ((↑v.length : Int) - 1)) (0 : Int)) (0 : Int))) :
    Tst.path (vlist Tryz.prog stCs 186 ((fl BStep []).take 6) (initT [uo v k cap, lu v] .nil 0) (He 168 tU xs)) [true] (toSt Tryz.prog 186 .normal s64 (SSa xs v k cap 18446744073709551615 (sumD (xs.getD (k + ((v.length : Int) - 1).toNat) 0) (v.getD ((v.length : Int) - 1).toNat 0) 0) (carD (xs.getD (k + ((v.length : Int) - 1).toNat) 0) (v.getD ((v.length : Int) - 1).toNat 0) 0))) :=
  mp (an (show (decide ((0 : Int) ≤ (↑v.length : Int))) = true from decide_eq_true (by omega)) (an (show (decide (v.length < v.length + (1 : Nat))) = true from decide_eq_true (by omega)) (an h1 (an h1 (an (sr (AV.raw (Value.int .u64 (List.getD xs (k + v.length) (0 : Int))))) (an (fits_i64 h2) (an (decide_eq_true h3) (an (decide_eq_true h4) (an (sr (AV.raw (Value.int .u64 (List.getD v (Int.toNat ((↑v.length : Int) - 1)) (0 : Int))))) (an (decide_eq_true h5) (an (fits_i64 h2) (an (decide_eq_true h3) (an (show (decide (Int.toNat ((↑v.length : Int) - 1) < v.length + (1 : Nat))) = true from decide_eq_true (by omega)) (an h6 (an h6 (an (sr (AV.raw (Value.int .u64 (List.getD xs (k + Int.toNat ((↑v.length : Int) - 1)) (0 : Int))))) (an (fits_i64 h2) (an (decide_eq_true h3) (an (decide_eq_true h4) (an (sr (AV.raw (Value.int .u64 (List.getD v (Int.toNat ((↑v.length : Int) - 1)) (0 : Int))))) (an (an (rr k) (an (rr (v.length + (1 : Nat))) (rr cap))) (an (rr v) (an (rr ((↑v.length : Int))) (an (rr ((18446744073709551615 : Int))) (an h7 (an h8 (an (rr xs) trivial)))))))))))))))))))))))))))
theorem st_div (xs v : List Int) (k : Nat) (cap : Cap) (h1 : (ownHas 168 tU (some (ABlk.own 168 (.int .u64) xs)) (k + v.length)) = true) (h2 : -9223372036854775808 ≤ (↑v.length : Int) - 1 ∧ (↑v.length : Int) - 1 ≤ 9223372036854775807) (h3 : (0 : Int) ≤ (↑v.length : Int) - 1) (h4 : Int.toNat ((↑v.length : Int) - 1) < v.length) (h5 : ¬List.getD xs (k + v.length) (0 : Int) ≥ List.getD v (Int.toNat ((↑v.length : Int) - 1)) (0 : Int)) (h6 : (ownHas 168 tU (some (ABlk.own 168 (.int .u64) xs)) (k + Int.toNat ((↑v.length : Int) - 1))) = true) (h7 : (okD (List.getD xs (k + v.length) (0 : Int)) (List.getD xs (k + Int.toNat ((↑v.length : Int) - 1)) (0 : Int)) (List.getD v (Int.toNat ((↑v.length : Int) - 1)) (0 : Int))) = true) :
    Tst.path (vlist Tryz.prog stCs 186 ((fl BStep []).take 6) (initT [uo v k cap, lu v] .nil 0) (He 168 tU xs)) [false] (toSt Tryz.prog 186 .normal s64 (SSa xs v k cap (div64Q (xs.getD (k + v.length) 0) (xs.getD (k + ((v.length : Int) - 1).toNat) 0) (v.getD ((v.length : Int) - 1).toNat 0)) (div64R (xs.getD (k + v.length) 0) (xs.getD (k + ((v.length : Int) - 1).toNat) 0) (v.getD ((v.length : Int) - 1).toNat 0)) 0)) :=
  mp (an (show (decide ((0 : Int) ≤ (↑v.length : Int))) = true from decide_eq_true (by omega)) (an (show (decide (v.length < v.length + (1 : Nat))) = true from decide_eq_true (by omega)) (an h1 (an h1 (an (sr (AV.raw (Value.int .u64 (List.getD xs (k + v.length) (0 : Int))))) (an (fits_i64 h2) (an (decide_eq_true h3) (an (decide_eq_true h4) (an (sr (AV.raw (Value.int .u64 (List.getD v (Int.toNat ((↑v.length : Int) - 1)) (0 : Int))))) (an (decide_eq_false h5) (an (show (decide ((0 : Int) ≤ (↑v.length : Int))) = true from decide_eq_true (by omega)) (an (show (decide (v.length < v.length + (1 : Nat))) = true from decide_eq_true (by omega)) (an h1 (an h1 (an (sr (AV.raw (Value.int .u64 (List.getD xs (k + v.length) (0 : Int))))) (an (fits_i64 h2) (an (decide_eq_true h3) (an (show (decide (Int.toNat ((↑v.length : Int) - 1) < v.length + (1 : Nat))) = true from decide_eq_true (by omega)) (an h6 (an h6 (an (sr (AV.raw (Value.int .u64 (List.getD xs (k + Int.toNat ((↑v.length : Int) - 1)) (0 : Int))))) (an (fits_i64 h2) (an (decide_eq_true h3) (an (decide_eq_true h4) (an (sr (AV.raw (Value.int .u64 (List.getD v (Int.toNat ((↑v.length : Int) - 1)) (0 : Int))))) (an h7 (an (an (rr k) (an (rr (v.length + (1 : Nat))) (rr cap))) (an (rr v) (an (rr ((↑v.length : Int))) (an (rr (div64Q (List.getD xs (k + v.length) (0 : Int)) (List.getD xs (k + Int.toNat ((↑v.length : Int) - 1)) (0 : Int)) (List.getD v (Int.toNat ((↑v.length : Int) - 1)) (0 : Int)))) (an (rr (div64R (List.getD xs (k + v.length) (0 : Int)) (List.getD xs (k + Int.toNat ((↑v.length : Int) - 1)) (0 : Int)) (List.getD v (Int.toNat ((↑v.length : Int) - 1)) (0 : Int)))) (an (rr ((0 : Int))) (an (rr xs) trivial)))))))))))))))))))))))))))))))))
theorem sl_eqle (xs v : List Int) (k : Nat) (cap : Cap) (q r o : Int) (h1 : o = 0) (h2 : -9223372036854775808 ≤ (↑v.length : Int) - 2 ∧ (↑v.length : Int) - 2 ≤ 9223372036854775807) (h3 : (0 : Int) ≤ (↑v.length : Int) - 2) (h4 : Int.toNat ((↑v.length : Int) - 2) < v.length) (h5 : (okM q (List.getD v (Int.toNat ((↑v.length : Int) - 2)) (0 : Int))) = true) (h6 : ¬mlHi q (List.getD v (Int.toNat ((↑v.length : Int) - 2)) (0 : Int)) < r) (h7 : mlHi q (List.getD v (Int.toNat ((↑v.length : Int) - 2)) (0 : Int)) = r) (h8 : (ownHas 168 tU (some (ABlk.own 168 (.int .u64) xs)) (k + Int.toNat ((↑v.length : Int) - 2))) = true) (h9 : mlLo q (List.getD v (Int.toNat ((↑v.length : Int) - 2)) (0 : Int)) ≤ List.getD xs (k + Int.toNat ((↑v.length : Int) - 2)) (0 : Int)) :
    Tst.path (vall Tryz.prog stCs (fl BStep stL1) (SSa xs v k cap q r o)) [true, true, true, true, true, true, true, true, true, true, true, true, true, true, false, true] (toSt Tryz.prog 186 (.exit 0) s64 (SSa xs v k cap q r o)) :=
  mp (an (beq_iff_eq.mpr h1) (an (fits_i64 h2) (an (decide_eq_true h3) (an (decide_eq_true h4) (an h5 (an (bF (decide_eq_false h6)) (an (bF (decide_eq_false h6)) (an (bF (decide_eq_false h6)) (an (bF (decide_eq_false h6)) (an (bT (beq_iff_eq.mpr h7)) (an (bT (beq_iff_eq.mpr h7)) (an (bT (beq_iff_eq.mpr h7)) (an (bT (beq_iff_eq.mpr h7)) (an (fits_i64 h2) (an (bT (beq_iff_eq.mpr h7)) (an (decide_eq_true h3) (an (show (decide (Int.toNat ((↑v.length : Int) - 2) < v.length + (1 : Nat))) = true from decide_eq_true (by omega)) (an (bT (beq_iff_eq.mpr h7)) (an h8 (an (bT (beq_iff_eq.mpr h7)) (an (bF (decide_eq_false h6)) (an (beq_iff_eq.mpr h7) (an (decide_eq_false h6) (an (decide_eq_true h9) (an (an (rr k) (an (rr (v.length + (1 : Nat))) (rr cap))) (an (rr v) (an (rr ((↑v.length : Int))) (an (rr q) (an (rr r) (an (rr o) (an (rr xs) trivial)))))))))))))))))))))))))))))))
theorem sl_eqgt (xs v : List Int) (k : Nat) (cap : Cap) (q r o : Int) (h1 : o = 0) (h2 : -9223372036854775808 ≤ (↑v.length : Int) - 2 ∧ (↑v.length : Int) - 2 ≤ 9223372036854775807) (h3 : (0 : Int) ≤ (↑v.length : Int) - 2) (h4 : Int.toNat ((↑v.length : Int) - 2) < v.length) (h5 : (okM q (List.getD v (Int.toNat ((↑v.length : Int) - 2)) (0 : Int))) = true) (h6 : ¬mlHi q (List.getD v (Int.toNat ((↑v.length : Int) - 2)) (0 : Int)) < r) (h7 : mlHi q (List.getD v (Int.toNat ((↑v.length : Int) - 2)) (0 : Int)) = r) (h8 : (ownHas 168 tU (some (ABlk.own 168 (.int .u64) xs)) (k + Int.toNat ((↑v.length : Int) - 2))) = true) (h9 : ¬mlLo q (List.getD v (Int.toNat ((↑v.length : Int) - 2)) (0 : Int)) ≤ List.getD xs (k + Int.toNat ((↑v.length : Int) - 2)) (0 : Int)) (h10 : -9223372036854775808 ≤ (↑v.length : Int) - 1 ∧ (↑v.length : Int) - 1 ≤ 9223372036854775807) (h11 : (0 : Int) ≤ (↑v.length : Int) - 1) (h12 : Int.toNat ((↑v.length : Int) - 1) < v.length) (h13 : (IntKind.wrap IntKind.u64 (q - 1)) = (decS q)) (h14 : ((↑((Int.toNat r + Int.toNat (List.getD v (Int.toNat ((↑v.length : Int) - 1)) (0 : Int)) + Int.toNat (0 : Int)) % (2 : Nat) ^ (64 : Nat)) : Int)) = (sumD r (List.getD v (Int.toNat ((↑v.length : Int) - 1)) (0 : Int)) (0 : Int))) (h15 : ((↑((Int.toNat r + Int.toNat (List.getD v (Int.toNat ((↑v.length : Int) - 1)) (0 : Int)) + Int.toNat (0 : Int)) / (2 : Nat) ^ (64 : Nat)) : Int)) = (carD r (List.getD v (Int.toNat ((↑v.length : Int) - 1)) (0 : Int)) (0 : Int))) :
    Tst.path (vall Tryz.prog stCs (fl BStep stL1) (SSa xs v k cap q r o)) [true, true, true, true, true, true, true, true, true, true, true, true, true, true, false, false] (toSt Tryz.prog 186 .normal s64 (SSa xs v k cap (decS q) (sumD r (v.getD ((v.length : Int) - 1).toNat 0) 0) (carD r (v.getD ((v.length : Int) - 1).toNat 0) 0))) :=
  mp (an (beq_iff_eq.mpr h1) (an (fits_i64 h2) (an (decide_eq_true h3) (an (decide_eq_true h4) (an h5 (an (bF (decide_eq_false h6)) (an (bF (decide_eq_false h6)) (an (bF (decide_eq_false h6)) (an (bF (decide_eq_false h6)) (an (bT (beq_iff_eq.mpr h7)) (an (bT (beq_iff_eq.mpr h7)) (an (bT (beq_iff_eq.mpr h7)) (an (bT (beq_iff_eq.mpr h7)) (an (fits_i64 h2) (an (bT (beq_iff_eq.mpr h7)) (an (decide_eq_true h3) (an (show (decide (Int.toNat ((↑v.length : Int) - 2) < v.length + (1 : Nat))) = true from decide_eq_true (by omega)) (an (bT (beq_iff_eq.mpr h7)) (an h8 (an (bT (beq_iff_eq.mpr h7)) (an (bF (decide_eq_false h6)) (an (beq_iff_eq.mpr h7) (an (decide_eq_false h6) (an (decide_eq_false h9) (an (fits_i64 h10) (an (decide_eq_true h11) (an (decide_eq_true h12) (an (an (rr k) (an (rr (v.length + (1 : Nat))) (rr cap))) (an (rr v) (an (rr ((↑v.length : Int))) (an h13 (an h14 (an h15 (an (rr xs) trivial))))))))))))))))))))))))))))))))))
theorem sl_gt (xs v : List Int) (k : Nat) (cap : Cap) (q r o : Int) (h1 : o = 0) (h2 : -9223372036854775808 ≤ (↑v.length : Int) - 2 ∧ (↑v.length : Int) - 2 ≤ 9223372036854775807) (h3 : (0 : Int) ≤ (↑v.length : Int) - 2) (h4 : Int.toNat ((↑v.length : Int) - 2) < v.length) (h5 : (okM q (List.getD v (Int.toNat ((↑v.length : Int) - 2)) (0 : Int))) = true) (h6 : ¬mlHi q (List.getD v (Int.toNat ((↑v.length : Int) - 2)) (0 : Int)) < r) (h7 : ¬mlHi q (List.getD v (Int.toNat ((↑v.length : Int) - 2)) (0 : Int)) = r) (h8 : -9223372036854775808 ≤ (↑v.length : Int) - 1 ∧ (↑v.length : Int) - 1 ≤ 9223372036854775807) (h9 : (0 : Int) ≤ (↑v.length : Int) - 1) (h10 : Int.toNat ((↑v.length : Int) - 1) < v.length) (h11 : (IntKind.wrap IntKind.u64 (q - 1)) = (decS q)) (h12 : ((↑((Int.toNat r + Int.toNat (List.getD v (Int.toNat ((↑v.length : Int) - 1)) (0 : Int)) + Int.toNat (0 : Int)) % (2 : Nat) ^ (64 : Nat)) : Int)) = (sumD r (List.getD v (Int.toNat ((↑v.length : Int) - 1)) (0 : Int)) (0 : Int))) (h13 : ((↑((Int.toNat r + Int.toNat (List.getD v (Int.toNat ((↑v.length : Int) - 1)) (0 : Int)) + Int.toNat (0 : Int)) / (2 : Nat) ^ (64 : Nat)) : Int)) = (carD r (List.getD v (Int.toNat ((↑v.length : Int) - 1)) (0 : Int)) (0 : Int))) :
    Tst.path (vall Tryz.prog stCs (fl BStep stL1) (SSa xs v k cap q r o)) [true, true, true, true, true, false, false, false, false, false, false, false, true, false, false, false] (toSt Tryz.prog 186 .normal s64 (SSa xs v k cap (decS q) (sumD r (v.getD ((v.length : Int) - 1).toNat 0) 0) (carD r (v.getD ((v.length : Int) - 1).toNat 0) 0))) :=
  mp (an (beq_iff_eq.mpr h1) (an (fits_i64 h2) (an (decide_eq_true h3) (an (decide_eq_true h4) (an h5 (an (bF (decide_eq_false h6)) (an (bF (decide_eq_false h6)) (an (bF (decide_eq_false h6)) (an (bF (decide_eq_false h6)) (an (bT (beq_eq_false_iff_ne.mpr h7)) (an (bT (beq_eq_false_iff_ne.mpr h7)) (an (bT (beq_eq_false_iff_ne.mpr h7)) (an (bT (beq_eq_false_iff_ne.mpr h7)) (an (bT (beq_eq_false_iff_ne.mpr h7)) (an (bT (beq_eq_false_iff_ne.mpr h7)) (an (bT (beq_eq_false_iff_ne.mpr h7)) (an (bF (decide_eq_false h6)) (an (beq_eq_false_iff_ne.mpr h7) (an (decide_eq_false h6) (an rf (an (fits_i64 h8) (an (decide_eq_true h9) (an (decide_eq_true h10) (an (an (rr k) (an (rr (v.length + (1 : Nat))) (rr cap))) (an (rr v) (an (rr ((↑v.length : Int))) (an h11 (an h12 (an h13 (an (rr xs) trivial))))))))))))))))))))))))))))))
theorem sl_lt (xs v : List Int) (k : Nat) (cap : Cap) (q r o : Int) (h1 : o = 0) (h2 : -9223372036854775808 ≤ (↑v.length : Int) - 2 ∧ (↑v.length : Int) - 2 ≤ 9223372036854775807) (h3 : (0 : Int) ≤ (↑v.length : Int) - 2) (h4 : Int.toNat ((↑v.length : Int) - 2) < v.length) (h5 : (okM q (List.getD v (Int.toNat ((↑v.length : Int) - 2)) (0 : Int))) = true) (h6 : mlHi q (List.getD v (Int.toNat ((↑v.length : Int) - 2)) (0 : Int)) < r) :
    Tst.path (vall Tryz.prog stCs (fl BStep stL1) (SSa xs v k cap q r o)) [true, false, false, false, false, false, true, true] (toSt Tryz.prog 186 (.exit 0) s64 (SSa xs v k cap q r o)) :=
  mp (an (beq_iff_eq.mpr h1) (an (fits_i64 h2) (an (decide_eq_true h3) (an (decide_eq_true h4) (an h5 (an (bF (decide_eq_true h6)) (an (bF (decide_eq_true h6)) (an (bF (decide_eq_true h6)) (an (bF (decide_eq_true h6)) (an (bF (decide_eq_true h6)) (an (decide_eq_true h6) (an rt (an (an (rr k) (an (rr (v.length + (1 : Nat))) (rr cap))) (an (rr v) (an (rr ((↑v.length : Int))) (an (rr q) (an (rr r) (an (rr o) (an (rr xs) trivial)))))))))))))))))))
theorem sl_over (xs v : List Int) (k : Nat) (cap : Cap) (q r o : Int) (h1 : ¬o = 0) :
    Tst.path (vall Tryz.prog stCs (fl BStep stL1) (SSa xs v k cap q r o)) [false] (toSt Tryz.prog 186 (.exit 0) s64 (SSa xs v k cap q r o)) :=
  mp (an (beq_eq_false_iff_ne.mpr h1) (an (an (rr k) (an (rr (v.length + (1 : Nat))) (rr cap))) (an (rr v) (an (rr ((↑v.length : Int))) (an (rr q) (an (rr r) (an (rr o) (an (rr xs) trivial))))))))
theorem sc_start (xs v : List Int) (k : Nat) (cap : Cap) (q r o : Int)  :
    Tst.path (vrun Tryz.prog stCs (List.drop 7 (fl BStep [])) 2 (SSa xs v k cap q r o)) [] (toSt Tryz.prog 186 .normal s64 (SSc xs v k cap q 0 0 0)) :=
  mp (an (an (rr k) (an (rr (v.length + (1 : Nat))) (rr cap))) (an (rr v) (an (rr ((↑v.length : Int))) (an (rr q) (an (rr ((0 : Int))) (an (rr ((0 : Int))) (an (rr ((↑v.length : Int))) (an (rr ((0 : Int))) (an (rr xs) trivial)))))))))
theorem sc_0 (xs v : List Int) (k : Nat) (cap : Cap) (q c : Int) (i : Nat) (h1 : (↑i : Int) < (↑v.length : Int)) (h2 : i < v.length) (h3 : (okM q (List.getD v i (0 : Int))) = true) (h4 : i < v.length + (1 : Nat)) (h5 : (ownHas 168 tU (some (ABlk.own 168 (.int .u64) xs)) (k + i)) = true) (h6 : -9223372036854775808 ≤ (↑i : Int) + 1 ∧ (↑i : Int) + 1 ≤ 9223372036854775807) (h7 : ((↑(if Int.toNat (List.getD xs (k + i) (0 : Int)) < (Int.toNat (mlLo q (List.getD v i (0 : Int))) + Int.toNat c + Int.toNat (0 : Int)) % (2 : Nat) ^ (64 : Nat) + Int.toNat (0 : Int) then (1 : Nat) else (0 : Nat)) : Int)) = (borD (List.getD xs (k + i) (0 : Int)) (loS q (List.getD v i (0 : Int)) c) (0 : Int))) (h8 : (IntKind.wrap IntKind.u64 (mlHi q (List.getD v i (0 : Int)) + (↑((Int.toNat (mlLo q (List.getD v i (0 : Int))) + Int.toNat c + Int.toNat (0 : Int)) / (2 : Nat) ^ (64 : Nat)) : Int))) = (hiS q (List.getD v i (0 : Int)) c)) (h9 : (List.set xs (k + i) (↑((Int.toNat (List.getD xs (k + i) (0 : Int)) + (2 : Nat) ^ (64 : Nat) - (Int.toNat (mlLo q (List.getD v i (0 : Int))) + Int.toNat c + Int.toNat (0 : Int)) % (2 : Nat) ^ (64 : Nat) - Int.toNat (0 : Int)) % (2 : Nat) ^ (64 : Nat)) : Int)) = (List.set xs (k + i) (difD (List.getD xs (k + i) (0 : Int)) (loS q (List.getD v i (0 : Int)) c) (0 : Int)))) :
    Tst.path (vall Tryz.prog stCs (fl BStep stL2) (SSc xs v k cap q c 0 i)) [true] (toSt Tryz.prog 186 .normal s64 (SSc (xs.set (k + i) (difD (xs.getD (k + i) 0) (loS q (v.getD i 0) c) 0)) v k cap q (hiS q (v.getD i 0) c) (borD (xs.getD (k + i) 0) (loS q (v.getD i 0) c) 0) (i + 1))) :=
  mp (an (decide_eq_true h1) (an (show (decide ((0 : Int) ≤ (↑i : Int))) = true from decide_eq_true (by omega)) (an (decide_eq_true h2) (an h3 (an (show (decide ((0 : Int) ≤ (↑i : Int))) = true from decide_eq_true (by omega)) (an (decide_eq_true h4) (an h5 (an (show (decide ((0 : Int) ≤ (↑i : Int))) = true from decide_eq_true (by omega)) (an (decide_eq_true h4) (an h5 (an (fits_i64 h6) (an (an (rr k) (an (rr (v.length + (1 : Nat))) (rr cap))) (an (rr v) (an (rr ((↑v.length : Int))) (an (rr q) (an h7 (an h8 (an (rr ((↑v.length : Int))) (an (show ((↑i : Int) + 1) = ((↑(i + (1 : Nat)) : Int)) from (by omega)) (an h9 trivial))))))))))))))))))))
theorem sf_0 (xs v : List Int) (k : Nat) (cap : Cap) (q c : Int) (i : Nat) (h1 : (ownHas 168 tU (some (ABlk.own 168 (.int .u64) xs)) (k + v.length)) = true) (h2 : ((↑(if Int.toNat (List.getD xs (k + v.length) (0 : Int)) < Int.toNat c + Int.toNat (0 : Int) then (1 : Nat) else (0 : Nat)) : Int)) = (borD (List.getD xs (k + v.length) (0 : Int)) c (0 : Int))) (h3 : (List.set xs (k + v.length) (↑((Int.toNat (List.getD xs (k + v.length) (0 : Int)) + (2 : Nat) ^ (64 : Nat) - Int.toNat c - Int.toNat (0 : Int)) % (2 : Nat) ^ (64 : Nat)) : Int)) = (List.set xs (k + v.length) (difD (List.getD xs (k + v.length) (0 : Int)) c (0 : Int)))) :
    Tst.path (vrun Tryz.prog stCs (List.drop 10 (fl BStep [])) 1 (SSc xs v k cap q c 0 i)) [] (toSt Tryz.prog 186 .normal s64 (SSe (xs.set (k + v.length) (difD (xs.getD (k + v.length) 0) c 0)) v k cap q (borD (xs.getD (k + v.length) 0) c 0))) :=
  mp (an (show (decide ((0 : Int) ≤ (↑v.length : Int))) = true from decide_eq_true (by omega)) (an (show (decide (v.length < v.length + (1 : Nat))) = true from decide_eq_true (by omega)) (an h1 (an (show (decide ((0 : Int) ≤ (↑v.length : Int))) = true from decide_eq_true (by omega)) (an (show (decide (v.length < v.length + (1 : Nat))) = true from decide_eq_true (by omega)) (an h1 (an (an (rr k) (an (rr (v.length + (1 : Nat))) (rr cap))) (an (rr v) (an (rr ((↑v.length : Int))) (an (rr q) (an h2 (an h3 trivial))))))))))))
theorem sd_0 (xs v : List Int) (k : Nat) (cap : Cap) (q : Int) (i : Nat) (h1 : (↑i : Int) < (↑v.length : Int)) (h2 : i < v.length + (1 : Nat)) (h3 : (ownHas 168 tU (some (ABlk.own 168 (.int .u64) xs)) (k + i)) = true) (h4 : i < v.length) (h5 : -9223372036854775808 ≤ (↑i : Int) + 1 ∧ (↑i : Int) + 1 ≤ 9223372036854775807) (h6 : ((↑((Int.toNat (List.getD xs (k + i) (0 : Int)) + Int.toNat (List.getD v i (0 : Int)) + Int.toNat (0 : Int)) / (2 : Nat) ^ (64 : Nat)) : Int)) = (carD (List.getD xs (k + i) (0 : Int)) (List.getD v i (0 : Int)) (0 : Int))) (h7 : (List.set xs (k + i) (↑((Int.toNat (List.getD xs (k + i) (0 : Int)) + Int.toNat (List.getD v i (0 : Int)) + Int.toNat (0 : Int)) % (2 : Nat) ^ (64 : Nat)) : Int)) = (List.set xs (k + i) (sumD (List.getD xs (k + i) (0 : Int)) (List.getD v i (0 : Int)) (0 : Int)))) :
    Tst.path (vall Tryz.prog stCs (fl BStep stL3) (SSd xs v k cap q 0 i)) [true] (toSt Tryz.prog 186 .normal s64 (SSd (xs.set (k + i) (sumD (xs.getD (k + i) 0) (v.getD i 0) 0)) v k cap q (carD (xs.getD (k + i) 0) (v.getD i 0) 0) (i + 1))) :=
  mp (an (decide_eq_true h1) (an (show (decide ((0 : Int) ≤ (↑i : Int))) = true from decide_eq_true (by omega)) (an (decide_eq_true h2) (an h3 (an h3 (an (sr (AV.raw (Value.int .u64 (List.getD xs (k + i) (0 : Int))))) (an (show (decide ((0 : Int) ≤ (↑i : Int))) = true from decide_eq_true (by omega)) (an (decide_eq_true h4) (an (sr (AV.raw (Value.int .u64 (List.getD v i (0 : Int))))) (an (show (decide ((0 : Int) ≤ (↑i : Int))) = true from decide_eq_true (by omega)) (an (decide_eq_true h2) (an h3 (an (fits_i64 h5) (an (an (rr k) (an (rr (v.length + (1 : Nat))) (rr cap))) (an (rr v) (an (rr ((↑v.length : Int))) (an (rr q) (an h6 (an (rr ((↑v.length : Int))) (an (show ((↑i : Int) + 1) = ((↑(i + (1 : Nat)) : Int)) from (by omega)) (an h7 trivial)))))))))))))))))))))
theorem sc_1 (xs v : List Int) (k : Nat) (cap : Cap) (q c : Int) (i : Nat) (h1 : (↑i : Int) < (↑v.length : Int)) (h2 : i < v.length) (h3 : (okM q (List.getD v i (0 : Int))) = true) (h4 : i < v.length + (1 : Nat)) (h5 : (ownHas 168 tU (some (ABlk.own 168 (.int .u64) xs)) (k + i)) = true) (h6 : -9223372036854775808 ≤ (↑i : Int) + 1 ∧ (↑i : Int) + 1 ≤ 9223372036854775807) (h7 : ((↑(if Int.toNat (List.getD xs (k + i) (0 : Int)) < (Int.toNat (mlLo q (List.getD v i (0 : Int))) + Int.toNat c + Int.toNat (0 : Int)) % (2 : Nat) ^ (64 : Nat) + Int.toNat (1 : Int) then (1 : Nat) else (0 : Nat)) : Int)) = (borD (List.getD xs (k + i) (0 : Int)) (loS q (List.getD v i (0 : Int)) c) (1 : Int))) (h8 : (IntKind.wrap IntKind.u64 (mlHi q (List.getD v i (0 : Int)) + (↑((Int.toNat (mlLo q (List.getD v i (0 : Int))) + Int.toNat c + Int.toNat (0 : Int)) / (2 : Nat) ^ (64 : Nat)) : Int))) = (hiS q (List.getD v i (0 : Int)) c)) (h9 : (List.set xs (k + i) (↑((Int.toNat (List.getD xs (k + i) (0 : Int)) + (2 : Nat) ^ (64 : Nat) - (Int.toNat (mlLo q (List.getD v i (0 : Int))) + Int.toNat c + Int.toNat (0 : Int)) % (2 : Nat) ^ (64 : Nat) - Int.toNat (1 : Int)) % (2 : Nat) ^ (64 : Nat)) : Int)) = (List.set xs (k + i) (difD (List.getD xs (k + i) (0 : Int)) (loS q (List.getD v i (0 : Int)) c) (1 : Int)))) :
    Tst.path (vall Tryz.prog stCs (fl BStep stL2) (SSc xs v k cap q c 1 i)) [true] (toSt Tryz.prog 186 .normal s64 (SSc (xs.set (k + i) (difD (xs.getD (k + i) 0) (loS q (v.getD i 0) c) 1)) v k cap q (hiS q (v.getD i 0) c) (borD (xs.getD (k + i) 0) (loS q (v.getD i 0) c) 1) (i + 1))) :=
  mp (an (decide_eq_true h1) (an (show (decide ((0 : Int) ≤ (↑i : Int))) = true from decide_eq_true (by omega)) (an (decide_eq_true h2) (an h3 (an (show (decide ((0 : Int) ≤ (↑i : Int))) = true from decide_eq_true (by omega)) (an (decide_eq_true h4) (an h5 (an (show (decide ((0 : Int) ≤ (↑i : Int))) = true from decide_eq_true (by omega)) (an (decide_eq_true h4) (an h5 (an (fits_i64 h6) (an (an (rr k) (an (rr (v.length + (1 : Nat))) (rr cap))) (an (rr v) (an (rr ((↑v.length : Int))) (an (rr q) (an h7 (an h8 (an (rr ((↑v.length : Int))) (an (show ((↑i : Int) + 1) = ((↑(i + (1 : Nat)) : Int)) from (by omega)) (an h9 trivial))))))))))))))))))))
theorem sf_1 (xs v : List Int) (k : Nat) (cap : Cap) (q c : Int) (i : Nat) (h1 : (ownHas 168 tU (some (ABlk.own 168 (.int .u64) xs)) (k + v.length)) = true) (h2 : ((↑(if Int.toNat (List.getD xs (k + v.length) (0 : Int)) < Int.toNat c + Int.toNat (1 : Int) then (1 : Nat) else (0 : Nat)) : Int)) = (borD (List.getD xs (k + v.length) (0 : Int)) c (1 : Int))) (h3 : (List.set xs (k + v.length) (↑((Int.toNat (List.getD xs (k + v.length) (0 : Int)) + (2 : Nat) ^ (64 : Nat) - Int.toNat c - Int.toNat (1 : Int)) % (2 : Nat) ^ (64 : Nat)) : Int)) = (List.set xs (k + v.length) (difD (List.getD xs (k + v.length) (0 : Int)) c (1 : Int)))) :
    Tst.path (vrun Tryz.prog stCs (List.drop 10 (fl BStep [])) 1 (SSc xs v k cap q c 1 i)) [] (toSt Tryz.prog 186 .normal s64 (SSe (xs.set (k + v.length) (difD (xs.getD (k + v.length) 0) c 1)) v k cap q (borD (xs.getD (k + v.length) 0) c 1))) :=
  mp (an (show (decide ((0 : Int) ≤ (↑v.length : Int))) = true from decide_eq_true (by omega)) (an (show (decide (v.length < v.length + (1 : Nat))) = true from decide_eq_true (by omega)) (an h1 (an (show (decide ((0 : Int) ≤ (↑v.length : Int))) = true from decide_eq_true (by omega)) (an (show (decide (v.length < v.length + (1 : Nat))) = true from decide_eq_true (by omega)) (an h1 (an (an (rr k) (an (rr (v.length + (1 : Nat))) (rr cap))) (an (rr v) (an (rr ((↑v.length : Int))) (an (rr q) (an h2 (an h3 trivial))))))))))))
theorem sd_1 (xs v : List Int) (k : Nat) (cap : Cap) (q : Int) (i : Nat) (h1 : (↑i : Int) < (↑v.length : Int)) (h2 : i < v.length + (1 : Nat)) (h3 : (ownHas 168 tU (some (ABlk.own 168 (.int .u64) xs)) (k + i)) = true) (h4 : i < v.length) (h5 : -9223372036854775808 ≤ (↑i : Int) + 1 ∧ (↑i : Int) + 1 ≤ 9223372036854775807) (h6 : ((↑((Int.toNat (List.getD xs (k + i) (0 : Int)) + Int.toNat (List.getD v i (0 : Int)) + Int.toNat (1 : Int)) / (2 : Nat) ^ (64 : Nat)) : Int)) = (carD (List.getD xs (k + i) (0 : Int)) (List.getD v i (0 : Int)) (1 : Int))) (h7 : (List.set xs (k + i) (↑((Int.toNat (List.getD xs (k + i) (0 : Int)) + Int.toNat (List.getD v i (0 : Int)) + Int.toNat (1 : Int)) % (2 : Nat) ^ (64 : Nat)) : Int)) = (List.set xs (k + i) (sumD (List.getD xs (k + i) (0 : Int)) (List.getD v i (0 : Int)) (1 : Int)))) :
    Tst.path (vall Tryz.prog stCs (fl BStep stL3) (SSd xs v k cap q 1 i)) [true] (toSt Tryz.prog 186 .normal s64 (SSd (xs.set (k + i) (sumD (xs.getD (k + i) 0) (v.getD i 0) 1)) v k cap q (carD (xs.getD (k + i) 0) (v.getD i 0) 1) (i + 1))) :=
  mp (an (decide_eq_true h1) (an (show (decide ((0 : Int) ≤ (↑i : Int))) = true from decide_eq_true (by omega)) (an (decide_eq_true h2) (an h3 (an h3 (an (sr (AV.raw (Value.int .u64 (List.getD xs (k + i) (0 : Int))))) (an (show (decide ((0 : Int) ≤ (↑i : Int))) = true from decide_eq_true (by omega)) (an (decide_eq_true h4) (an (sr (AV.raw (Value.int .u64 (List.getD v i (0 : Int))))) (an (show (decide ((0 : Int) ≤ (↑i : Int))) = true from decide_eq_true (by omega)) (an (decide_eq_true h2) (an h3 (an (fits_i64 h5) (an (an (rr k) (an (rr (v.length + (1 : Nat))) (rr cap))) (an (rr v) (an (rr ((↑v.length : Int))) (an (rr q) (an h6 (an (rr ((↑v.length : Int))) (an (show ((↑i : Int) + 1) = ((↑(i + (1 : Nat)) : Int)) from (by omega)) (an h7 trivial)))))))))))))))))))))
theorem sc_end (xs v : List Int) (k : Nat) (cap : Cap) (q c b : Int) (i : Nat) (h1 : ¬(↑i : Int) < (↑v.length : Int)) :
    Tst.path (vall Tryz.prog stCs (fl BStep stL2) (SSc xs v k cap q c b i)) [false] (toSt Tryz.prog 186 (.exit 2) s64 (SSc xs v k cap q c b i)) :=
  mp (an (decide_eq_false h1) (an (an (rr k) (an (rr (v.length + (1 : Nat))) (rr cap))) (an (rr v) (an (rr ((↑v.length : Int))) (an (rr q) (an (rr b) (an (rr c) (an (rr ((↑v.length : Int))) (an (rr ((↑i : Int))) (an (rr xs) trivial))))))))))
theorem se_ret (xs v : List Int) (k : Nat) (cap : Cap) (q b : Int) (h1 : b = 0) :
    Tst.path (vall Tryz.prog stCs (List.drop 11 (fl BStep [])) (SSe xs v k cap q b)) [true] (toRetE Tryz.prog Tryz.f216 168 tU xs (uv q)) :=
  mp (an (beq_iff_eq.mpr h1) (an (rr q) (rr xs)))
theorem se_go (xs v : List Int) (k : Nat) (cap : Cap) (q b : Int) (h1 : ¬b = 0) :
    Tst.path (vrun Tryz.prog stCs (List.drop 11 (fl BStep [])) 4 (SSe xs v k cap q b)) [false] (toSt Tryz.prog 186 .normal s64 (SSd xs v k cap q 0 0)) :=
  mp (an (beq_eq_false_iff_ne.mpr h1) (an (an (rr k) (an (rr (v.length + (1 : Nat))) (rr cap))) (an (rr v) (an (rr ((↑v.length : Int))) (an (rr q) (an (rr ((0 : Int))) (an (rr ((↑v.length : Int))) (an (rr ((0 : Int))) (an (rr xs) trivial)))))))))
theorem sd_end (xs v : List Int) (k : Nat) (cap : Cap) (q c : Int) (i : Nat) (h1 : ¬(↑i : Int) < (↑v.length : Int)) :
    Tst.path (vall Tryz.prog stCs (fl BStep stL3) (SSd xs v k cap q c i)) [false] (toSt Tryz.prog 186 (.exit 4) s64 (SSd xs v k cap q c i)) :=
  mp (an (decide_eq_false h1) (an (an (rr k) (an (rr (v.length + (1 : Nat))) (rr cap))) (an (rr v) (an (rr ((↑v.length : Int))) (an (rr q) (an (rr c) (an (rr ((↑v.length : Int))) (an (rr ((↑i : Int))) (an (rr xs) trivial)))))))))
theorem sd_ret (xs v : List Int) (k : Nat) (cap : Cap) (q c : Int) (i : Nat) (h1 : (ownHas 168 tU (some (ABlk.own 168 (.int .u64) xs)) (k + v.length)) = true) (h2 : (IntKind.wrap IntKind.u64 (q - 1)) = (decS q)) :
    Tst.path (vall Tryz.prog stCs (List.drop 16 (fl BStep [])) (SSd xs v k cap q c i)) [] (toRetE Tryz.prog Tryz.f216 168 tU (xs.set (k + v.length) (IntKind.wrap .u64 (xs.getD (k + v.length) 0 + c))) (uv (decS q))) :=
  mp (an (show (decide ((0 : Int) ≤ (↑v.length : Int))) = true from decide_eq_true (by omega)) (an (show (decide (v.length < v.length + (1 : Nat))) = true from decide_eq_true (by omega)) (an h1 (an (show (decide ((0 : Int) ≤ (↑v.length : Int))) = true from decide_eq_true (by omega)) (an (show (decide (v.length < v.length + (1 : Nat))) = true from decide_eq_true (by omega)) (an h1 (an h2 (rr (List.set xs (k + v.length) (IntKind.wrap IntKind.u64 (List.getD xs (k + v.length) (0 : Int) + c)))))))))))
def winW (xs : List Int) (k len : Nat) : List Int := (xs.drop k).take len
def stQ (xs : List Int) (k len : Nat) (v : List Int) : Int := vw (winW xs k len) / vw v
def stOut (xs : List Int) (k len : Nat) (v : List Int) : List Int := xs.take k ++ (padD 18446744073709551616 len (vw (winW xs k len) % vw v) ++ xs.drop (k + len))
def stPre (xs : List Int) (k len : Nat) (v : List Int) : Bool := dgB xs && (dgB v && (decide (2 ≤ v.length) && (Nat.beq len (v.length + 1) && (decide (v.length ≤ 1000000) && (decide (9223372036854775808 ≤ v.getD (v.length - 1) 0) && decide (vw (winW xs k len) < 18446744073709551616 * vw v))))))
noncomputable def eStep : ECtr := { f := 216, e := 168, t := tU, ps := [.list false tU], rs := [tU], pre := fun xs k len d => stPre xs k len d.1, out := fun xs k len d => stOut xs k len d.1, fn := fun xs k len d => (stQ xs k len d.1, ()) }
theorem get_mid {p u s : List Int} {i : Nat} (hi : i < u.length) : (p ++ (u ++ s)).getD (p.length + i) 0 = u.getD i 0 := by
  simp only [List.getD_eq_getElem?_getD]
  rw [List.getElem?_append_right (by omega), Nat.add_sub_cancel_left, List.getElem?_append_left hi]
theorem set_mid {p u s : List Int} {i : Nat} {x : Int} (hi : i < u.length) : (p ++ (u ++ s)).set (p.length + i) x = p ++ (u.set i x ++ s) := by
  rw [List.set_append_right _ _ (by omega), Nat.add_sub_cancel_left, List.set_append_left _ _ hi]
theorem own_mid {p u s : List Int} {i : Nat} (hi : i < u.length) : ownHas 168 tU (some (.own 168 tU (p ++ (u ++ s)))) (p.length + i) = true := by
  rw [ownHas_own]
  exact decide_eq_true (by rw [List.length_append, List.length_append]; omega)
theorem GoalL.retE' {X : Ext} {P : Program} {w0 : World} {F : Sv.Env} {n : Nat} {T : Tr AV} {H : AHeap} {Q : Exit → Tr AV → AHeap → Prop} (hK : Known P) (hm : P.follows .mixedOrders = true) {SV : VCaller} (hS : CallOk P (gS SV)) {l : List Code} {fn : Func} {e : TypeId} {t : Ty} {xs : List t.den} {res : AV} (k : Nat) (D : List Bool) (h : (Sv.vlist P SV n (l.take k) T H).path D (toRetE P fn e t xs res))
    (hq : ∀ T H, retE P fn e t xs res .ret T H → Q .ret T H) : GoalLX X P w0 F n l T H Q := by
  obtain ⟨r, h1, h2⟩ := Tst.path_gr _ _ h
  have key : GoalLX X P w0 F n (l.take k) T H (onN (fun T H => GoalLX X P w0 F n (l.drop k) T H Q) Q) := by
    refine GoalL.vlist hK hm hS (Q1 := toRetE P fn e t xs res) (fun r hr => ?_) h1 h2
    unfold toRetE at hr
    split at hr
    · refine hq _ _ ?_
      rename_i T' H'
      show (match aresults P fn T' H' with | .ok v _ => frz true H' v res ∧ H'.get 64 = some (.own e t xs) | _ => False)
      split at hr
      · obtain ⟨g1, g2⟩ := hr
        refine ⟨g1, ?_⟩
        split at g2
        · rename_i hg
          obtain ⟨k1, k2⟩ := chk_and g2
          obtain ⟨e1, rfl⟩ := eqD_ok k2
          subst e1
          rw [hg, Nat.eq_of_beq_eq_true k1]
        · exact g2.elim
      · exact hr.elim
    · exact hr.elim
  have := GoalL.split key
  rwa [List.take_append_drop] at this
theorem st_ok : CallOk Tryz.prog (gS stCs) := ctrs_ok fun c hc => by
  simp only [List.mem_cons, List.not_mem_nil, or_false] at hc
  rcases hc with rfl | rfl
  · exact cMul64_ok
  · exact cDiv64_ok
theorem mul_hl {q x : Int} : mlHi q x * 18446744073709551616 + mlLo q x = q * x := by
  unfold mlHi mlLo
  have := Int.emod_add_mul_ediv (q * x) 18446744073709551616
  omega
theorem mul_hl_dg {q x : Int} (hq : 0 ≤ q ∧ q < 18446744073709551616) (hx : 0 ≤ x ∧ x < 18446744073709551616) : (0 ≤ mlHi q x ∧ mlHi q x < 18446744073709551616) ∧ (0 ≤ mlLo q x ∧ mlLo q x < 18446744073709551616) := by
  have h0 : 0 ≤ q * x := Int.mul_nonneg hq.1 hx.1
  have h1 : q * x ≤ 18446744073709551615 * 18446744073709551615 := Int.mul_le_mul (by omega) (by omega) hx.1 (by decide)
  unfold mlHi mlLo
  omega
theorem hl_law {q x c : Int} (hq : 0 ≤ q ∧ q < 18446744073709551616) (hx : 0 ≤ x ∧ x < 18446744073709551616) (hc : 0 ≤ c ∧ c < 18446744073709551616) :
    hiS q x c * 18446744073709551616 + loS q x c = q * x + c ∧ (0 ≤ loS q x c ∧ loS q x c < 18446744073709551616) ∧ (0 ≤ hiS q x c ∧ hiS q x c < 18446744073709551616) := by
  have h0 : 0 ≤ q * x := Int.mul_nonneg hq.1 hx.1
  have h1 : q * x ≤ 18446744073709551615 * 18446744073709551615 := Int.mul_le_mul (by omega) (by omega) hx.1 (by decide)
  obtain ⟨_, hlo⟩ := mul_hl_dg hq hx
  have hs := mul_hl (q := q) (x := x)
  have hA : sumD (mlLo q x) c 0 + 18446744073709551616 * carD (mlLo q x) c 0 = mlLo q x + c ∧ (0 ≤ sumD (mlLo q x) c 0 ∧ sumD (mlLo q x) c 0 < 18446744073709551616) ∧ (carD (mlLo q x) c 0 = 0 ∨ carD (mlLo q x) c 0 = 1) := by
    have := sum_car hlo hc (.inl rfl)
    omega
  unfold hiS loS
  rw [wrapU (x := mlHi q x + carD (mlLo q x) c 0) (by omega)]
  omega
structure GG (V U q : Int) : Prop where
  rng : 0 ≤ q ∧ q < 18446744073709551616
  hi : U / V ≤ q
  lo : (q - 1) * V ≤ U
structure CI (v u0 : List Int) (q : Int) (u : List Int) (c b : Int) (i : Nat) : Prop where
  le : i ≤ v.length
  len : u.length = v.length + 1
  dg : Dg 18446744073709551616 u
  hc : 0 ≤ c ∧ c < 18446744073709551616
  hb : b = 0 ∨ b = 1
  same : ∀ j, i ≤ j → u.getD j 0 = u0.getD j 0
  val : vw (u.take i) - 18446744073709551616 ^ i * b = vw (u0.take i) - q * vw (v.take i) + 18446744073709551616 ^ i * c
theorem CI.next {v u0 u : List Int} {q c b : Int} {i : Nat} (I : CI v u0 q u c b i) (hv : Dg 18446744073709551616 v) (hq : 0 ≤ q ∧ q < 18446744073709551616) (hi : i < v.length) :
    CI v u0 q (u.set i (difD (u.getD i 0) (loS q (v.getD i 0) c) b)) (hiS q (v.getD i 0) c) (borD (u.getD i 0) (loS q (v.getD i 0) c) b) (i + 1) := by
  have hvi := hv.get (by decide) i
  have hui := I.dg.get (by decide) i
  obtain ⟨h1, h2, h3⟩ := hl_law hq hvi I.hc
  obtain ⟨g1, g2, g3⟩ := dif_bor hui h2 I.hb
  have hlen := I.len
  refine ⟨hi, by rw [List.length_set]; exact hlen, I.dg.set g2, h3, g3, fun j hj => ?_, ?_⟩
  · rw [set_get, if_neg (by omega)]; exact I.same j (by omega)
  · have hval := I.val
    unfold vw at hval ⊢
    rw [vl_set_next (by omega), vl_take' u0, vl_take' v, Int.pow_succ, ← I.same i (Nat.le_refl _)]
    exact mulsub_next h1 g1 hval
structure DI (v u0 : List Int) (u : List Int) (c : Int) (i : Nat) : Prop where
  le : i ≤ v.length
  len : u.length = v.length + 1
  dg : Dg 18446744073709551616 u
  hc : c = 0 ∨ c = 1
  same : ∀ j, i ≤ j → u.getD j 0 = u0.getD j 0
  val : vw (u.take i) + 18446744073709551616 ^ i * c = vw (u0.take i) + vw (v.take i)
theorem DI.next {v u0 u : List Int} {c : Int} {i : Nat} (I : DI v u0 u c i) (hv : Dg 18446744073709551616 v) (hi : i < v.length) :
    DI v u0 (u.set i (sumD (u.getD i 0) (v.getD i 0) c)) (carD (u.getD i 0) (v.getD i 0) c) (i + 1) := by
  have hvi := hv.get (by decide) i
  have hui := I.dg.get (by decide) i
  obtain ⟨g1, g2, g3⟩ := sum_car hui hvi I.hc
  have hlen := I.len
  refine ⟨hi, by rw [List.length_set]; exact hlen, I.dg.set g2, g3, fun j hj => ?_, ?_⟩
  · rw [set_get, if_neg (by omega)]; exact I.same j (by omega)
  · have hval := I.val
    unfold vw at hval ⊢
    rw [vl_set_next (by omega), vl_take' u0, vl_take' v, Int.pow_succ, ← I.same i (Nat.le_refl _)]
    exact add_next g1 hval
section
variable {v u0 p s : List Int} {m : Nat} {q : Int}
theorem Dg.of_len {u : List Int} {n : Nat} (h : Dg 18446744073709551616 u) (hl : u.length = n + 1) : u = padD 18446744073709551616 (n + 1) (vw u) := by
  have := pad_eq (b := 18446744073709551616) (by decide) h
  rw [hl] at this; exact this
theorem vw_last {u : List Int} {n : Nat} (hl : u.length = n + 1) : vw u = vw (u.take n) + 18446744073709551616 ^ n * u.getD n 0 := by
  have := vl_take (b := 18446744073709551616) (l := u) (k := n) (by omega)
  rw [List.take_of_length_le (by omega)] at this
  exact this
theorem CI.fin {u : List Int} {c b : Int} (I : CI v u0 q u c b v.length) (hlu : u0.length = v.length + 1) :
    vw (u.set v.length (difD (u.getD v.length 0) c b)) - 18446744073709551616 ^ (v.length + 1) * borD (u.getD v.length 0) c b = vw u0 - q * vw v ∧ Dg 18446744073709551616 (u.set v.length (difD (u.getD v.length 0) c b)) ∧ (borD (u.getD v.length 0) c b = 0 ∨ borD (u.getD v.length 0) c b = 1) ∧ (u.set v.length (difD (u.getD v.length 0) c b)).length = v.length + 1 := by
  have hui := I.dg.get (by decide) v.length
  obtain ⟨g1, g2, g3⟩ := dif_bor hui I.hc I.hb
  have hlen := I.len
  refine ⟨?_, I.dg.set g2, g3, by rw [List.length_set]; exact hlen⟩
  have hval := I.val
  rw [List.take_length] at hval
  rw [vw_last (n := v.length) (by rw [List.length_set]; exact hlen), set_take, set_at (by omega), vw_last (u := u0) hlu, ← I.same v.length (Nat.le_refl _), Int.pow_succ]
  generalize vw (u.take v.length) = a at *
  generalize vw (u0.take v.length) = a0 at *
  generalize difD (u.getD v.length 0) c b = d at *
  generalize borD (u.getD v.length 0) c b = bb at *
  generalize u.getD v.length 0 = un at *
  generalize (18446744073709551616 : Int) ^ v.length = P at *
  generalize q * vw v = qV at *
  have : P * (d - 18446744073709551616 * bb) = P * (un - c - b) := by rw [g1]
  grind
theorem fin_ok {U V : Int} (hV : 0 < V) (G : GG V U q) (h : 0 ≤ U - q * V) : U / V = q ∧ U % V = U - q * V := by
  have h1 : q ≤ U / V := (Int.le_ediv_iff_mul_le hV).2 (by omega)
  have h2 := G.hi
  have e : U / V = q := by omega
  refine ⟨e, ?_⟩
  have := Int.emod_add_mul_ediv U V
  rw [e, Int.mul_comm] at this
  omega
theorem fin_less {U V : Int} (hV : 0 < V) (G : GG V U q) (h : U - q * V < 0) : U / V = q - 1 ∧ U % V = U - q * V + V := by
  have h1 : q - 1 ≤ U / V := (Int.le_ediv_iff_mul_le hV).2 G.lo
  have h2 : U / V < q := (Int.ediv_lt_iff_lt_mul hV).2 (by omega)
  have e : U / V = q - 1 := by omega
  refine ⟨e, ?_⟩
  have := Int.emod_add_mul_ediv U V
  rw [e, Int.mul_comm, Int.sub_mul, Int.one_mul] at this
  omega
theorem DI.fin {u1 u : List Int} {c : Int} {U R : Int} (I : DI v u1 u c v.length) (hl1 : u1.length = v.length + 1) (hU : vw u1 = U + 18446744073709551616 ^ (v.length + 1)) (hR : U + vw v = R) (hR0 : 0 ≤ R) (hR1 : R < 18446744073709551616 ^ v.length) :
    u.set v.length (IntKind.wrap .u64 (u.getD v.length 0 + c)) = padD 18446744073709551616 (v.length + 1) R := by
  have hui := I.dg.get (by decide) v.length
  have hlen := I.len
  have hval := I.val
  rw [List.take_length] at hval
  rw [vw_last hl1, ← I.same v.length (Nat.le_refl _), Int.pow_succ] at hU
  have ht0 := vl_nn (b := 18446744073709551616) (by decide) (I.dg.take v.length)
  have ht1 := vl_lt (b := 18446744073709551616) (by decide) (I.dg.take v.length)
  rw [List.length_take, Nat.min_eq_left (by omega)] at ht1
  have hP := pow_pos' (b := 18446744073709551616) (by decide) v.length
  have key : u.getD v.length 0 + c = 18446744073709551616 ∧ vw (u.take v.length) = R := by
    unfold vw at *
    generalize vl 18446744073709551616 (u.take v.length) = a at *
    generalize vl 18446744073709551616 (u1.take v.length) = a1 at *
    generalize u.getD v.length 0 = un at *
    generalize (18446744073709551616 : Int) ^ v.length = P at *
    have e : P * (un + c - 18446744073709551616) = R - a := by grind
    have hz : un + c - 18446744073709551616 = 0 := by
      rcases Int.lt_trichotomy (un + c - 18446744073709551616) 0 with h | h | h
      · have := Int.mul_le_mul_of_nonneg_left (show un + c - 18446744073709551616 ≤ -1 by omega) (Int.le_of_lt hP)
        omega
      · exact h
      · have := Int.mul_le_mul_of_nonneg_left (show 1 ≤ un + c - 18446744073709551616 by omega) (Int.le_of_lt hP)
        omega
    rw [hz, Int.mul_zero] at e
    omega
  rw [key.1]
  have hw : IntKind.wrap .u64 18446744073709551616 = 0 := by rw [wrapU_mod]; rfl
  rw [hw]
  have hd : Dg 18446744073709551616 (u.set v.length 0) := I.dg.set (by decide)
  have := hd.of_len (n := v.length) (by rw [List.length_set]; exact hlen)
  rw [this]
  congr 1
  rw [vw_last (n := v.length) (by rw [List.length_set]; exact hlen), set_take, set_at (by omega), Int.mul_zero, Int.add_zero]
  exact key.2
end
end
end Go.Proofs.YtjcbbabaabcdgaaGreatDoor
