/- Package num: the product of lists of words. -/
import Derived.Test.YtjcbbabaabcdgaaGreatDoorZgVNc
import Derived.Test.YtjcbbabaabcdgaaGreatDoorZgGTr3
namespace Go.Proofs.YtjcbbabaabcdgaaGreatDoor
open Go.RowKit Sv
set_option maxRecDepth 100000
set_option linter.unusedVariables false
noncomputable section
def mlHi (x y : Int) : Int := x * y / 18446744073709551616
def mlLo (x y : Int) : Int := x * y % 18446744073709551616
def okM (x y : Int) : Bool := (decide (0 ≤ x) && decide (x < 18446744073709551616)) && (decide (0 ≤ y) && decide (y < 18446744073709551616))
noncomputable def cMul64 : Ctr := { f := 136, ps := [tU, tU], rs := [tU, tU], fresh := true, pre := fun d => okM d.1 d.2.1, fn := fun d => (mlHi d.1 d.2.1, (mlLo d.1 d.2.1, ())) }
noncomputable def mwCs : VCaller := ctrs [cTrim, cMul64]
noncomputable def BMul : Code := (Tryz.f140.body).getD .skip
abbrev mwO : List Nat := [1, 1, 0, 1, 0, 0]
abbrev mwB : List Nat := [1, 1, 0, 1, 0, 0, 1, 1, 0, 0]
abbrev mwI : List Nat := [1, 1, 0, 1, 0, 0, 1, 1, 0, 0, 1, 1, 0, 1, 0, 0]
def SMo (a b out : List Int) (i : Nat) : St := { n := 80, sl := [(1, lu b), (5, obU 64 out), (20, lu a), (21, iv a.length), (22, iv i)], en := [(64, oeU out)], next := 65 }
def SMi (a b out : List Int) (i : Nat) (x c : Int) (j : Nat) : St := { n := 80, sl := [(1, lu b), (5, obU 64 out), (6, iv i), (7, uv x), (8, uv c), (20, lu a), (21, iv a.length), (22, iv i), (27, lu b), (28, iv b.length), (29, iv j)], en := [(64, oeU out)], next := 65 }
def mwLo (x y o c : Int) : Int := (((((mlLo x y).toNat + o.toNat + Int.toNat 0) % 2 ^ 64) + c.toNat + Int.toNat 0) % 2 ^ 64 : Nat)
def mwHi (x y o c : Int) : Int := IntKind.u64.wrap (IntKind.u64.wrap (mlHi x y + (((((mlLo x y).toNat + o.toNat + Int.toNat 0) / 2 ^ 64) : Nat) : Int)) + (((((((mlLo x y).toNat + o.toNat + Int.toNat 0) % 2 ^ 64) + c.toNat + Int.toNat 0) / 2 ^ 64) : Nat) : Int))
def SMg (out : List Int) : St := { n := 80, sl := [(5, lu out)], en := [], next := 64 }
theorem mw_start (a b : List Int) (h1 : -9223372036854775808 ≤ (↑a.length : Int) + (↑b.length : Int) ∧ (↑a.length : Int) + (↑b.length : Int) ≤ 9223372036854775807) (h2 : Int.toNat ((↑a.length : Int) + (↑b.length : Int)) ≤ 1000000) (h3 : (Int.toNat ((↑a.length : Int) + (↑b.length : Int))) = (zerW (a.length + b.length)).length) (h4 : (Cap.known (Int.toNat ((↑a.length : Int) + (↑b.length : Int)))) = (Cap.known (a.length + b.length))) (h5 : (capOf (zerW (a.length + b.length)).length) = (capOf (a.length + b.length))) (h6 : (List.flatten (List.replicate (Int.toNat ((↑a.length : Int) + (↑b.length : Int))) (List.map AV.raw (Array.toList #[Value.int .u64 (0 : Int)])))) = (List.flatMap (fun x => [AV.raw (Value.int .u64 x)]) (zerW (a.length + b.length)))) (h7 : (a.length + b.length) = (zerW (a.length + b.length)).length) :
    Tst.path (vrun0 Tryz.prog mwCs (fl BMul []) 3 80 [lu a, lu b]) [] (toSt Tryz.prog 80 .normal [(64, 64, some (a.length + b.length))] (SMo a b (zerW (a.length + b.length)) 0)) :=
  mp (an (fits_i64 h1) (an (show (decide ((0 : Int) ≤ (↑a.length : Int) + (↑b.length : Int))) = true from decide_eq_true (by omega)) (an (show (decide ((0 : Int) ≤ (↑a.length : Int) + (↑b.length : Int))) = true from decide_eq_true (by omega)) (an (show (decide (Int.toNat ((↑a.length : Int) + (↑b.length : Int)) ≤ Int.toNat ((↑a.length : Int) + (↑b.length : Int)))) = true from decide_eq_true (by omega)) (an (show (bounded (Int.toNat ((↑a.length : Int) + (↑b.length : Int))) (8 : Nat)) = true from bounded_of h2 (by omega)) (an (rr b) (an (an h3 (an h4 h5)) (an (rr a) (an (rr ((↑a.length : Int))) (an (rr ((0 : Int))) (an (an h6 h7) trivial)))))))))))
theorem mw_go (a b out : List Int) (i : Nat) (h1 : (↑i : Int) < (↑a.length : Int)) :
    Tst.path (vrun Tryz.prog mwCs (fl BMul mwO) 2 (SMo a b out i)) [true] (toSt Tryz.prog 80 .normal [(64, 64, none)] (SMo a b out i)) :=
  mp (an (decide_eq_true h1) (an (rr b) (an (an (rr ((0 : Nat))) (an (rr out.length) (rr (capOf out.length)))) (an (rr a) (an (rr ((↑a.length : Int))) (an (rr ((↑i : Int))) (an (show (fitOpt Tryz.prog none (optOwn (nat_lit 168) tU out) (nat_lit 168) tU out) from (fitOpt_refl _ _ _ _)) trivial)))))))
theorem mw_stop (a b out : List Int) (i : Nat) (h1 : ¬(↑i : Int) < (↑a.length : Int)) :
    Tst.path (vrun Tryz.prog mwCs (fl BMul mwO) 2 (SMo a b out i)) [false] (toSt Tryz.prog 80 (.exit 0) [(64, 64, none)] (SMo a b out i)) :=
  mp (an (decide_eq_false h1) (an (rr b) (an (an (rr ((0 : Nat))) (an (rr out.length) (rr (capOf out.length)))) (an (rr a) (an (rr ((↑a.length : Int))) (an (rr ((↑i : Int))) (an (show (fitOpt Tryz.prog none (optOwn (nat_lit 168) tU out) (nat_lit 168) tU out) from (fitOpt_refl _ _ _ _)) trivial)))))))
theorem mw_in (a b out : List Int) (i : Nat) (h1 : i < a.length) :
    Tst.path (vrun Tryz.prog mwCs (fl BMul mwB) 3 (SMo a b out i)) [] (toSt Tryz.prog 80 .normal [(64, 64, none)] (SMi a b out i (a.getD i 0) 0 0)) :=
  mp (an (show (decide ((0 : Int) ≤ (↑i : Int))) = true from decide_eq_true (by omega)) (an (decide_eq_true h1) (an (rr b) (an (an (rr ((0 : Nat))) (an (rr out.length) (rr (capOf out.length)))) (an (rr ((↑i : Int))) (an (rr (List.getD a i (0 : Int))) (an (rr ((0 : Int))) (an (rr a) (an (rr ((↑a.length : Int))) (an (rr ((↑i : Int))) (an (rr b) (an (rr ((↑b.length : Int))) (an (rr ((0 : Int))) (an (show (fitOpt Tryz.prog none (optOwn (nat_lit 168) tU out) (nat_lit 168) tU out) from (fitOpt_refl _ _ _ _)) trivial))))))))))))))
theorem mw_jgo (a b out : List Int) (i : Nat) (x c : Int) (j : Nat) (h1 : (↑j : Int) < (↑b.length : Int)) (h2 : j < b.length) (h3 : (okM x (List.getD b j (0 : Int))) = true) (h4 : -9223372036854775808 ≤ (↑i : Int) + (↑j : Int) ∧ (↑i : Int) + (↑j : Int) ≤ 9223372036854775807) (h5 : Int.toNat ((↑i : Int) + (↑j : Int)) < out.length) (h6 : -9223372036854775808 ≤ (↑j : Int) + 1 ∧ (↑j : Int) + 1 ≤ 9223372036854775807) (h7 : out.length = (List.set out (Int.toNat ((↑i : Int) + (↑j : Int))) (mwLo x (List.getD b j (0 : Int)) (List.getD out (Int.toNat ((↑i : Int) + (↑j : Int))) (0 : Int)) c)).length) (h8 : (capOf out.length) = (capOf (List.set out (Int.toNat ((↑i : Int) + (↑j : Int))) (mwLo x (List.getD b j (0 : Int)) (List.getD out (Int.toNat ((↑i : Int) + (↑j : Int))) (0 : Int)) c)).length)) (h9 : (IntKind.wrap IntKind.u64 (IntKind.wrap IntKind.u64 (mlHi x (List.getD b j (0 : Int)) + (↑((Int.toNat (mlLo x (List.getD b j (0 : Int))) + Int.toNat (List.getD out (Int.toNat ((↑i : Int) + (↑j : Int))) (0 : Int)) + Int.toNat (0 : Int)) / (2 : Nat) ^ (64 : Nat)) : Int)) + (↑(((Int.toNat (mlLo x (List.getD b j (0 : Int))) + Int.toNat (List.getD out (Int.toNat ((↑i : Int) + (↑j : Int))) (0 : Int)) + Int.toNat (0 : Int)) % (2 : Nat) ^ (64 : Nat) + Int.toNat c + Int.toNat (0 : Int)) / (2 : Nat) ^ (64 : Nat)) : Int))) = (mwHi x (List.getD b j (0 : Int)) (List.getD out (Int.toNat ((↑i : Int) + (↑j : Int))) (0 : Int)) c)) (h10 : (List.set out (Int.toNat ((↑i : Int) + (↑j : Int))) (↑(((Int.toNat (mlLo x (List.getD b j (0 : Int))) + Int.toNat (List.getD out (Int.toNat ((↑i : Int) + (↑j : Int))) (0 : Int)) + Int.toNat (0 : Int)) % (2 : Nat) ^ (64 : Nat) + Int.toNat c + Int.toNat (0 : Int)) % (2 : Nat) ^ (64 : Nat)) : Int)) = (List.set out (Int.toNat ((↑i : Int) + (↑j : Int))) (mwLo x (List.getD b j (0 : Int)) (List.getD out (Int.toNat ((↑i : Int) + (↑j : Int))) (0 : Int)) c))) :
    Tst.path (vall Tryz.prog mwCs (fl BMul mwI) (SMi a b out i x c j)) [true] (toSt Tryz.prog 80 .normal [(64, 64, none)] (SMi a b (out.set ((i : Int) + (j : Int)).toNat (mwLo x (b.getD j 0) (out.getD ((i : Int) + (j : Int)).toNat 0) c)) i x (mwHi x (b.getD j 0) (out.getD ((i : Int) + (j : Int)).toNat 0) c) (j + 1))) :=
  mp (an (decide_eq_true h1) (an (show (decide ((0 : Int) ≤ (↑j : Int))) = true from decide_eq_true (by omega)) (an (decide_eq_true h2) (an h3 (an (fits_i64 h4) (an (show (decide ((0 : Int) ≤ (↑i : Int) + (↑j : Int))) = true from decide_eq_true (by omega)) (an (decide_eq_true h5) (an (show (ownHas 168 tU (optOwn (nat_lit 168) tU out) ((0 : Nat) + Int.toNat ((↑i : Int) + (↑j : Int)))) = true from (by simp only [Nat.zero_add] <;> exact (show (ownHas 168 tU (optOwn (nat_lit 168) tU out) (Int.toNat ((↑i : Int) + (↑j : Int)))) = true from (by rw [ownHas_optOwn]; exact decide_eq_true h5)))) (an (fits_i64 h4) (an (show (decide ((0 : Int) ≤ (↑i : Int) + (↑j : Int))) = true from decide_eq_true (by omega)) (an (decide_eq_true h5) (an (show (ownHas 168 tU (optOwn (nat_lit 168) tU out) ((0 : Nat) + Int.toNat ((↑i : Int) + (↑j : Int)))) = true from (by simp only [Nat.zero_add] <;> exact (show (ownHas 168 tU (optOwn (nat_lit 168) tU out) (Int.toNat ((↑i : Int) + (↑j : Int)))) = true from (by rw [ownHas_optOwn]; exact decide_eq_true h5)))) (an (fits_i64 h6) (an (rr b) (an (an (rr ((0 : Nat))) (an h7 h8)) (an (rr ((↑i : Int))) (an (rr x) (an (show (IntKind.wrap IntKind.u64 (IntKind.wrap IntKind.u64 (mlHi x (List.getD b j (0 : Int)) + (↑((Int.toNat (mlLo x (List.getD b j (0 : Int))) + Int.toNat (List.getD (blkXs tU (optOwn (nat_lit 168) tU out)) ((0 : Nat) + Int.toNat ((↑i : Int) + (↑j : Int))) (0 : Int)) + Int.toNat (0 : Int)) / (2 : Nat) ^ (64 : Nat)) : Int)) + (↑(((Int.toNat (mlLo x (List.getD b j (0 : Int))) + Int.toNat (List.getD (blkXs tU (optOwn (nat_lit 168) tU out)) ((0 : Nat) + Int.toNat ((↑i : Int) + (↑j : Int))) (0 : Int)) + Int.toNat (0 : Int)) % (2 : Nat) ^ (64 : Nat) + Int.toNat c + Int.toNat (0 : Int)) / (2 : Nat) ^ (64 : Nat)) : Int))) = (mwHi x (List.getD b j (0 : Int)) (List.getD out (Int.toNat ((↑i : Int) + (↑j : Int))) (0 : Int)) c) from (by simp only [blkXs_optOwn, Nat.zero_add] <;> exact h9)) (an (rr a) (an (rr ((↑a.length : Int))) (an (rr ((↑i : Int))) (an (rr b) (an (rr ((↑b.length : Int))) (an (show ((↑j : Int) + 1) = ((↑(j + (1 : Nat)) : Int)) from (by omega)) (an (show (List.set (blkXs tU (optOwn (nat_lit 168) tU out)) ((0 : Nat) + Int.toNat ((↑i : Int) + (↑j : Int))) (↑(((Int.toNat (mlLo x (List.getD b j (0 : Int))) + Int.toNat (List.getD (blkXs tU (optOwn (nat_lit 168) tU out)) ((0 : Nat) + Int.toNat ((↑i : Int) + (↑j : Int))) (0 : Int)) + Int.toNat (0 : Int)) % (2 : Nat) ^ (64 : Nat) + Int.toNat c + Int.toNat (0 : Int)) % (2 : Nat) ^ (64 : Nat)) : Int)) = (List.set out (Int.toNat ((↑i : Int) + (↑j : Int))) (mwLo x (List.getD b j (0 : Int)) (List.getD out (Int.toNat ((↑i : Int) + (↑j : Int))) (0 : Int)) c)) from (by simp only [blkXs_optOwn, Nat.zero_add] <;> exact h10)) trivial)))))))))))))))))))))))))
theorem mw_jend (a b out : List Int) (i : Nat) (x c : Int) (j : Nat) (h1 : ¬(↑j : Int) < (↑b.length : Int)) :
    Tst.path (vall Tryz.prog mwCs (fl BMul mwI) (SMi a b out i x c j)) [false] (toSt Tryz.prog 80 (.exit 2) [(64, 64, none)] (SMi a b out i x c j)) :=
  mp (an (decide_eq_false h1) (an (rr b) (an (an (rr ((0 : Nat))) (an (rr out.length) (rr (capOf out.length)))) (an (rr ((↑i : Int))) (an (rr x) (an (rr c) (an (rr a) (an (rr ((↑a.length : Int))) (an (rr ((↑i : Int))) (an (rr b) (an (rr ((↑b.length : Int))) (an (rr ((↑j : Int))) (an (show (fitOpt Tryz.prog none (optOwn (nat_lit 168) tU out) (nat_lit 168) tU out) from (fitOpt_refl _ _ _ _)) trivial)))))))))))))
theorem mw_row (a b out : List Int) (i : Nat) (x c : Int) (j : Nat) (h1 : -9223372036854775808 ≤ (↑i : Int) + (↑b.length : Int) ∧ (↑i : Int) + (↑b.length : Int) ≤ 9223372036854775807) (h2 : Int.toNat ((↑i : Int) + (↑b.length : Int)) < out.length) (h3 : out.length = (List.set out (Int.toNat ((↑i : Int) + (↑b.length : Int))) c).length) (h4 : (capOf out.length) = (capOf (List.set out (Int.toNat ((↑i : Int) + (↑b.length : Int))) c).length)) :
    Tst.path (vall Tryz.prog mwCs (List.drop 4 (fl BMul mwB)) (SMi a b out i x c j)) [] (toSt Tryz.prog 80 .normal [(64, 64, none)] (SMo a b (out.set ((i : Int) + (b.length : Int)).toNat c) i)) :=
  mp (an (fits_i64 h1) (an (show (decide ((0 : Int) ≤ (↑i : Int) + (↑b.length : Int))) = true from decide_eq_true (by omega)) (an (decide_eq_true h2) (an (show (ownHas 168 tU (optOwn (nat_lit 168) tU out) ((0 : Nat) + Int.toNat ((↑i : Int) + (↑b.length : Int)))) = true from (by simp only [Nat.zero_add] <;> exact (show (ownHas 168 tU (optOwn (nat_lit 168) tU out) (Int.toNat ((↑i : Int) + (↑b.length : Int)))) = true from (by rw [ownHas_optOwn]; exact decide_eq_true h2)))) (an (rr b) (an (an (rr ((0 : Nat))) (an h3 h4)) (an (rr a) (an (rr ((↑a.length : Int))) (an (rr ((↑i : Int))) (an (show (List.set (blkXs tU (optOwn (nat_lit 168) tU out)) ((0 : Nat) + Int.toNat ((↑i : Int) + (↑b.length : Int))) c) = (List.set out (Int.toNat ((↑i : Int) + (↑b.length : Int))) c) from (by simp only [blkXs_optOwn, Nat.zero_add] <;> rfl)) trivial))))))))))
theorem mw_next (a b out : List Int) (i : Nat) (h1 : -9223372036854775808 ≤ (↑i : Int) + 1 ∧ (↑i : Int) + 1 ≤ 9223372036854775807) :
    Tst.path (vall Tryz.prog mwCs (List.drop 3 (fl BMul mwO)) (SMo a b out i)) [] (toSt Tryz.prog 80 .normal [(64, 64, none)] (SMo a b out (i + 1))) :=
  mp (an (fits_i64 h1) (an (rr b) (an (an (rr ((0 : Nat))) (an (rr out.length) (rr (capOf out.length)))) (an (rr a) (an (rr ((↑a.length : Int))) (an (show ((↑i : Int) + 1) = ((↑(i + (1 : Nat)) : Int)) from (by omega)) (an (show (fitOpt Tryz.prog none (optOwn (nat_lit 168) tU out) (nat_lit 168) tU out) from (fitOpt_refl _ _ _ _)) trivial)))))))
theorem mw_fit (a b out : List Int) (i : Nat)  :
    Tst.path ((Tst.ret (R.normal ((SMo a b out i).T.set 5 (some (lu out))) ((SMo a b out i).H.drop 64) []) : Tst R)) [] (toSt Tryz.prog 80 .normal [] (SMg out)) :=
  mp (an (rr out) trivial)
theorem mw_ret (out : List Int) (h1 : out.length ≤ (1000000 : Nat)) :
    Tst.path (vall Tryz.prog mwCs (List.drop 4 (fl BMul [])) (SMg out)) [] (toRet Tryz.prog Tryz.f140 false (lu (trW out))) :=
  mp (an (decide_eq_true h1) (rr (trW out)))
def mulW (x y : List Int) : List Int := dgN 18446744073709551616 (vw x * vw y)
noncomputable def cMulW : Ctr := { f := 140, ps := [.list false tU, .list false tU], rs := [.list false tU], fresh := false, pre := fun d => okW2 d.1 d.2.1, fn := fun d => (mulW d.1 d.2.1, ()) }
theorem holds_pairU {f : FuncId} {args : List AV} {a b : Int} {fresh : Bool} (h : ∀ (w : World) (F : Env) (xs : List Value), OkF w F → Sv.Grd F → Dens F args xs → Calls Tryz.prog f xs.toArray w fun e w' => e = .returned (.tuple #[.int .u64 a, .int .u64 b]) ∧ Below w.heap.size w w') :
    Holds Tryz.prog fresh f args (.tuple [uv a, uv b]) := fun w F xs hF hG hd =>
  (h w F xs hF hG hd).mono fun e w' ⟨g1, g2⟩ => ⟨_, ⟨F.at', fun _ => none⟩, g1, .tuple (.cons (.raw _) (.cons (.raw _) .nil)), ⟨hF.glob, hF.all, fun b A h => by cases h⟩, (fun b A h => by cases h), g2⟩
theorem okM_iff {x y : Int} : okM x y = true ↔ (0 ≤ x ∧ x < 18446744073709551616) ∧ (0 ≤ y ∧ y < 18446744073709551616) := by
  unfold okM
  simp only [Bool.and_eq_true, decide_eq_true_eq]
theorem mul64_holds (X Y : Nat) (hx : X < 18446744073709551616) (hy : Y < 18446744073709551616) : Holds Tryz.prog true 136 [uv X, uv Y] (.tuple [uv (mlHi X Y), uv (mlLo X Y)]) :=
  holds_pairU fun w F xs hF hG hd => by
    cases hd with
    | cons d1 d2 =>
      cases d2 with
      | cons d2 d3 =>
        cases d3
        rw [d1.raw_eq, d2.raw_eq]
        exact (Tryz.bits_Mul64 X Y hx hy w).mono fun e w' ⟨h1, h2⟩ => ⟨h1, by subst h2; exact Below.refl _ _⟩
theorem mul64_int (x y : Int) (h : okM x y = true) : Holds Tryz.prog true 136 [uv x, uv y] (.tuple [uv (mlHi x y), uv (mlLo x y)]) := by
  obtain ⟨⟨x0, x1⟩, y0, y1⟩ := okM_iff.1 h
  have := mul64_holds x.toNat y.toNat (by omega) (by omega)
  rw [Int.toNat_of_nonneg x0, Int.toNat_of_nonneg y0] at this
  exact this
theorem cMul64_ok : cMul64.Ok Tryz.prog := fun ⟨x, y, _⟩ h => mul64_int x y h
theorem mw_ok : CallOk Tryz.prog (gS mwCs) := ctrs_ok fun c hc => by
  simp only [List.mem_cons, List.not_mem_nil, or_false] at hc
  rcases hc with rfl | rfl
  · exact cTrim_ok
  · exact cMul64_ok
theorem wrapU {x : Int} (h : 0 ≤ x ∧ x < 18446744073709551616) : IntKind.wrap .u64 x = x := by
  unfold IntKind.wrap
  have e : IntKind.signed .u64 = false := rfl
  have e2 : IntKind.bits .u64 = 64 := rfl
  simp only [e, e2, Bool.false_and, Bool.false_eq_true, if_false]
  rw [show (2 : Int) ^ 64 = 18446744073709551616 from rfl]
  omega
theorem mul_law {x y o c : Int} (hx : 0 ≤ x ∧ x < 18446744073709551616) (hy : 0 ≤ y ∧ y < 18446744073709551616) (ho : 0 ≤ o ∧ o < 18446744073709551616) (hc : 0 ≤ c ∧ c < 18446744073709551616) :
    mwLo x y o c + 18446744073709551616 * mwHi x y o c = x * y + o + c ∧ (0 ≤ mwLo x y o c ∧ mwLo x y o c < 18446744073709551616) ∧ (0 ≤ mwHi x y o c ∧ mwHi x y o c < 18446744073709551616) := by
  have hp0 : 0 ≤ x * y := Int.mul_nonneg hx.1 hy.1
  have hp1 : x * y ≤ 18446744073709551615 * 18446744073709551615 := Int.mul_le_mul (by omega) (by omega) hy.1 (by decide)
  unfold mwLo mwHi mlHi mlLo
  generalize x * y = p at *
  rw [show (2 : Nat) ^ 64 = 18446744073709551616 from rfl]
  have e0 : Int.toNat 0 = 0 := rfl
  rw [e0]
  have hr := Int.emod_nonneg p (show (18446744073709551616 : Int) ≠ 0 by decide)
  have hr2 := Int.emod_lt_of_pos p (show (0 : Int) < 18446744073709551616 by decide)
  have hq := Int.emod_add_mul_ediv p 18446744073709551616
  generalize p % 18446744073709551616 = r at *
  generalize p / 18446744073709551616 = q at *
  have hq0 : 0 ≤ q ∧ q ≤ 18446744073709551614 := by omega
  obtain ⟨R, rfl⟩ : ∃ R : Nat, r = (R : Int) := ⟨r.toNat, by omega⟩
  obtain ⟨O, rfl⟩ : ∃ O : Nat, o = (O : Int) := ⟨o.toNat, by omega⟩
  obtain ⟨C, rfl⟩ : ∃ C : Nat, c = (C : Int) := ⟨c.toNat, by omega⟩
  simp only [Int.toNat_natCast, Nat.add_zero]
  have k1 : (R + O) / 18446744073709551616 ≤ 1 := by omega
  have k3 := Nat.mod_add_div (R + O) 18446744073709551616
  have k4 := Nat.mod_lt (R + O) (show 18446744073709551616 > 0 by decide)
  generalize (R + O) / 18446744073709551616 = c1 at *
  generalize (R + O) % 18446744073709551616 = l1 at *
  have k5 := Nat.mod_add_div (l1 + C) 18446744073709551616
  have k6 := Nat.mod_lt (l1 + C) (show 18446744073709551616 > 0 by decide)
  have k7 : (l1 + C) / 18446744073709551616 ≤ 1 := by omega
  generalize (l1 + C) / 18446744073709551616 = c2 at *
  generalize (l1 + C) % 18446744073709551616 = l2 at *
  rw [wrapU (x := q + (c1 : Int)) (by omega), wrapU (x := q + (c1 : Int) + (c2 : Int)) (by omega)]
  omega
theorem mw_e0 : List.drop 4 (fl BMul []) ≠ [] := fun h => by
  have : (List.drop 4 (fl BMul [])).isEmpty = false := by kernel_rfl
  rw [h] at this; cases this
theorem row_next {P b lo hi x y o c V W M : Int} (h : lo + b * hi = x * y + o + c) (hv : V + P * c = M) : V + P * (lo - o) + P * b * hi = M + P * (x * y) := by
  have h1 : P * (lo + b * hi) = P * (x * y + o + c) := by rw [h]
  rw [Int.mul_add, Int.mul_add, Int.mul_add, ← Int.mul_assoc] at h1
  rw [Int.mul_sub]
  omega
theorem mulW_holds (x y : List Int) (h : okW2 x y = true) : Holds Tryz.prog false 140 [lu x, lu y] (lu (mulW x y)) := by
  unfold okW2 at h
  simp only [Bool.and_eq_true, decide_eq_true_eq] at h
  obtain ⟨hx, hy, lx, ly⟩ := h
  have hx := dgB_iff.1 hx
  have hy := dgB_iff.1 hy
  have hS := mw_ok
  have e1 : ((x.length : Int) + (y.length : Int)).toNat = x.length + y.length := by omega
  refine holds_fl (c := BMul) Tryz.func140 rfl rfl fun w0 F => ?_
  refine GoalL.to known mixed hS 3 _ (mw_start x y (by omega) (by omega) (by rw [zer_len, e1]) (by rw [e1]) (by rw [zer_len]) (by rw [e1]; exact zer_cells _) (by rw [zer_len])) (by kernel_rfl) ?_
  refine GoalL.loop (ι := { s : List Int × Nat // s.2 ≤ x.length ∧ s.1.length = x.length + y.length ∧ Dg 18446744073709551616 s.1 ∧ vw s.1 = vw (x.take s.2) * vw y ∧ ∀ k, s.2 + y.length ≤ k → s.1.getD k 0 = 0 }) (id := 0) (b := cat BMul mwO) (rest := List.drop 4 (fl BMul [])) (by kernel_rfl) (fun s => SMo x y s.1.1 s.1.2) (fun s => x.length - s.1.2)
    ⟨(zerW (x.length + y.length), 0), Nat.zero_le _, zer_len _, zer_dg _, by
      show vl _ (List.replicate _ 0) = vl _ (x.take 0) * _
      rw [vl_rep]; simp [vl], fun k _ => by
      show (List.replicate _ (0 : Int)).getD k 0 = 0
      rw [List.getD_eq_getElem?_getD, List.getElem?_replicate]; split <;> rfl⟩ (fun _ => rfl) ?_
  rintro ⟨⟨out, i⟩, hi, ho, hdg, hval, hz⟩
  have hi : i ≤ x.length := hi
  have ho : out.length = x.length + y.length := ho
  have hdg : Dg 18446744073709551616 out := hdg
  have hval : vw out = vw (x.take i) * vw y := hval
  have hz : ∀ k, i + y.length ≤ k → out.getD k 0 = 0 := hz
  by_cases hlt : i < x.length
  · have hxi := hx.get (by decide) i
    refine GoalL.st (s := SMo x y out i) known mixed hS 2 _ (mw_go x y out i (by omega)) (by kernel_rfl) ?_
    refine goalL_blk (id := 1) (c := cat BMul mwB) (rest := List.drop 3 (fl BMul mwO)) (by kernel_rfl) ?_
    refine GoalL.st (s := SMo x y out i) known mixed hS 3 _ (mw_in x y out i hlt) (by kernel_rfl) ?_
    refine GoalL.loop (ι := { s : List Int × Int × Nat // s.2.2 ≤ y.length ∧ s.1.length = x.length + y.length ∧ Dg 18446744073709551616 s.1 ∧ (0 ≤ s.2.1 ∧ s.2.1 < 18446744073709551616) ∧ vw s.1 + 18446744073709551616 ^ (i + s.2.2) * s.2.1 = vw out + 18446744073709551616 ^ i * (x.getD i 0 * vw (y.take s.2.2)) ∧ ∀ k, i + y.length ≤ k → s.1.getD k 0 = 0 }) (id := 2) (b := cat BMul mwI) (rest := List.drop 4 (fl BMul mwB)) (by kernel_rfl) (fun s => SMi x y s.1.1 i (x.getD i 0) s.1.2.1 s.1.2.2) (fun s => y.length - s.1.2.2)
      ⟨(out, 0, 0), Nat.zero_le _, ho, hdg, ⟨Int.le_refl 0, show (0 : Int) < 18446744073709551616 by decide⟩, by simp [vw, vl], hz⟩ (fun _ => rfl) ?_
    rintro ⟨⟨ou, c, j⟩, hj, ho2, hdg2, hc, hinv, hz2⟩
    have hj : j ≤ y.length := hj
    have ho2 : ou.length = x.length + y.length := ho2
    have hdg2 : Dg 18446744073709551616 ou := hdg2
    have hc : 0 ≤ c ∧ c < 18446744073709551616 := hc
    have hinv : vw ou + 18446744073709551616 ^ (i + j) * c = vw out + 18446744073709551616 ^ i * (x.getD i 0 * vw (y.take j)) := hinv
    have hz2 : ∀ k, i + y.length ≤ k → ou.getD k 0 = 0 := hz2
    have e2 : ((i : Int) + (j : Int)).toNat = i + j := by omega
    have e3 : ((i : Int) + (y.length : Int)).toNat = i + y.length := by omega
    by_cases hlj : j < y.length
    · have hyj := hy.get (by decide) j
      have hoj := hdg2.get (by decide) (i + j)
      obtain ⟨g1, g2, g3⟩ := mul_law hxi hyj hoj hc
      refine GoalL.all (s := SMi x y ou i (x.getD i 0) c j) (s' := SMi x y (ou.set ((i : Int) + (j : Int)).toNat (mwLo (x.getD i 0) (y.getD j 0) (ou.getD ((i : Int) + (j : Int)).toNat 0) c)) i (x.getD i 0) (mwHi (x.getD i 0) (y.getD j 0) (ou.getD ((i : Int) + (j : Int)).toNat 0) c) (j + 1)) known mixed hS _ (mw_jgo x y ou i (x.getD i 0) c j (by omega) hlj (okM_iff.2 ⟨hxi, hyj⟩) (by omega) (by omega) (by omega) (by rw [List.length_set]) (by rw [List.length_set]) rfl rfl) (by kernel_rfl) ?_
      rw [e2]
      refine ⟨⟨(ou.set (i + j) (mwLo (x.getD i 0) (y.getD j 0) (ou.getD (i + j) 0) c), mwHi (x.getD i 0) (y.getD j 0) (ou.getD (i + j) 0) c, j + 1), hlj, by rw [List.length_set]; exact ho2, hdg2.set g2, g3, ?_, fun k hk => ?_⟩, by simp; omega, rfl, rfl⟩
      · show vl 18446744073709551616 (ou.set (i + j) (mwLo (x.getD i 0) (y.getD j 0) (ou.getD (i + j) 0) c)) + 18446744073709551616 ^ (i + (j + 1)) * mwHi (x.getD i 0) (y.getD j 0) (ou.getD (i + j) 0) c = vl 18446744073709551616 out + 18446744073709551616 ^ i * (x.getD i 0 * vl 18446744073709551616 (y.take (j + 1)))
        rw [vl_set _ _ _ _ (by omega), ← Nat.add_assoc, Int.pow_succ, vl_take', Int.mul_add, Int.mul_add]
        have := row_next (W := 0) g1 hinv
        unfold vw at this
        rw [this, Int.add_assoc, Int.pow_add]
        congr 2
        rw [Int.mul_assoc, Int.mul_left_comm (x.getD i 0)]
      · rw [List.getD_eq_getElem?_getD, List.getElem?_set_ne (by omega), ← List.getD_eq_getElem?_getD]
        exact hz2 k hk
    · refine GoalL.all (s := SMi x y ou i (x.getD i 0) c j) known mixed hS _ (mw_jend x y ou i (x.getD i 0) c j (by omega)) (by kernel_rfl) ?_
      refine onN_exit (inB_exit ?_)
      obtain rfl : j = y.length := by omega
      refine GoalL.all (s := SMi x y ou i (x.getD i 0) c y.length) (s' := SMo x y (ou.set ((i : Int) + (y.length : Int)).toNat c) i) known mixed hS _ (mw_row x y ou i (x.getD i 0) c y.length (by omega) (by omega) (by rw [List.length_set]) (by rw [List.length_set])) (by kernel_rfl) ?_
      rw [e3]
      refine GoalL.all (s := SMo x y (ou.set (i + y.length) c) i) known mixed hS _ (mw_next x y (ou.set (i + y.length) c) i (by omega)) (by kernel_rfl) ?_
      refine ⟨⟨(ou.set (i + y.length) c, i + 1), hlt, by rw [List.length_set]; exact ho2, hdg2.set hc, ?_, fun k hk => ?_⟩, by simp; omega, rfl, rfl⟩
      · have hk0 := hz2 (i + y.length) (Nat.le_refl _)
        show vl _ (ou.set (i + y.length) c) = vl _ (x.take (i + 1)) * _
        rw [vl_set _ _ _ _ (by omega), hk0, Int.sub_zero, vl_take', Int.add_mul, Int.mul_assoc]
        rw [List.take_length, hval] at hinv
        exact hinv
      · rw [List.getD_eq_getElem?_getD, List.getElem?_set_ne (by omega), ← List.getD_eq_getElem?_getD]
        exact hz2 k (by omega)
  · refine GoalL.st (s := SMo x y out i) known mixed hS 2 _ (mw_stop x y out i (by omega)) (by kernel_rfl) ?_
    refine onN_exit (onN_exit (inB_exit ?_))
    obtain rfl : i = x.length := by omega
    rw [List.take_length] at hval
    unfold mulW
    rw [← hval, ← trW_dg hdg]
    refine GoalL.freezeSlot mw_e0 (i := 64) (s := 5) (e2 := 168) (t := tU) (xs := out) (cap := capOf out.length) (by kernel_rfl) (by kernel_rfl) ?_
    refine GoalL.refit mw_e0 (σ := []) (s := SMg out) (mw_fit x y out x.length) ?_
    exact GoalL.allRet (s := SMg out) known mixed hS _ (mw_ret out (by omega)) fun T H h => h
theorem cMulW_ok : cMulW.Ok Tryz.prog := fun ⟨x, y, _⟩ h => mulW_holds x y h
end
end Go.Proofs.YtjcbbabaabcdgaaGreatDoor
/- Package num: integers as a machine integer with words behind it: what they stand for; plain facts. -/
namespace Go.Proofs.YtjcbbabaabcdgaaGreatDoor
open Go.RowKit Sv
set_option maxRecDepth 100000
abbrev NI := Int × List Int
def valI (a : NI) : Int := if a.2 = [] then a.1 else a.1 * vw a.2
noncomputable def mkI (z : Int) : Int × List Int := if -9223372036854775807 ≤ z ∧ z ≤ 9223372036854775807 then (z, []) else (if z < 0 then -1 else 1, dgN 18446744073709551616 z.natAbs)
def i64B (z : Int) : Bool := decide (-9223372036854775808 ≤ z) && decide (z ≤ 9223372036854775807)
def smI (a : NI) : Bool := List.isEmpty (α := Int) a.2
def okN (n : Nat) (a : NI) : Bool := match a.2 with
  | [] => i64B a.1
  | x :: l => (a.1 == 1 || a.1 == -1) && (dgB (x :: l) && (tmB (x :: l) && (decide (9223372036854775807 < vw (x :: l)) && decide ((x :: l).length ≤ n))))
def okI (a : NI) : Bool := okN 100000 a
def absI (n : Int) : Int := n.natAbs
def prW (a : NI) : List Int := if a.2 = [] then (if a.1 = 0 then [] else [absI a.1]) else a.2
def negI (a : NI) : Bool := decide (a.1 < 0)
noncomputable def iAdd (a b : NI) : Int × List Int := if smI a && (smI b && i64B (a.1 + b.1)) then (a.1 + b.1, []) else mkI (valI a + valI b)
noncomputable def iMul (a b : NI) : Int × List Int := mkI (valI a * valI b)
noncomputable def iNeg (a : NI) : Int × List Int := mkI (-valI a)
noncomputable def iAbs (a : NI) : Int × List Int := mkI (valI a).natAbs
noncomputable def iSub (a b : NI) : Int × List Int := iAdd a (iNeg b)
def sgn (z : Int) : Int := if z < 0 then -1 else if z = 0 then 0 else 1
def iSign (a : NI) : Int := sgn (valI a)
def iCmp (a b : NI) : Int := sgn (valI a - valI b)
theorem dg1 {x : Int} (h : 0 ≤ x ∧ x < 18446744073709551616) : Dg 18446744073709551616 [x] := .cons h .nil
theorem tm1 {x : Int} (h : x ≠ 0) : Tm [x] := Tm.cons .nil fun _ => h
theorem vw_one (x : Int) : vw [x] = x := vl_one _ _
theorem i64B_iff {z : Int} : i64B z = true ↔ -9223372036854775808 ≤ z ∧ z ≤ 9223372036854775807 := by
  unfold i64B
  rw [Bool.and_eq_true, decide_eq_true_eq, decide_eq_true_eq]
theorem smI_iff {a : NI} : smI a = true ↔ a.2 = [] := by unfold smI; exact List.isEmpty_iff
theorem smI_not {a : NI} : smI a = false ↔ a.2 ≠ [] := by
  constructor
  · intro h e; rw [smI_iff.2 e] at h; cases h
  · intro h
    cases hs : smI a with
    | false => rfl
    | true => exact absurd (smI_iff.1 hs) h
theorem valI_sm {a : NI} (h : a.2 = []) : valI a = a.1 := by unfold valI; rw [if_pos h]
theorem okN_sm {n : Nat} {a : NI} (h : a.2 = []) : okN n a = i64B a.1 := by unfold okN; rw [h]
theorem okN_big {n : Nat} {a : NI} (h : a.2 ≠ []) : okN n a = true ↔ (a.1 = 1 ∨ a.1 = -1) ∧ Dg 18446744073709551616 a.2 ∧ Tm a.2 ∧ 9223372036854775807 < vw a.2 ∧ a.2.length ≤ n := by
  obtain ⟨s, w⟩ := a
  cases w with
  | nil => exact absurd rfl h
  | cons x l =>
    unfold okN
    simp only [Bool.and_eq_true, Bool.or_eq_true, decide_eq_true_eq, beq_iff_eq, dgB_iff, tmB_iff]
theorem parts_law {n : Nat} {a : NI} (h : okN n a = true) : Dg 18446744073709551616 (prW a) ∧ Tm (prW a) ∧ vw (prW a) = (valI a).natAbs ∧ (negI a = true ↔ valI a < 0) ∧ (prW a).length ≤ max n 1 := by
  by_cases hs : a.2 = []
  · rw [okN_sm hs] at h
    have h := i64B_iff.1 h
    have hv := valI_sm hs
    have hn : negI a = true ↔ valI a < 0 := by unfold negI; rw [hv, decide_eq_true_eq]
    unfold prW
    rw [if_pos hs, hv]
    by_cases h0 : a.1 = 0
    · rw [if_pos h0, h0]
      exact ⟨.nil, .nil, rfl, by rw [← hv] at h0; rw [hn, h0], by simp⟩
    · rw [if_neg h0]
      refine ⟨dg1 (by unfold absI; omega), tm1 (by unfold absI; omega), by rw [vw_one]; rfl, by rw [hn, hv], by simp; omega⟩
  · obtain ⟨h1, h2, h3, h4, h5⟩ := (okN_big hs).1 h
    unfold prW negI
    rw [if_neg hs]
    have hv : valI a = a.1 * vw a.2 := by unfold valI; rw [if_neg hs]
    refine ⟨h2, h3, ?_, ?_, by omega⟩
    · rw [hv]; rcases h1 with h1 | h1 <;> rw [h1] <;> omega
    · rw [hv, decide_eq_true_eq]; rcases h1 with h1 | h1 <;> rw [h1] <;> omega
theorem val_lt {n : Nat} {a : NI} (h : okN n a = true) (hn : 1 ≤ n) : ((valI a).natAbs : Int) < 18446744073709551616 ^ n := by
  obtain ⟨h1, _, h3, _, h5⟩ := parts_law h
  have h6 := vl_lt (b := 18446744073709551616) (by decide) h1
  have h7 := pow_le_pow' (b := 18446744073709551616) (by decide) (show (prW a).length ≤ n by omega)
  unfold vw at h3
  omega
theorem dgN_len {b z : Int} {n : Nat} (hb : 1 < b) (h0 : 0 ≤ z) (h : z < b ^ n) : (dgN b z).length ≤ n := by
  obtain ⟨h1, h2, h3⟩ := dgN_spec hb h0
  cases hl : (dgN b z).length with
  | zero => omega
  | succ k =>
    have h4 := vl_ge (by omega) h1 h2 hl
    rw [h3] at h4
    by_cases hk : k + 1 ≤ n
    · exact hk
    · have := pow_le_pow' (show 1 ≤ b by omega) (show n ≤ k by omega)
      omega
theorem dgN_zero {b : Int} (hb : 1 < b) : dgN b 0 = [] := (dgN_uniq hb .nil .nil rfl).symm
theorem dgN_ne {b z : Int} (hb : 1 < b) (h : 0 < z) : dgN b z ≠ [] := fun e => by
  obtain ⟨_, _, h3⟩ := dgN_spec hb (Int.le_of_lt h)
  rw [e] at h3
  simp [vl] at h3
  omega
theorem mkI_law {n : Nat} {z : Int} (h : (z.natAbs : Int) < 18446744073709551616 ^ n) : okN n (mkI z) = true ∧ valI (mkI z) = z := by
  unfold mkI
  split
  · rename_i hz
    exact ⟨by rw [okN_sm rfl]; exact i64B_iff.2 ⟨by omega, hz.2⟩, valI_sm rfl⟩
  · rename_i hz
    have h0 : 0 < (z.natAbs : Int) := by omega
    obtain ⟨h1, h2, h3⟩ := dgN_spec (b := 18446744073709551616) (by decide) (Int.le_of_lt h0)
    have hne := dgN_ne (b := 18446744073709551616) (by decide) h0
    refine ⟨(okN_big hne).2 ⟨?_, h1, h2, ?_, dgN_len (by decide) (Int.le_of_lt h0) h⟩, ?_⟩
    · show (if z < 0 then (-1 : Int) else 1) = 1 ∨ _
      split
      · exact .inr rfl
      · exact .inl rfl
    · show 9223372036854775807 < vl _ _
      rw [h3]; omega
    · unfold valI
      rw [if_neg hne]
      show (if z < 0 then (-1 : Int) else 1) * vl _ _ = z
      rw [h3]
      split <;> omega
theorem val_mk (z : Int) : valI (mkI z) = z := by
  have : (z.natAbs : Int) < 18446744073709551616 ^ (z.natAbs + 1) := by
    have : ∀ n : Nat, (n : Int) < 18446744073709551616 ^ (n + 1) := fun n => by
      induction n with
      | zero => decide
      | succ n ih => rw [Int.pow_succ]; omega
    exact this _
  exact (mkI_law this).2
theorem ok_mk {n : Nat} {a : NI} (h : okN n a = true) (hv : valI a ≠ -9223372036854775808) : a = mkI (valI a) := by
  obtain ⟨s, w⟩ := a
  by_cases hs : w = []
  · subst hs
    have h : i64B s = true := h
    have h := i64B_iff.1 h
    have hv : s ≠ -9223372036854775808 := hv
    show (s, []) = mkI s
    unfold mkI
    rw [if_pos ⟨by omega, h.2⟩]
  · obtain ⟨h1, h2, h3, h4, h5⟩ := (okN_big (a := (s, w)) hs).1 h
    have e : valI (s, w) = s * vw w := by unfold valI; rw [if_neg hs]
    rw [e] at hv ⊢
    have h1 : s = 1 ∨ s = -1 := h1
    have h4 : 9223372036854775807 < vw w := h4
    have hd : w = dgN 18446744073709551616 (vw w) := dgN_uniq (by decide) h2 h3 rfl
    unfold mkI
    rcases h1 with rfl | rfl
    · rw [if_neg (by omega), if_neg (by omega), show ((1 * vw w).natAbs : Int) = vw w by omega, ← hd]
    · rw [if_neg (by omega), if_pos (by omega), show ((-1 * vw w).natAbs : Int) = vw w by omega, ← hd]
theorem val_iAdd (a b : NI) : valI (iAdd a b) = valI a + valI b := by
  unfold iAdd
  split
  · rename_i h
    simp only [Bool.and_eq_true] at h
    rw [valI_sm rfl, valI_sm (smI_iff.1 h.1), valI_sm (smI_iff.1 h.2.1)]
  · exact val_mk _
theorem ok_iAdd {n : Nat} {a b : NI} (h : ((valI a + valI b).natAbs : Int) < 18446744073709551616 ^ n) : okN n (iAdd a b) = true := by
  unfold iAdd
  split
  · rename_i h
    simp only [Bool.and_eq_true] at h
    rw [okN_sm rfl]; exact h.2.2
  · exact (mkI_law h).1
theorem sgn_pos {z : Int} (h : 0 < z) : sgn z = 1 := by unfold sgn; rw [if_neg (by omega), if_neg (by omega)]
theorem sgn_neg {z : Int} (h : z < 0) : sgn z = -1 := by unfold sgn; rw [if_pos h]
theorem sgn_zero : sgn 0 = 0 := by decide
end Go.Proofs.YtjcbbabaabcdgaaGreatDoor
/- Package num: integers. -/
namespace Go.Proofs.YtjcbbabaabcdgaaGreatDoor
open Go.RowKit Sv
set_option maxRecDepth 100000
set_option linter.unusedVariables false
noncomputable section
abbrev tI : Ty := .pair (.int .i64) (.list true tU)
abbrev nv (a : NI) : AV := .agg [iv a.1, .lst true tU a.2]
noncomputable def BMade : Code := (Tryz.f139.body).getD .skip
noncomputable def BParts : Code := (Tryz.f138.body).getD .skip
noncomputable def BSize : Code := (Tryz.f137.body).getD .skip
noncomputable def cSize : Ctr := { f := 137, ps := [.int .i64], rs := [tU], fresh := true, pre := fun d => i64B d.1, fn := fun d => (absI d.1, ()) }
noncomputable def sizeCs : VCaller := ctrs [cSize]
theorem sz_neg (n : Int) (h1 : n < 0) (h2 : (IntKind.wrap IntKind.u64 (IntKind.wrap IntKind.i64 ((0 : Int) - n))) = (absI n)) :
    Tst.path (vrun0 Tryz.prog (ctrs []) (fl BSize []) 9 10 [iv n]) [true] (toRet Tryz.prog Tryz.f137 true (uv (absI n))) :=
  mp (an (decide_eq_true h1) h2)
theorem sz_pos (n : Int) (h1 : ¬n < 0) (h2 : (IntKind.wrap IntKind.u64 n) = (absI n)) :
    Tst.path (vrun0 Tryz.prog (ctrs []) (fl BSize []) 9 10 [iv n]) [false] (toRet Tryz.prog Tryz.f137 true (uv (absI n))) :=
  mp (an (decide_eq_false h1) h2)
theorem pa_big (a : NI) (h1 : a.2.isEmpty = false) (h2 : (decide (a.1 < 0)) = (negI a)) (h3 : a.2 = (prW a)) :
    Tst.path (vrun0 Tryz.prog sizeCs (fl BParts []) 9 24 [nv a]) [true] (toRet Tryz.prog Tryz.f138 false (.tuple [bv (negI a), lu (prW a)])) :=
  mp (an (bF h1) (an (sr (iv a.1)) (an (sr (AV.lst true (.int .u64) a.2)) (an h2 (an h3 trivial)))))
theorem pa_zero (a : NI) (h1 : a.2.isEmpty = true) (h2 : a.1 = 0) (h3 : (false) = (negI a)) (h4 : (prW a) = ([])) :
    Tst.path (vrun0 Tryz.prog sizeCs (fl BParts []) 9 24 [nv a]) [false, true] (toRet Tryz.prog Tryz.f138 false (.tuple [bv (negI a), lu (prW a)])) :=
  mp (an (bF h1) (an (beq_iff_eq.mpr h2) (an h3 (an h4 trivial))))
theorem pa_one (a : NI) (h1 : a.2.isEmpty = true) (h2 : ¬a.1 = 0) (h3 : (i64B a.1) = true) (h4 : (decide (a.1 < 0)) = (negI a)) (h5 : ([absI a.1]) = (prW a)) (h6 : (Nat.ble ((1 : Nat) * (1 : Nat)) (AV.raw (Value.int .u64 (absI a.1)) :: List.append._f [] PUnit.unit (List.flatten._f [] PUnit.unit)).length && (!false || Nat.ble (1 : Nat) (1 : Nat))) = true) :
    Tst.path (vrun0 Tryz.prog sizeCs (fl BParts []) 9 24 [nv a]) [false, false] (toRet Tryz.prog Tryz.f138 false (.tuple [bv (negI a), lu (prW a)])) :=
  mp (an (bF h1) (an (beq_eq_false_iff_ne.mpr h2) (an (sr (iv a.1)) (an (sr (iv a.1)) (an h3 (an (sr (iv a.1)) (an (sr (iv a.1)) (an h4 (an (an h5 (show (Nat.ble ((0 : Nat) + (1 : Nat) * (1 : Nat)) (AV.raw (Value.int .u64 (absI a.1)) :: List.append._f [] PUnit.unit (List.flatten._f [] PUnit.unit)).length && (!false || Nat.ble (1 : Nat) (1 : Nat))) = true from (by simp only [Nat.zero_add] <;> exact (show (Nat.ble ((1 : Nat) * (1 : Nat)) (AV.raw (Value.int .u64 (absI a.1)) :: List.append._f [] PUnit.unit (List.flatten._f [] PUnit.unit)).length && (!false || Nat.ble (1 : Nat) (1 : Nat))) = true from h6)))) trivial)))))))))
def madeZ (neg : Bool) (w : List Int) : Int := match neg with | true => -vw w | false => vw w
theorem md_nil (neg : Bool) (w : List Int) (h1 : (↑w.length : Int) = 0) (h2 : ((0 : Int)) = (mkI (madeZ neg w)).1) (h3 : (mkI (madeZ neg w)).2 = ([])) :
    Tst.path (vrun0 Tryz.prog (ctrs []) (fl BMade []) 9 50 [bv neg, lu w]) [true] (toRet Tryz.prog Tryz.f139 false (nv (mkI (madeZ neg w)))) :=
  mp (an (beq_iff_eq.mpr h1) (an h2 (an h3 trivial)))
theorem md_sneg (neg : Bool) (w : List Int) (h1 : ¬(↑w.length : Int) = 0) (h2 : (↑w.length : Int) = 1) (h3 : Int.toNat (0 : Int) < w.length) (h4 : List.getD w (Int.toNat (0 : Int)) (0 : Int) ≤ 9223372036854775807) (h5 : (neg) = true) (h6 : (IntKind.wrap IntKind.i64 ((0 : Int) - IntKind.wrap IntKind.i64 (List.getD w (Int.toNat (0 : Int)) (0 : Int)))) = (mkI (madeZ neg w)).1) (h7 : (mkI (madeZ neg w)).2 = ([])) :
    Tst.path (vrun0 Tryz.prog (ctrs []) (fl BMade []) 9 50 [bv neg, lu w]) [false, true, true, true, true, true, true, true, true] (toRet Tryz.prog Tryz.f139 false (nv (mkI (madeZ neg w)))) :=
  mp (an (beq_eq_false_iff_ne.mpr h1) (an (bT (beq_iff_eq.mpr h2)) (an (bT (beq_iff_eq.mpr h2)) (an rt (an (decide_eq_true h3) (an (bT (beq_iff_eq.mpr h2)) (an (bT (beq_iff_eq.mpr h2)) (an (beq_iff_eq.mpr h2) (an (bT (decide_eq_true h4)) (an (decide_eq_true h4) (an h5 (an rt (an (decide_eq_true h3) (an h6 (an h7 trivial)))))))))))))))
theorem md_spos (neg : Bool) (w : List Int) (h1 : ¬(↑w.length : Int) = 0) (h2 : (↑w.length : Int) = 1) (h3 : Int.toNat (0 : Int) < w.length) (h4 : List.getD w (Int.toNat (0 : Int)) (0 : Int) ≤ 9223372036854775807) (h5 : (neg) = false) (h6 : (IntKind.wrap IntKind.i64 (List.getD w (Int.toNat (0 : Int)) (0 : Int))) = (mkI (madeZ neg w)).1) (h7 : (mkI (madeZ neg w)).2 = ([])) :
    Tst.path (vrun0 Tryz.prog (ctrs []) (fl BMade []) 9 50 [bv neg, lu w]) [false, true, true, true, true, true, true, true, false, true, true, true, true, true, true] (toRet Tryz.prog Tryz.f139 false (nv (mkI (madeZ neg w)))) :=
  mp (an (beq_eq_false_iff_ne.mpr h1) (an (bT (beq_iff_eq.mpr h2)) (an (bT (beq_iff_eq.mpr h2)) (an rt (an (decide_eq_true h3) (an (bT (beq_iff_eq.mpr h2)) (an (bT (beq_iff_eq.mpr h2)) (an (beq_iff_eq.mpr h2) (an (bT (decide_eq_true h4)) (an (decide_eq_true h4) (an h5 (an (bT (beq_iff_eq.mpr h2)) (an (bT (beq_iff_eq.mpr h2)) (an rt (an (decide_eq_true h3) (an (bT (beq_iff_eq.mpr h2)) (an (bT (beq_iff_eq.mpr h2)) (an (beq_iff_eq.mpr h2) (an (decide_eq_true h4) (an rt (an (decide_eq_true h3) (an h6 (an h7 trivial)))))))))))))))))))))))
theorem md_bneg (neg : Bool) (w : List Int) (h1 : ¬(↑w.length : Int) = 0) (h2 : (↑w.length : Int) = 1) (h3 : Int.toNat (0 : Int) < w.length) (h4 : ¬List.getD w (Int.toNat (0 : Int)) (0 : Int) ≤ 9223372036854775807) (h5 : (neg) = true) (h6 : ((-1 : Int)) = (mkI (madeZ neg w)).1) (h7 : (w) = (mkI (madeZ neg w)).2) (h8 : (1 : Nat) ≤ (mkI (madeZ neg w)).2.length) :
    Tst.path (vrun0 Tryz.prog (ctrs []) (fl BMade []) 9 50 [bv neg, lu w]) [false, true, true, true, true, true, false, false, false, true, true, true, true, true, false, true] (toRet Tryz.prog Tryz.f139 false (nv (mkI (madeZ neg w)))) :=
  mp (an (beq_eq_false_iff_ne.mpr h1) (an (bT (beq_iff_eq.mpr h2)) (an (bT (beq_iff_eq.mpr h2)) (an rt (an (decide_eq_true h3) (an (bT (beq_iff_eq.mpr h2)) (an (bT (beq_iff_eq.mpr h2)) (an (beq_iff_eq.mpr h2) (an (bT (decide_eq_false h4)) (an (decide_eq_false h4) (an rf (an (bT (beq_iff_eq.mpr h2)) (an (bT (beq_iff_eq.mpr h2)) (an rt (an (decide_eq_true h3) (an (bT (beq_iff_eq.mpr h2)) (an (bT (beq_iff_eq.mpr h2)) (an (beq_iff_eq.mpr h2) (an (decide_eq_false h4) (an h5 (an h6 (an (an h7 (Nat.ble_eq_true_of_le h8)) trivial))))))))))))))))))))))
theorem md_bpos (neg : Bool) (w : List Int) (h1 : ¬(↑w.length : Int) = 0) (h2 : (↑w.length : Int) = 1) (h3 : Int.toNat (0 : Int) < w.length) (h4 : ¬List.getD w (Int.toNat (0 : Int)) (0 : Int) ≤ 9223372036854775807) (h5 : (neg) = false) (h6 : ((1 : Int)) = (mkI (madeZ neg w)).1) (h7 : (w) = (mkI (madeZ neg w)).2) (h8 : (1 : Nat) ≤ (mkI (madeZ neg w)).2.length) :
    Tst.path (vrun0 Tryz.prog (ctrs []) (fl BMade []) 9 50 [bv neg, lu w]) [false, true, true, true, true, true, false, false, false, true, true, true, true, true, false, false] (toRet Tryz.prog Tryz.f139 false (nv (mkI (madeZ neg w)))) :=
  mp (an (beq_eq_false_iff_ne.mpr h1) (an (bT (beq_iff_eq.mpr h2)) (an (bT (beq_iff_eq.mpr h2)) (an rt (an (decide_eq_true h3) (an (bT (beq_iff_eq.mpr h2)) (an (bT (beq_iff_eq.mpr h2)) (an (beq_iff_eq.mpr h2) (an (bT (decide_eq_false h4)) (an (decide_eq_false h4) (an rf (an (bT (beq_iff_eq.mpr h2)) (an (bT (beq_iff_eq.mpr h2)) (an rt (an (decide_eq_true h3) (an (bT (beq_iff_eq.mpr h2)) (an (bT (beq_iff_eq.mpr h2)) (an (beq_iff_eq.mpr h2) (an (decide_eq_false h4) (an h5 (an h6 (an (an h7 (Nat.ble_eq_true_of_le h8)) trivial))))))))))))))))))))))
theorem md_mneg (neg : Bool) (w : List Int) (h1 : ¬(↑w.length : Int) = 0) (h2 : ¬(↑w.length : Int) = 1) (h3 : (neg) = true) (h4 : ((-1 : Int)) = (mkI (madeZ neg w)).1) (h5 : (w) = (mkI (madeZ neg w)).2) (h6 : (1 : Nat) ≤ (mkI (madeZ neg w)).2.length) :
    Tst.path (vrun0 Tryz.prog (ctrs []) (fl BMade []) 9 50 [bv neg, lu w]) [false, false, false, false, false, false, false, false, false, false, false, false, false, false, false, true] (toRet Tryz.prog Tryz.f139 false (nv (mkI (madeZ neg w)))) :=
  mp (an (beq_eq_false_iff_ne.mpr h1) (an (bT (beq_eq_false_iff_ne.mpr h2)) (an (bT (beq_eq_false_iff_ne.mpr h2)) (an (bT (beq_eq_false_iff_ne.mpr h2)) (an (bT (beq_eq_false_iff_ne.mpr h2)) (an (beq_eq_false_iff_ne.mpr h2) (an rf (an rf (an rf (an (bT (beq_eq_false_iff_ne.mpr h2)) (an (bT (beq_eq_false_iff_ne.mpr h2)) (an (bT (beq_eq_false_iff_ne.mpr h2)) (an (bT (beq_eq_false_iff_ne.mpr h2)) (an (beq_eq_false_iff_ne.mpr h2) (an rf (an h3 (an h4 (an (an h5 (Nat.ble_eq_true_of_le h6)) trivial))))))))))))))))))
theorem md_mpos (neg : Bool) (w : List Int) (h1 : ¬(↑w.length : Int) = 0) (h2 : ¬(↑w.length : Int) = 1) (h3 : (neg) = false) (h4 : ((1 : Int)) = (mkI (madeZ neg w)).1) (h5 : (w) = (mkI (madeZ neg w)).2) (h6 : (1 : Nat) ≤ (mkI (madeZ neg w)).2.length) :
    Tst.path (vrun0 Tryz.prog (ctrs []) (fl BMade []) 9 50 [bv neg, lu w]) [false, false, false, false, false, false, false, false, false, false, false, false, false, false, false, false] (toRet Tryz.prog Tryz.f139 false (nv (mkI (madeZ neg w)))) :=
  mp (an (beq_eq_false_iff_ne.mpr h1) (an (bT (beq_eq_false_iff_ne.mpr h2)) (an (bT (beq_eq_false_iff_ne.mpr h2)) (an (bT (beq_eq_false_iff_ne.mpr h2)) (an (bT (beq_eq_false_iff_ne.mpr h2)) (an (beq_eq_false_iff_ne.mpr h2) (an rf (an rf (an rf (an (bT (beq_eq_false_iff_ne.mpr h2)) (an (bT (beq_eq_false_iff_ne.mpr h2)) (an (bT (beq_eq_false_iff_ne.mpr h2)) (an (bT (beq_eq_false_iff_ne.mpr h2)) (an (beq_eq_false_iff_ne.mpr h2) (an rf (an h3 (an h4 (an (an h5 (Nat.ble_eq_true_of_le h6)) trivial))))))))))))))))))
noncomputable def cParts : Ctr := { f := 138, ps := [tI], rs := [.bool, .list false tU], fresh := false, pre := fun d => okI d.1, fn := fun d => (negI d.1, prW d.1, ()) }
noncomputable def cMade : Ctr := { f := 139, ps := [.bool, .list false tU], rs := [tI], fresh := false, pre := fun d => dgB d.2.1 && tmB d.2.1, fn := fun d => (mkI (madeZ d.1 d.2.1), ()) }
theorem wrapI {x : Int} (h : -9223372036854775808 ≤ x ∧ x ≤ 9223372036854775807) : IntKind.wrap .i64 x = x := wrap_fits (fits_i64 h)
theorem size_holds (n : Int) (h : i64B n = true) : Holds Tryz.prog true 137 [iv n] (uv (absI n)) := by
  have h := i64B_iff.1 h
  refine holds_fl (c := BSize) Tryz.func137 rfl rfl fun w F => ?_
  by_cases hn : n < 0
  · refine GoalL.ret known mixed none_ok 9 _ (sz_neg n hn ?_) fun T H h => h
    unfold absI
    by_cases hm : n = -9223372036854775808
    · subst hm; rfl
    · rw [wrapI (by omega), wrapU (by omega)]; omega
  · refine GoalL.ret known mixed none_ok 9 _ (sz_pos n hn ?_) fun T H h => h
    unfold absI
    rw [wrapU (by omega)]; omega
theorem cSize_ok : cSize.Ok Tryz.prog := fun ⟨n, _⟩ h => size_holds n h
theorem sizeCs_ok : CallOk Tryz.prog (gS sizeCs) := one_ok cSize_ok
theorem parts_holds (a : NI) (h : okI a = true) : Holds Tryz.prog false 138 [nv a] (.tuple [bv (negI a), lu (prW a)]) := by
  refine holds_fl (c := BParts) Tryz.func138 rfl rfl fun w F => ?_
  by_cases hs : a.2 = []
  · have h := (okN_sm hs).symm.trans h
    by_cases h0 : a.1 = 0
    · refine GoalL.ret known mixed sizeCs_ok 9 _ (pa_zero a (smI_iff.2 hs) h0 ?_ ?_) fun T H h => h
      · unfold negI; rw [h0]; rfl
      · unfold prW; rw [if_pos hs, if_pos h0]
    · refine GoalL.ret known mixed sizeCs_ok 9 _ (pa_one a (smI_iff.2 hs) h0 h rfl ?_ rfl) fun T H h => h
      unfold prW; rw [if_pos hs, if_neg h0]
  · refine GoalL.ret known mixed sizeCs_ok 9 _ (pa_big a (smI_not.2 hs) rfl ?_) fun T H h => h
    unfold prW; rw [if_neg hs]
theorem cParts_ok : cParts.Ok Tryz.prog := fun ⟨a, _⟩ h => parts_holds a h
theorem madeZ_abs (neg : Bool) {w : List Int} (hw : Dg 18446744073709551616 w) : ((madeZ neg w).natAbs : Int) = vw w := by
  have := vl_nn (b := 18446744073709551616) (by decide) hw
  unfold madeZ vw
  cases neg <;> simp only <;> omega
theorem made_big {neg : Bool} {w : List Int} (hw : Dg 18446744073709551616 w) (ht : Tm w) (h : 9223372036854775807 < vw w) : mkI (madeZ neg w) = (if neg then -1 else 1, w) := by
  have ha := madeZ_abs neg hw
  have hd : dgN 18446744073709551616 ((madeZ neg w).natAbs : Int) = w := by rw [ha]; exact (dgN_uniq (by decide) hw ht rfl).symm
  unfold mkI
  rw [hd]
  unfold madeZ at ha ⊢
  cases neg
  · simp only at ha ⊢
    rw [if_neg (by omega), if_neg (by omega)]; rfl
  · simp only at ha ⊢
    rw [if_neg (by omega), if_pos (by omega)]; rfl
theorem mkI_small {z : Int} (h : -9223372036854775807 ≤ z ∧ z ≤ 9223372036854775807) : mkI z = (z, []) := by unfold mkI; rw [if_pos h]
theorem made_holds (neg : Bool) (w : List Int) (h1 : Dg 18446744073709551616 w) (h2 : Tm w) : Holds Tryz.prog false 139 [bv neg, lu w] (nv (mkI (madeZ neg w))) := by
  refine holds_fl (c := BMade) Tryz.func139 rfl rfl fun w0 F => ?_
  cases w with
  | nil =>
    have e : mkI (madeZ neg []) = (0, []) := by
      have : madeZ neg [] = 0 := by cases neg <;> rfl
      rw [this]; exact mkI_small (by decide)
    exact GoalL.ret known mixed none_ok 9 _ (md_nil neg [] rfl (by rw [e]) (by rw [e])) fun T H h => h
  | cons x l =>
    have hx := h1.head
    have hne : ¬ ((x :: l).length : Int) = 0 := by simp; omega
    cases l with
    | nil =>
      have hv : vw [x] = x := vw_one x
      by_cases hs : x ≤ 9223372036854775807
      · cases neg with
        | true =>
          have e : mkI (madeZ true [x]) = (-x, []) := by
            show mkI (-vw [x]) = _
            rw [hv]; exact mkI_small (by omega)
          refine GoalL.ret known mixed none_ok 9 _ (md_sneg true [x] hne rfl (by simp) hs rfl ?_ (by rw [e])) fun T H h => h
          rw [e]
          show IntKind.wrap .i64 (0 - IntKind.wrap .i64 x) = -x
          rw [wrapI (x := x) (by omega), wrapI (by omega)]; omega
        | false =>
          have e : mkI (madeZ false [x]) = (x, []) := by
            show mkI (vw [x]) = _
            rw [hv]; exact mkI_small (by omega)
          refine GoalL.ret known mixed none_ok 9 _ (md_spos false [x] hne rfl (by simp) hs rfl ?_ (by rw [e])) fun T H h => h
          rw [e]
          exact wrapI (x := x) (by omega)
      · have e := made_big (neg := neg) h1 h2 (by omega)
        cases neg with
        | true => exact GoalL.ret known mixed none_ok 9 _ (md_bneg true [x] hne rfl (by simp) hs rfl (by rw [e]; rfl) (by rw [e]) (by rw [e]; simp)) fun T H h => h
        | false => exact GoalL.ret known mixed none_ok 9 _ (md_bpos false [x] hne rfl (by simp) hs rfl (by rw [e]; rfl) (by rw [e]) (by rw [e]; simp)) fun T H h => h
    | cons y l =>
      have hbig : 9223372036854775807 < vw (x :: y :: l) := by
        have h3 := vl_ge (b := 18446744073709551616) (by decide) h1 h2 (k := l.length + 1) (by simp)
        have h4 := pow_le_pow' (b := 18446744073709551616) (by decide) (show 1 ≤ l.length + 1 by omega)
        rw [Int.pow_one] at h4
        unfold vw; omega
      have e := made_big (neg := neg) h1 h2 hbig
      have hn1 : ¬ ((x :: y :: l).length : Int) = 1 := by simp; omega
      cases neg with
      | true => exact GoalL.ret known mixed none_ok 9 _ (md_mneg true _ hne hn1 rfl (by rw [e]; rfl) (by rw [e]) (by rw [e]; simp)) fun T H h => h
      | false => exact GoalL.ret known mixed none_ok 9 _ (md_mpos false _ hne hn1 rfl (by rw [e]; rfl) (by rw [e]) (by rw [e]; simp)) fun T H h => h
theorem cMade_ok : cMade.Ok Tryz.prog := fun ⟨neg, w, _⟩ h => by
  have h : (dgB w && tmB w) = true := h
  rw [Bool.and_eq_true] at h
  exact made_holds neg w (dgB_iff.1 h.1) (tmB_iff.1 h.2)
end
end Go.Proofs.YtjcbbabaabcdgaaGreatDoor
/- Package num: integers: opposite, sign, sum, product, comparison. -/
namespace Go.Proofs.YtjcbbabaabcdgaaGreatDoor
open Go.RowKit Sv
set_option maxRecDepth 100000
set_option linter.unusedVariables false
noncomputable section
noncomputable def BNeg : Code := (Tryz.f144.body).getD .skip
noncomputable def BAbs : Code := (Tryz.f183.body).getD .skip
noncomputable def BSign : Code := (Tryz.f124.body).getD .skip
noncomputable def BIAdd : Code := (Tryz.f80.body).getD .skip
noncomputable def BISub : Code := (Tryz.f159.body).getD .skip
noncomputable def BIMul : Code := (Tryz.f79.body).getD .skip
noncomputable def BICmp : Code := (Tryz.f101.body).getD .skip
noncomputable def njCs : VCaller := ctrs [cParts, cMade, cAddW, cSubW, cCmpW, cMulW, cMul64, cSize]
abbrev bI (a : NI) : Ent := .blk (.cells 75 [iv a.1, .lst true tU a.2] true false false)
abbrev b0 : Ent := .blk (.cells 75 [iv 0, .raw (.slice none 0 0)] true false false)
abbrev s3 : Sv.Ren := [(64, 64, none), (65, 65, none), (66, 66, none)]
def SIA (a b : NI) (n : Nat) : St := { n := n, sl := [(2, .ptr 64 0), (3, .ptr 65 0), (4, .ptr 66 0)], en := [(64, bI a), (65, bI b), (66, b0)], next := 67 }
theorem ng_sm (a : NI) (h1 : a.2.isEmpty = true) (h2 : ¬a.1 = -9223372036854775808) (h3 : (IntKind.wrap IntKind.i64 ((0 : Int) - a.1)) = (-a.1)) :
    Tst.path (vrun0 Tryz.prog njCs (fl BNeg []) 9 26 [nv a]) [true, true, true, true, true] (toRet Tryz.prog Tryz.f144 false (nv (-a.1, []))) :=
  mp (an (bT (bT h1)) (an (bT (bT h1)) (an (bT (bT h1)) (an (bT h1) (an (bne_iff_ne.mpr h2) (an h3 (an (rr nilI) trivial)))))))
theorem ng_min (a : NI) (h1 : a.2.isEmpty = true) (h2 : a.1 = -9223372036854775808) (h3 : (okI (a.1, a.2)) = true) (h4 : (dgB (prW (a.1, a.2)) && tmB (prW (a.1, a.2))) = true) :
    Tst.path (vrun0 Tryz.prog njCs (fl BNeg []) 9 26 [nv a]) [true, true, true, true, false] (toRet Tryz.prog Tryz.f144 false (nv (mkI (madeZ (!negI a) (prW a))))) :=
  mp (an (bT (bT h1)) (an (bT (bT h1)) (an (bT (bT h1)) (an (bT h1) (an (bne_eq_false_iff_eq.mpr h2) (an h3 (an h4 (an (rr (mkI (madeZ (!negI (a.1, a.2)) (prW (a.1, a.2)))).1) (an (rr (mkI (madeZ (!negI (a.1, a.2)) (prW (a.1, a.2)))).2) trivial)))))))))
theorem ng_big (a : NI) (h1 : a.2.isEmpty = false) (h2 : (okI (a.1, a.2)) = true) (h3 : (dgB (prW (a.1, a.2)) && tmB (prW (a.1, a.2))) = true) :
    Tst.path (vrun0 Tryz.prog njCs (fl BNeg []) 9 26 [nv a]) [false, false, false, false, false] (toRet Tryz.prog Tryz.f144 false (nv (mkI (madeZ (!negI a) (prW a))))) :=
  mp (an (bT (bT h1)) (an (bT (bT h1)) (an (bT (bT h1)) (an (bT h1) (an rf (an h2 (an h3 (an (rr (mkI (madeZ (!negI (a.1, a.2)) (prW (a.1, a.2)))).1) (an (rr (mkI (madeZ (!negI (a.1, a.2)) (prW (a.1, a.2)))).2) trivial)))))))))
theorem sg_all (a : NI) (h1 : (if (if a.1 < 1 then a.1 else (1 : Int)) > -1 then if a.1 < 1 then a.1 else (1 : Int) else (-1 : Int)) = (sgn a.1)) :
    Tst.path (vrun0 Tryz.prog (ctrs []) (fl BSign []) 9 7 [nv a]) [] (toRet Tryz.prog Tryz.f124 true (iv (sgn a.1))) :=
  mp h1
theorem ia_fast (a b : NI) (h1 : a.2.isEmpty = true) (h2 : b.2.isEmpty = true) (h3 : -9223372036854775808 ≤ a.1 + b.1 ∧ a.1 + b.1 ≤ 9223372036854775807) (h4 : decide (a.1 + b.1 > a.1) = decide (b.1 > 0)) :
    Tst.path (vrun0 Tryz.prog njCs (fl BIAdd []) 3 67 [nv a, nv b]) [true, true, true, true, true, true] (toRet Tryz.prog Tryz.f80 false (nv (a.1 + b.1, []))) :=
  mp (an (bT (bT h1)) (an (bT (bT h1)) (an (bT (bT h1)) (an (bT h1) (an (bT h2) (an (fits_i64 h3) (an (beq_iff_eq.mpr h4) (an (rr (a.1 + b.1)) (an (rr nilI) trivial)))))))))
theorem ia_big1 (a b : NI) (h1 : a.2.isEmpty = false) :
    Tst.path (vrun0 Tryz.prog njCs (fl BIAdd []) 3 67 [nv a, nv b]) [false, false, false, false, false] (toSt Tryz.prog 67 .normal s3 (SIA a b 67)) :=
  mp (an (bT (bT h1)) (an (bT (bT h1)) (an (bT (bT h1)) (an (bT h1) (an rf (an (rr ((0 : Nat))) (an (rr ((0 : Nat))) (an (rr ((0 : Nat))) (an (an (rr a.1) (an (rr a.2) trivial)) (an (an (rr b.1) (an (rr b.2) trivial)) (an (an (rr ((0 : Int))) (an (rr (Value.slice none (0 : Nat) (0 : Nat))) trivial)) trivial)))))))))))
theorem ia_big2 (a b : NI) (h1 : a.2.isEmpty = true) (h2 : b.2.isEmpty = false) :
    Tst.path (vrun0 Tryz.prog njCs (fl BIAdd []) 3 67 [nv a, nv b]) [true, true, true, true, false] (toSt Tryz.prog 67 .normal s3 (SIA a b 67)) :=
  mp (an (bT (bT h1)) (an (bT (bT h1)) (an (bT (bT h1)) (an (bT h1) (an (bT h2) (an (rr ((0 : Nat))) (an (rr ((0 : Nat))) (an (rr ((0 : Nat))) (an (an (rr a.1) (an (rr a.2) trivial)) (an (an (rr b.1) (an (rr b.2) trivial)) (an (an (rr ((0 : Int))) (an (rr (Value.slice none (0 : Nat) (0 : Nat))) trivial)) trivial)))))))))))
theorem ia_over_w (a b : NI) (h1 : a.2.isEmpty = true) (h2 : b.2.isEmpty = true) (h3 : (fits IntKind.i64 (a.1 + b.1)) = false) (h4 : ¬decide (IntKind.wrap IntKind.i64 (a.1 + b.1) > a.1) = decide (b.1 > 0)) :
    Tst.pathW (vrun0 Tryz.prog njCs (fl BIAdd []) 3 67 [nv a, nv b]) [true, true, true, true, true, false] (toSt Tryz.prog 67 .normal s3 (SIA a b 67)) :=
  mp (an (bT (bT h1)) (an (bT (bT h1)) (an (bT (bT h1)) (an (bT h1) (an (bT h2) (an h3 (an (beq_eq_false_iff_ne.mpr h4) (an (rr ((0 : Nat))) (an (rr ((0 : Nat))) (an (rr ((0 : Nat))) (an (an (rr a.1) (an (rr a.2) trivial)) (an (an (rr b.1) (an (rr b.2) trivial)) (an (an (rr ((0 : Int))) (an (rr (Value.slice none (0 : Nat) (0 : Nat))) trivial)) trivial)))))))))))))
theorem ia_same (a b : NI) (h1 : (okI (a.1, a.2)) = true) (h2 : (okI (b.1, b.2)) = true) (h3 : negI (a.1, a.2) = negI (b.1, b.2)) (h4 : (okW2 (prW (a.1, a.2)) (prW (b.1, b.2))) = true) (h5 : (dgB (addW (prW (a.1, a.2)) (prW (b.1, b.2))) && tmB (addW (prW (a.1, a.2)) (prW (b.1, b.2)))) = true) :
    Tst.path (vall Tryz.prog njCs (List.drop 3 (fl BIAdd [])) (SIA a b 67)) [true] (toRet Tryz.prog Tryz.f80 false (nv (mkI (madeZ (negI a) (addW (prW a) (prW b)))))) :=
  mp (an h1 (an h2 (an (beq_iff_eq.mpr h3) (an h4 (an h5 (an (rr (mkI (madeZ (negI (a.1, a.2)) (addW (prW (a.1, a.2)) (prW (b.1, b.2))))).1) (an (rr (mkI (madeZ (negI (a.1, a.2)) (addW (prW (a.1, a.2)) (prW (b.1, b.2))))).2) trivial)))))))
theorem ia_ge (a b : NI) (h1 : (okI (a.1, a.2)) = true) (h2 : (okI (b.1, b.2)) = true) (h3 : ¬negI (a.1, a.2) = negI (b.1, b.2)) (h4 : (okC2 (prW (a.1, a.2)) (prW (b.1, b.2))) = true) (h5 : cmpV (vw (prW (a.1, a.2))) (vw (prW (b.1, b.2))) ≥ 0) (h6 : (okW2 (prW (a.1, a.2)) (prW (b.1, b.2)) && decide (vw (prW (b.1, b.2)) ≤ vw (prW (a.1, a.2)))) = true) (h7 : (dgB (subW (prW (a.1, a.2)) (prW (b.1, b.2))) && tmB (subW (prW (a.1, a.2)) (prW (b.1, b.2)))) = true) :
    Tst.path (vall Tryz.prog njCs (List.drop 3 (fl BIAdd [])) (SIA a b 67)) [false, true] (toRet Tryz.prog Tryz.f80 false (nv (mkI (madeZ (negI a) (subW (prW a) (prW b)))))) :=
  mp (an h1 (an h2 (an (beq_eq_false_iff_ne.mpr h3) (an h4 (an (decide_eq_true h5) (an h6 (an h7 (an (rr (mkI (madeZ (negI (a.1, a.2)) (subW (prW (a.1, a.2)) (prW (b.1, b.2))))).1) (an (rr (mkI (madeZ (negI (a.1, a.2)) (subW (prW (a.1, a.2)) (prW (b.1, b.2))))).2) trivial)))))))))
theorem ia_lt (a b : NI) (h1 : (okI (a.1, a.2)) = true) (h2 : (okI (b.1, b.2)) = true) (h3 : ¬negI (a.1, a.2) = negI (b.1, b.2)) (h4 : (okC2 (prW (a.1, a.2)) (prW (b.1, b.2))) = true) (h5 : ¬cmpV (vw (prW (a.1, a.2))) (vw (prW (b.1, b.2))) ≥ 0) (h6 : (okW2 (prW (b.1, b.2)) (prW (a.1, a.2)) && decide (vw (prW (a.1, a.2)) ≤ vw (prW (b.1, b.2)))) = true) (h7 : (dgB (subW (prW (b.1, b.2)) (prW (a.1, a.2))) && tmB (subW (prW (b.1, b.2)) (prW (a.1, a.2)))) = true) :
    Tst.path (vall Tryz.prog njCs (List.drop 3 (fl BIAdd [])) (SIA a b 67)) [false, false] (toRet Tryz.prog Tryz.f80 false (nv (mkI (madeZ (negI b) (subW (prW b) (prW a)))))) :=
  mp (an h1 (an h2 (an (beq_eq_false_iff_ne.mpr h3) (an h4 (an (decide_eq_false h5) (an h6 (an h7 (an (rr (mkI (madeZ (negI (b.1, b.2)) (subW (prW (b.1, b.2)) (prW (a.1, a.2))))).1) (an (rr (mkI (madeZ (negI (b.1, b.2)) (subW (prW (b.1, b.2)) (prW (a.1, a.2))))).2) trivial)))))))))
theorem im_neg (a b : NI) (h1 : a.2.isEmpty = true) (h2 : b.2.isEmpty = true) (h3 : (i64B a.1) = true) (h4 : (i64B b.1) = true) (h5 : (okM (absI a.1) (absI b.1)) = true) (h6 : mlHi (absI a.1) (absI b.1) = 0) (h7 : mlLo (absI a.1) (absI b.1) ≤ 9223372036854775807) (h8 : ¬decide (a.1 < 0) = decide (b.1 < 0)) (h9 : (IntKind.wrap IntKind.i64 ((0 : Int) - IntKind.wrap IntKind.i64 (mlLo (absI a.1) (absI b.1)))) = (-mlLo (absI a.1) (absI b.1))) :
    Tst.path (vrun0 Tryz.prog njCs (fl BIMul []) 3 66 [nv a, nv b]) [true, true, true, true, true, true, true, true, true, true] (toRet Tryz.prog Tryz.f79 false (nv (-(mlLo (absI a.1) (absI b.1)), []))) :=
  mp (an (bT (bT h1)) (an (bT (bT h1)) (an (bT (bT h1)) (an (bT h1) (an (bT h2) (an (sr (iv a.1)) (an h3 (an (sr (iv b.1)) (an (sr (iv b.1)) (an h4 (an h5 (an (bT (beq_iff_eq.mpr h6)) (an (bT (beq_iff_eq.mpr h6)) (an (beq_iff_eq.mpr h6) (an (decide_eq_true h7) (an (bN (beq_eq_false_iff_ne.mpr h8)) (an h9 (an (rr nilI) trivial))))))))))))))))))
theorem im_pos (a b : NI) (h1 : a.2.isEmpty = true) (h2 : b.2.isEmpty = true) (h3 : (i64B a.1) = true) (h4 : (i64B b.1) = true) (h5 : (okM (absI a.1) (absI b.1)) = true) (h6 : mlHi (absI a.1) (absI b.1) = 0) (h7 : mlLo (absI a.1) (absI b.1) ≤ 9223372036854775807) (h8 : decide (a.1 < 0) = decide (b.1 < 0)) (h9 : (IntKind.wrap IntKind.i64 (mlLo (absI a.1) (absI b.1))) = (mlLo (absI a.1) (absI b.1))) :
    Tst.path (vrun0 Tryz.prog njCs (fl BIMul []) 3 66 [nv a, nv b]) [true, true, true, true, true, true, true, true, true, false] (toRet Tryz.prog Tryz.f79 false (nv (mlLo (absI a.1) (absI b.1), []))) :=
  mp (an (bT (bT h1)) (an (bT (bT h1)) (an (bT (bT h1)) (an (bT h1) (an (bT h2) (an (sr (iv a.1)) (an h3 (an (sr (iv b.1)) (an (sr (iv b.1)) (an h4 (an h5 (an (bT (beq_iff_eq.mpr h6)) (an (bT (beq_iff_eq.mpr h6)) (an (beq_iff_eq.mpr h6) (an (decide_eq_true h7) (an (bN (beq_iff_eq.mpr h8)) (an h9 (an (rr nilI) trivial))))))))))))))))))
theorem im_r1 (a b : NI) (h1 : a.2.isEmpty = true) (h2 : b.2.isEmpty = true) (h3 : (i64B a.1) = true) (h4 : (i64B b.1) = true) (h5 : (okM (absI a.1) (absI b.1)) = true) (h6 : mlHi (absI a.1) (absI b.1) = 0) (h7 : ¬mlLo (absI a.1) (absI b.1) ≤ 9223372036854775807) :
    Tst.path (vrun0 Tryz.prog njCs (fl BIMul []) 3 66 [nv a, nv b]) [true, true, true, true, true, true, true, true, false] (toSt Tryz.prog 66 .normal s3 (SIA a b 66)) :=
  mp (an (bT (bT h1)) (an (bT (bT h1)) (an (bT (bT h1)) (an (bT h1) (an (bT h2) (an (sr (iv a.1)) (an h3 (an (sr (iv b.1)) (an (sr (iv b.1)) (an h4 (an h5 (an (bT (beq_iff_eq.mpr h6)) (an (bT (beq_iff_eq.mpr h6)) (an (beq_iff_eq.mpr h6) (an (decide_eq_false h7) (an (rr ((0 : Nat))) (an (rr ((0 : Nat))) (an (rr ((0 : Nat))) (an (an (rr a.1) (an (rr a.2) trivial)) (an (an (rr b.1) (an (rr b.2) trivial)) (an (an (rr ((0 : Int))) (an (rr (Value.slice none (0 : Nat) (0 : Nat))) trivial)) trivial)))))))))))))))))))))
theorem im_r2 (a b : NI) (h1 : a.2.isEmpty = true) (h2 : b.2.isEmpty = true) (h3 : (i64B a.1) = true) (h4 : (i64B b.1) = true) (h5 : (okM (absI a.1) (absI b.1)) = true) (h6 : ¬mlHi (absI a.1) (absI b.1) = 0) :
    Tst.path (vrun0 Tryz.prog njCs (fl BIMul []) 3 66 [nv a, nv b]) [true, true, true, true, true, false, false, false, false] (toSt Tryz.prog 66 .normal s3 (SIA a b 66)) :=
  mp (an (bT (bT h1)) (an (bT (bT h1)) (an (bT (bT h1)) (an (bT h1) (an (bT h2) (an (sr (iv a.1)) (an h3 (an (sr (iv b.1)) (an (sr (iv b.1)) (an h4 (an h5 (an (bT (beq_eq_false_iff_ne.mpr h6)) (an (bT (beq_eq_false_iff_ne.mpr h6)) (an (beq_eq_false_iff_ne.mpr h6) (an rf (an (rr ((0 : Nat))) (an (rr ((0 : Nat))) (an (rr ((0 : Nat))) (an (an (rr a.1) (an (rr a.2) trivial)) (an (an (rr b.1) (an (rr b.2) trivial)) (an (an (rr ((0 : Int))) (an (rr (Value.slice none (0 : Nat) (0 : Nat))) trivial)) trivial)))))))))))))))))))))
theorem im_r3 (a b : NI) (h1 : a.2.isEmpty = true) (h2 : b.2.isEmpty = false) :
    Tst.path (vrun0 Tryz.prog njCs (fl BIMul []) 3 66 [nv a, nv b]) [true, true, true, true, false] (toSt Tryz.prog 66 .normal s3 (SIA a b 66)) :=
  mp (an (bT (bT h1)) (an (bT (bT h1)) (an (bT (bT h1)) (an (bT h1) (an (bT h2) (an (rr ((0 : Nat))) (an (rr ((0 : Nat))) (an (rr ((0 : Nat))) (an (an (rr a.1) (an (rr a.2) trivial)) (an (an (rr b.1) (an (rr b.2) trivial)) (an (an (rr ((0 : Int))) (an (rr (Value.slice none (0 : Nat) (0 : Nat))) trivial)) trivial)))))))))))
theorem im_r4 (a b : NI) (h1 : a.2.isEmpty = false) :
    Tst.path (vrun0 Tryz.prog njCs (fl BIMul []) 3 66 [nv a, nv b]) [false, false, false, false, false] (toSt Tryz.prog 66 .normal s3 (SIA a b 66)) :=
  mp (an (bT (bT h1)) (an (bT (bT h1)) (an (bT (bT h1)) (an (bT h1) (an rf (an (rr ((0 : Nat))) (an (rr ((0 : Nat))) (an (rr ((0 : Nat))) (an (an (rr a.1) (an (rr a.2) trivial)) (an (an (rr b.1) (an (rr b.2) trivial)) (an (an (rr ((0 : Int))) (an (rr (Value.slice none (0 : Nat) (0 : Nat))) trivial)) trivial)))))))))))
theorem im_fin (a b : NI) (h1 : (okI (a.1, a.2)) = true) (h2 : (okI (b.1, b.2)) = true) (h3 : (okW2 (prW (a.1, a.2)) (prW (b.1, b.2))) = true) (h4 : (dgB (mulW (prW (a.1, a.2)) (prW (b.1, b.2))) && tmB (mulW (prW (a.1, a.2)) (prW (b.1, b.2)))) = true) (h5 : (mkI (madeZ (!negI (a.1, a.2) == negI (b.1, b.2)) (mulW (prW (a.1, a.2)) (prW (b.1, b.2))))).1 = (mkI (madeZ (negI a != negI b) (mulW (prW a) (prW b)))).1) (h6 : (mkI (madeZ (!negI (a.1, a.2) == negI (b.1, b.2)) (mulW (prW (a.1, a.2)) (prW (b.1, b.2))))).2 = (mkI (madeZ (negI a != negI b) (mulW (prW a) (prW b)))).2) :
    Tst.path (vall Tryz.prog njCs (List.drop 3 (fl BIMul [])) (SIA a b 66)) [] (toRet Tryz.prog Tryz.f79 false (nv (mkI (madeZ (negI a != negI b) (mulW (prW a) (prW b)))))) :=
  mp (an h1 (an h2 (an h3 (an h4 (an h5 (an h6 trivial))))))
noncomputable def cINeg : Ctr := { f := 144, ps := [tI], rs := [tI], fresh := false, pre := fun d => okI d.1, fn := fun d => (iNeg d.1, ()) }
noncomputable def cISign : Ctr := { f := 124, ps := [tI], rs := [.int .i64], fresh := true, pre := fun d => okI d.1, fn := fun d => (iSign d.1, ()) }
noncomputable def cIAdd : Ctr := { f := 80, ps := [tI, tI], rs := [tI], fresh := false, pre := fun d => okI d.1 && okI d.2.1, fn := fun d => (iAdd d.1 d.2.1, ()) }
noncomputable def cIMul : Ctr := { f := 79, ps := [tI, tI], rs := [tI], fresh := false, pre := fun d => okI d.1 && okI d.2.1, fn := fun d => (iMul d.1 d.2.1, ()) }
theorem nj_ok : CallOk Tryz.prog (gS njCs) := ctrs_ok fun c hc => by
  simp only [List.mem_cons, List.not_mem_nil, or_false] at hc
  rcases hc with rfl | rfl | rfl | rfl | rfl | rfl | rfl | rfl
  · exact cParts_ok
  · exact cMade_ok
  · exact cAddW_ok
  · exact cSubW_ok
  · exact cCmpW_ok
  · exact cMulW_ok
  · exact cMul64_ok
  · exact cSize_ok
theorem dgN_B {z : Int} (h : 0 ≤ z) : (dgB (dgN 18446744073709551616 z) && tmB (dgN 18446744073709551616 z)) = true := by
  obtain ⟨h1, h2, _⟩ := dgN_spec (b := 18446744073709551616) (by decide) h
  rw [dgB_iff.2 h1, tmB_iff.2 h2]; rfl
theorem vw_dgN {z : Int} (h : 0 ≤ z) : vw (dgN 18446744073709551616 z) = z := (dgN_spec (b := 18446744073709551616) (by decide) h).2.2
theorem prW_B {a : NI} (h : okI a = true) : (dgB (prW a) && tmB (prW a)) = true := by
  obtain ⟨h1, h2, _⟩ := parts_law h
  rw [dgB_iff.2 h1, tmB_iff.2 h2]; rfl
theorem prW_W2 {a b : NI} (h : okI a = true) (g : okI b = true) : okW2 (prW a) (prW b) = true := by
  obtain ⟨h1, _, _, _, h5⟩ := parts_law h
  obtain ⟨g1, _, _, _, g5⟩ := parts_law g
  unfold okW2
  rw [dgB_iff.2 h1, dgB_iff.2 g1, decide_eq_true (show (prW a).length ≤ 400000 by omega), decide_eq_true (show (prW b).length ≤ 400000 by omega)]; rfl
theorem prW_C2 {a b : NI} (h : okI a = true) (g : okI b = true) : okC2 (prW a) (prW b) = true := by
  obtain ⟨h1, h2, _, _, h5⟩ := parts_law h
  obtain ⟨g1, g2, _⟩ := parts_law g
  unfold okC2
  rw [dgB_iff.2 h1, tmB_iff.2 h2, dgB_iff.2 g1, tmB_iff.2 g2, decide_eq_true (show (prW a).length ≤ 1000000 by omega)]; rfl
theorem ok_sm {a : NI} (h : okI a = true) (hs : a.2 = []) : -9223372036854775808 ≤ a.1 ∧ a.1 ≤ 9223372036854775807 := i64B_iff.1 ((okN_sm hs).symm.trans h)
theorem neg_holds (a : NI) (h : okI a = true) : Holds Tryz.prog false 144 [nv a] (nv (iNeg a)) := by
  obtain ⟨h1, h2, h3, h4, _⟩ := parts_law h
  have e2 : mkI (madeZ (!negI a) (prW a)) = iNeg a := by
    unfold iNeg
    congr 1
    cases hn : negI a
    · have : ¬ valI a < 0 := fun hh => by rw [h4.2 hh] at hn; cases hn
      show -vw (prW a) = _
      omega
    · have := h4.1 hn
      show vw (prW a) = _
      omega
  refine holds_fl (c := BNeg) Tryz.func144 rfl rfl fun w F => ?_
  by_cases hs : a.2 = []
  · have hr := ok_sm h hs
    by_cases hm : a.1 = -9223372036854775808
    · rw [← e2]
      exact GoalL.ret known mixed nj_ok 9 _ (ng_min a (smI_iff.2 hs) hm h (prW_B h)) fun T H h => h
    · have e : iNeg a = (-a.1, []) := by unfold iNeg; rw [valI_sm hs]; exact mkI_small (by omega)
      rw [e]
      refine GoalL.ret known mixed nj_ok 9 _ (ng_sm a (smI_iff.2 hs) hm ?_) fun T H h => h
      rw [wrapI (by omega)]; omega
  · rw [← e2]
    exact GoalL.ret known mixed nj_ok 9 _ (ng_big a (smI_not.2 hs) h (prW_B h)) fun T H h => h
theorem cINeg_ok : cINeg.Ok Tryz.prog := fun ⟨a, _⟩ h => neg_holds a h
theorem iSign_eq {a : NI} (h : okI a = true) : iSign a = sgn a.1 := by
  unfold iSign
  by_cases hs : a.2 = []
  · rw [valI_sm hs]
  · obtain ⟨h1, _, _, h4, _⟩ := (okN_big hs).1 h
    have hv : valI a = a.1 * vw a.2 := by unfold valI; rw [if_neg hs]
    rw [hv]
    rcases h1 with h1 | h1 <;> rw [h1]
    · rw [sgn_pos (by omega), sgn_pos (by omega)]
    · rw [sgn_neg (by omega), sgn_neg (by omega)]
theorem sign_holds (a : NI) (h : okI a = true) : Holds Tryz.prog true 124 [nv a] (iv (iSign a)) := by
  rw [iSign_eq h]
  refine holds_fl (c := BSign) Tryz.func124 rfl rfl fun w F => ?_
  refine GoalL.ret known mixed none_ok 9 _ (sg_all a ?_) fun T H h => h
  unfold sgn
  split <;> split <;> split <;> (try split) <;> omega
theorem cISign_ok : cISign.Ok Tryz.prog := fun ⟨a, _⟩ h => sign_holds a h
theorem add_rest (a b : NI) (h : okI a = true) (g : okI b = true) (hn : iAdd a b = mkI (valI a + valI b)) (w : World) (F : Sv.Env) :
    GoalL Tryz.prog w F 67 (List.drop 3 (fl BIAdd [])) (SIA a b 67).T (SIA a b 67).H (retQ Tryz.prog false Tryz.f80 (nv (iAdd a b))) := by
  obtain ⟨h1, h2, h3, h4, _⟩ := parts_law h
  obtain ⟨g1, g2, g3, g4, _⟩ := parts_law g
  rw [hn]
  by_cases hs : negI a = negI b
  · have e : mkI (madeZ (negI a) (addW (prW a) (prW b))) = mkI (valI a + valI b) := by
      congr 1
      have hv : vw (addW (prW a) (prW b)) = vw (prW a) + vw (prW b) := vw_dgN (by omega)
      cases hna : negI a
      · have : ¬ valI a < 0 := fun hh => by rw [h4.2 hh] at hna; cases hna
        have : ¬ valI b < 0 := fun hh => by rw [← hs, hna] at g4; have := g4.2 hh; cases this
        show vw _ = _
        omega
      · have := h4.1 hna
        have := g4.1 (by rw [← hs]; exact hna)
        show -vw _ = _
        omega
    rw [← e]
    exact GoalL.allRet (s := SIA a b 67) known mixed nj_ok _ (ia_same a b h g hs (prW_W2 h g) (dgN_B (show 0 ≤ vw (prW a) + vw (prW b) by omega))) fun T H h => h
  · have hab : (valI a < 0 ∧ ¬ valI b < 0) ∨ (¬ valI a < 0 ∧ valI b < 0) := by
      cases hna : negI a <;> cases hnb : negI b
      · rw [hna, hnb] at hs; exact absurd rfl hs
      · exact .inr ⟨fun hh => (by rw [h4.2 hh] at hna; cases hna), g4.1 hnb⟩
      · exact .inl ⟨h4.1 hna, fun hh => (by rw [g4.2 hh] at hnb; cases hnb)⟩
      · rw [hna, hnb] at hs; exact absurd rfl hs
    by_cases hge : cmpV (vw (prW a)) (vw (prW b)) ≥ 0
    · have hle : vw (prW b) ≤ vw (prW a) := by
        unfold cmpV at hge
        split at hge
        · omega
        · omega
      have hv : vw (subW (prW a) (prW b)) = vw (prW a) - vw (prW b) := vw_dgN (by omega)
      have e : mkI (madeZ (negI a) (subW (prW a) (prW b))) = mkI (valI a + valI b) := by
        congr 1
        cases hna : negI a
        · have : ¬ valI a < 0 := fun hh => by rw [h4.2 hh] at hna; cases hna
          show vw _ = _
          omega
        · have := h4.1 hna
          show -vw _ = _
          omega
      rw [← e]
      exact GoalL.allRet (s := SIA a b 67) known mixed nj_ok _ (ia_ge a b h g hs (prW_C2 h g) hge (by rw [show okW2 _ _ = true from prW_W2 h g, Bool.true_and]; exact decide_eq_true hle) (dgN_B (show 0 ≤ vw (prW a) - vw (prW b) by omega))) fun T H h => h
    · have hle : vw (prW a) ≤ vw (prW b) := by
        unfold cmpV at hge
        split at hge
        · omega
        · split at hge <;> omega
      have hv : vw (subW (prW b) (prW a)) = vw (prW b) - vw (prW a) := vw_dgN (by omega)
      have e : mkI (madeZ (negI b) (subW (prW b) (prW a))) = mkI (valI a + valI b) := by
        congr 1
        cases hnb : negI b
        · have : ¬ valI b < 0 := fun hh => by rw [g4.2 hh] at hnb; cases hnb
          show vw _ = _
          omega
        · have := g4.1 hnb
          show -vw _ = _
          omega
      rw [← e]
      exact GoalL.allRet (s := SIA a b 67) known mixed nj_ok _ (ia_lt a b h g hs (prW_C2 h g) hge (by rw [show okW2 _ _ = true from prW_W2 g h, Bool.true_and]; exact decide_eq_true hle) (dgN_B (show 0 ≤ vw (prW b) - vw (prW a) by omega))) fun T H h => h
theorem iAdd_slow {a b : NI} (h : ¬ (smI a && (smI b && i64B (a.1 + b.1))) = true) : iAdd a b = mkI (valI a + valI b) := by unfold iAdd; rw [if_neg h]
theorem add_holds (a b : NI) (h : okI a = true) (g : okI b = true) : Holds Tryz.prog false 80 [nv a, nv b] (nv (iAdd a b)) := by
  refine holds_fl (c := BIAdd) Tryz.func80 rfl rfl fun w F => ?_
  by_cases ha : a.2 = []
  · have hra := ok_sm h ha
    by_cases hb : b.2 = []
    · have hrb := ok_sm g hb
      by_cases hf : i64B (a.1 + b.1) = true
      · have hf' := i64B_iff.1 hf
        have e : iAdd a b = (a.1 + b.1, []) := by unfold iAdd; rw [smI_iff.2 ha, smI_iff.2 hb, hf]; rfl
        rw [e]
        refine GoalL.ret known mixed nj_ok 3 _ (ia_fast a b (smI_iff.2 ha) (smI_iff.2 hb) hf' ?_) fun T H h => h
        rw [decide_eq_decide]; omega
      · have e := iAdd_slow (a := a) (b := b) fun hh => by
          simp only [Bool.and_eq_true] at hh
          exact hf hh.2.2
        have hf' : ¬ (-9223372036854775808 ≤ a.1 + b.1 ∧ a.1 + b.1 ≤ 9223372036854775807) := fun hh => hf (i64B_iff.2 hh)
        refine GoalL.toW known mixed nj_ok 3 _ (ia_over_w a b (smI_iff.2 ha) (smI_iff.2 hb) ?_ ?_) (by kernel_rfl) (add_rest a b h g e w F)
        · unfold fits
          rw [Bool.and_eq_false_iff]
          by_cases h0 : -9223372036854775808 ≤ a.1 + b.1
          · exact .inr (decide_eq_false fun hh => hf' ⟨h0, hh⟩)
          · exact .inl (decide_eq_false h0)
        · rw [decide_eq_decide]
          have hw : IntKind.wrap .i64 (a.1 + b.1) = if a.1 + b.1 < 0 then a.1 + b.1 + 18446744073709551616 else a.1 + b.1 - 18446744073709551616 := by
            have e1 : IntKind.signed .i64 = true := rfl
            have e2 : IntKind.bits .i64 = 64 := rfl
            unfold IntKind.wrap
            simp only [e1, e2, Bool.true_and]
            rw [show (2 : Int) ^ 64 = 18446744073709551616 from rfl]
            split <;> split <;> simp_all <;> omega
          rw [hw]
          split <;> omega
    · exact GoalL.to known mixed nj_ok 3 _ (ia_big2 a b (smI_iff.2 ha) (smI_not.2 hb)) (by kernel_rfl) (add_rest a b h g (iAdd_slow fun hh => by
        simp only [Bool.and_eq_true] at hh
        exact hb (smI_iff.1 hh.2.1)) w F)
  · exact GoalL.to known mixed nj_ok 3 _ (ia_big1 a b (smI_not.2 ha)) (by kernel_rfl) (add_rest a b h g (iAdd_slow fun hh => by
        simp only [Bool.and_eq_true] at hh
        exact ha (smI_iff.1 hh.1)) w F)
theorem cIAdd_ok : cIAdd.Ok Tryz.prog := fun ⟨a, b, _⟩ h => by
  have h : (okI a && okI b) = true := h
  rw [Bool.and_eq_true] at h
  exact add_holds a b h.1 h.2
theorem sign_mul {x y : Int} {n m : Bool} (hn : n = true ↔ x < 0) (hm : m = true ↔ y < 0) {p : Int} (hp : p = x.natAbs * y.natAbs) : (match (n != m) with | true => -p | false => p) = x * y := by
  have e : (p : Int) = ((x * y).natAbs : Int) := by rw [hp, Int.natAbs_mul]; simp
  cases n <;> cases m <;> simp only [Bool.false_eq_true, false_iff, true_iff, Int.not_lt] at hn hm
  · have := Int.mul_nonneg hn hm; show p = _; omega
  · have := Int.mul_nonneg hn (show 0 ≤ -y by omega); rw [Int.mul_neg] at this; show -p = _; omega
  · have := Int.mul_nonneg (show 0 ≤ -x by omega) hm; rw [Int.neg_mul] at this; show -p = _; omega
  · have := Int.mul_nonneg (show 0 ≤ -x by omega) (show 0 ≤ -y by omega); rw [Int.neg_mul, Int.mul_neg, Int.neg_neg] at this; show p = _; omega
theorem mul_rest (a b : NI) (h : okI a = true) (g : okI b = true) (w : World) (F : Sv.Env) :
    GoalL Tryz.prog w F 66 (List.drop 3 (fl BIMul [])) (SIA a b 66).T (SIA a b 66).H (retQ Tryz.prog false Tryz.f79 (nv (iMul a b))) := by
  obtain ⟨h1, h2, h3, h4, _⟩ := parts_law h
  obtain ⟨g1, g2, g3, g4, _⟩ := parts_law g
  have hp : 0 ≤ vw (prW a) * vw (prW b) := Int.mul_nonneg (by omega) (by omega)
  have e : mkI (madeZ (negI a != negI b) (mulW (prW a) (prW b))) = iMul a b := by
    unfold iMul madeZ
    have hv : vw (mulW (prW a) (prW b)) = vw (prW a) * vw (prW b) := vw_dgN hp
    rw [hv, h3, g3]
    exact congrArg mkI (sign_mul h4 g4 rfl)
  rw [← e]
  exact GoalL.allRet (s := SIA a b 66) known mixed nj_ok _ (im_fin a b h g (prW_W2 h g) (dgN_B hp) rfl rfl) fun T H h => h
theorem mul_holds (a b : NI) (h : okI a = true) (g : okI b = true) : Holds Tryz.prog false 79 [nv a, nv b] (nv (iMul a b)) := by
  refine holds_fl (c := BIMul) Tryz.func79 rfl rfl fun w F => ?_
  by_cases ha : a.2 = []
  · have hra := ok_sm h ha
    by_cases hb : b.2 = []
    · have hrb := ok_sm g hb
      have hoa := i64B_iff.2 hra
      have hob := i64B_iff.2 hrb
      have hm : okM (absI a.1) (absI b.1) = true := okM_iff.2 (by unfold absI; omega)
      by_cases hhi : mlHi (absI a.1) (absI b.1) = 0
      · by_cases hlo : mlLo (absI a.1) (absI b.1) ≤ 9223372036854775807
        · have hlo0 : 0 ≤ mlLo (absI a.1) (absI b.1) := Int.emod_nonneg _ (by decide)
          have hp : mlLo (absI a.1) (absI b.1) = a.1.natAbs * b.1.natAbs := by
            have := Int.emod_add_mul_ediv (absI a.1 * absI b.1) 18446744073709551616
            unfold mlHi at hhi
            rw [hhi] at this
            unfold mlLo
            show _ = absI a.1 * absI b.1
            omega
          have hsm := sign_mul (n := decide (a.1 < 0)) (m := decide (b.1 < 0)) (by simp) (by simp) hp
          have hval : iMul a b = mkI (a.1 * b.1) := by unfold iMul; rw [valI_sm ha, valI_sm hb]
          by_cases hsg : decide (a.1 < 0) = decide (b.1 < 0)
          · have e : iMul a b = (mlLo (absI a.1) (absI b.1), []) := by
              rw [hsg, bne_self_eq_false] at hsm
              have hsm : mlLo (absI a.1) (absI b.1) = a.1 * b.1 := hsm
              rw [hval, ← hsm]; exact mkI_small (by omega)
            rw [e]
            exact GoalL.ret known mixed nj_ok 3 _ (im_pos a b (smI_iff.2 ha) (smI_iff.2 hb) hoa hob hm hhi hlo hsg (wrapI (by omega))) fun T H h => h
          · have e : iMul a b = (-mlLo (absI a.1) (absI b.1), []) := by
              rw [show (decide (a.1 < 0) != decide (b.1 < 0)) = true from bne_iff_ne.2 hsg] at hsm
              have hsm : -mlLo (absI a.1) (absI b.1) = a.1 * b.1 := hsm
              rw [hval, ← hsm]; exact mkI_small (by omega)
            rw [e]
            refine GoalL.ret known mixed nj_ok 3 _ (im_neg a b (smI_iff.2 ha) (smI_iff.2 hb) hoa hob hm hhi hlo hsg ?_) fun T H h => h
            rw [wrapI (x := mlLo (absI a.1) (absI b.1)) (by omega), wrapI (by omega)]; omega
        · exact GoalL.to known mixed nj_ok 3 _ (im_r1 a b (smI_iff.2 ha) (smI_iff.2 hb) hoa hob hm hhi hlo) (by kernel_rfl) (mul_rest a b h g w F)
      · exact GoalL.to known mixed nj_ok 3 _ (im_r2 a b (smI_iff.2 ha) (smI_iff.2 hb) hoa hob hm hhi) (by kernel_rfl) (mul_rest a b h g w F)
    · exact GoalL.to known mixed nj_ok 3 _ (im_r3 a b (smI_iff.2 ha) (smI_not.2 hb)) (by kernel_rfl) (mul_rest a b h g w F)
  · exact GoalL.to known mixed nj_ok 3 _ (im_r4 a b (smI_not.2 ha)) (by kernel_rfl) (mul_rest a b h g w F)
theorem cIMul_ok : cIMul.Ok Tryz.prog := fun ⟨a, b, _⟩ h => by
  have h : (okI a && okI b) = true := h
  rw [Bool.and_eq_true] at h
  exact mul_holds a b h.1 h.2
end
end Go.Proofs.YtjcbbabaabcdgaaGreatDoor
/- Package num: integers: difference, absolute value, comparison. -/
namespace Go.Proofs.YtjcbbabaabcdgaaGreatDoor
open Go.RowKit Sv
set_option maxRecDepth 100000
set_option linter.unusedVariables false
noncomputable section
noncomputable def nkCs : VCaller := ctrs [cIAdd, cINeg, cISign]
noncomputable def cISub : Ctr := { f := 159, ps := [tI, tI], rs := [tI], fresh := false, pre := fun d => okI d.1 && okI d.2.1, fn := fun d => (iSub d.1 d.2.1, ()) }
noncomputable def cIAbs : Ctr := { f := 183, ps := [tI], rs := [tI], fresh := false, pre := fun d => okI d.1, fn := fun d => (iAbs d.1, ()) }
noncomputable def cICmp : Ctr := { f := 101, ps := [tI, tI], rs := [.int .i64], fresh := true, pre := fun d => okN 50000 d.1 && okN 50000 d.2.1, fn := fun d => (iCmp d.1 d.2.1, ()) }
noncomputable def nkCs2 : VCaller := ctrs [cISub, cISign]
theorem is_all (a b : NI) (h1 : (okI (b.1, b.2)) = true) (h2 : (okI (a.1, a.2) && okI ((iNeg (b.1, b.2)).1, (iNeg (b.1, b.2)).2)) = true) :
    Tst.path (vrun0 Tryz.prog nkCs (fl BISub []) 9 (Tryz.f159.ntmps) [nv a, nv b]) [] (toRet Tryz.prog Tryz.f159 false (nv (iAdd a (iNeg b)))) :=
  mp (an (sr (AV.agg [iv a.1, AV.lst true (.int .u64) a.2])) (an (sr (AV.agg [iv b.1, AV.lst true (.int .u64) b.2])) (an h1 (an (sr (AV.agg [iv a.1, AV.lst true (.int .u64) a.2])) (an h2 (an (rr (iAdd (a.1, a.2) ((iNeg (b.1, b.2)).1, (iNeg (b.1, b.2)).2)).1) (an (rr (iAdd (a.1, a.2) ((iNeg (b.1, b.2)).1, (iNeg (b.1, b.2)).2)).2) trivial)))))))
theorem ab_neg (a : NI) (h1 : a.1 < 0) (h2 : (okI (a.1, a.2)) = true) :
    Tst.path (vrun0 Tryz.prog nkCs (fl BAbs []) 9 (Tryz.f183.ntmps) [nv a]) [true] (toRet Tryz.prog Tryz.f183 false (nv (iNeg a))) :=
  mp (an (decide_eq_true h1) (an h2 (an (rr (iNeg (a.1, a.2)).1) (an (rr (iNeg (a.1, a.2)).2) trivial))))
theorem ab_pos (a : NI) (h1 : ¬a.1 < 0) :
    Tst.path (vrun0 Tryz.prog nkCs (fl BAbs []) 9 (Tryz.f183.ntmps) [nv a]) [false] (toRet Tryz.prog Tryz.f183 false (nv a)) :=
  mp (an (decide_eq_false h1) (an (rr a.1) (an (rr a.2) trivial)))
theorem ic_lt (a b : NI) (h1 : a.2.isEmpty = true) (h2 : b.2.isEmpty = true) (h3 : a.1 < b.1) :
    Tst.path (vrun0 Tryz.prog nkCs2 (fl BICmp []) 9 29 [nv a, nv b]) [true, true, true, true, true, true] (toRet Tryz.prog Tryz.f101 true (iv (-1))) :=
  mp (an (bT (bT h1)) (an (bT (bT h1)) (an (bT (bT h1)) (an (bT h1) (an (bT h2) (an (decide_eq_true h3) (rr ((-1 : Int)))))))))
theorem ic_gt (a b : NI) (h1 : a.2.isEmpty = true) (h2 : b.2.isEmpty = true) (h3 : ¬a.1 < b.1) (h4 : a.1 > b.1) :
    Tst.path (vrun0 Tryz.prog nkCs2 (fl BICmp []) 9 29 [nv a, nv b]) [true, true, true, true, true, false, true] (toRet Tryz.prog Tryz.f101 true (iv 1)) :=
  mp (an (bT (bT h1)) (an (bT (bT h1)) (an (bT (bT h1)) (an (bT h1) (an (bT h2) (an (decide_eq_false h3) (an (decide_eq_true h4) (rr ((1 : Int))))))))))
theorem ic_eq (a b : NI) (h1 : a.2.isEmpty = true) (h2 : b.2.isEmpty = true) (h3 : ¬a.1 < b.1) (h4 : ¬a.1 > b.1) :
    Tst.path (vrun0 Tryz.prog nkCs2 (fl BICmp []) 9 29 [nv a, nv b]) [true, true, true, true, true, false, false] (toRet Tryz.prog Tryz.f101 true (iv 0)) :=
  mp (an (bT (bT h1)) (an (bT (bT h1)) (an (bT (bT h1)) (an (bT h1) (an (bT h2) (an (decide_eq_false h3) (an (decide_eq_false h4) (rr ((0 : Int))))))))))
theorem ic_b2 (a b : NI) (h1 : a.2.isEmpty = true) (h2 : b.2.isEmpty = false) (h3 : (okI (a.1, a.2) && okI (b.1, b.2)) = true) (h4 : (okI ((iSub (a.1, a.2) (b.1, b.2)).1, (iSub (a.1, a.2) (b.1, b.2)).2)) = true) :
    Tst.path (vrun0 Tryz.prog nkCs2 (fl BICmp []) 9 29 [nv a, nv b]) [true, true, true, true, false] (toRet Tryz.prog Tryz.f101 true (iv (iSign (iSub a b)))) :=
  mp (an (bT (bT h1)) (an (bT (bT h1)) (an (bT (bT h1)) (an (bT h1) (an (bT h2) (an h3 (an h4 (rr (iSign ((iSub (a.1, a.2) (b.1, b.2)).1, (iSub (a.1, a.2) (b.1, b.2)).2))))))))))
theorem ic_b1 (a b : NI) (h1 : a.2.isEmpty = false) (h2 : (okI (a.1, a.2) && okI (b.1, b.2)) = true) (h3 : (okI ((iSub (a.1, a.2) (b.1, b.2)).1, (iSub (a.1, a.2) (b.1, b.2)).2)) = true) :
    Tst.path (vrun0 Tryz.prog nkCs2 (fl BICmp []) 9 29 [nv a, nv b]) [false, false, false, false, false] (toRet Tryz.prog Tryz.f101 true (iv (iSign (iSub a b)))) :=
  mp (an (bT (bT h1)) (an (bT (bT h1)) (an (bT (bT h1)) (an (bT h1) (an rf (an h2 (an h3 (rr (iSign ((iSub (a.1, a.2) (b.1, b.2)).1, (iSub (a.1, a.2) (b.1, b.2)).2))))))))))
theorem okN_mono {n m : Nat} {a : NI} (hnm : n ≤ m) (h : okN n a = true) : okN m a = true := by
  by_cases hs : a.2 = []
  · rw [okN_sm hs] at h ⊢; exact h
  · obtain ⟨h1, h2, h3, h4, h5⟩ := (okN_big hs).1 h
    exact (okN_big hs).2 ⟨h1, h2, h3, h4, by omega⟩
theorem ok_neg {n : Nat} {a : NI} (h : okN n a = true) (hn : 1 ≤ n) : okN n (iNeg a) = true := by
  have := val_lt h hn
  exact (mkI_law (by omega)).1
theorem val_neg (a : NI) : valI (iNeg a) = -valI a := val_mk _
theorem val_sub (a b : NI) : valI (iSub a b) = valI a - valI b := by unfold iSub; rw [val_iAdd, val_neg]; omega
theorem val_mul (a b : NI) : valI (iMul a b) = valI a * valI b := val_mk _
theorem val_abs (a : NI) : valI (iAbs a) = (valI a).natAbs := val_mk _
theorem nk_ok : CallOk Tryz.prog (gS nkCs) := ctrs_ok fun c hc => by
  simp only [List.mem_cons, List.not_mem_nil, or_false] at hc
  rcases hc with rfl | rfl | rfl
  · exact cIAdd_ok
  · exact cINeg_ok
  · exact cISign_ok
theorem sub_holds (a b : NI) (h : okI a = true) (g : okI b = true) : Holds Tryz.prog false 159 [nv a, nv b] (nv (iSub a b)) := by
  refine holds_fl (c := BISub) Tryz.func159 rfl rfl fun w F => ?_
  have gn : okI (iNeg b) = true := ok_neg g (by decide)
  exact GoalL.ret known mixed nk_ok 9 _ (is_all a b g (by rw [show okI (Prod.fst a, Prod.snd a) = true from h, Bool.true_and]; exact gn)) fun T H h => h
theorem cISub_ok : cISub.Ok Tryz.prog := fun ⟨a, b, _⟩ h => by
  have h : (okI a && okI b) = true := h
  rw [Bool.and_eq_true] at h
  exact sub_holds a b h.1 h.2
theorem neg_iff {n : Nat} {a : NI} (h : okN n a = true) : a.1 < 0 ↔ valI a < 0 := by
  obtain ⟨_, _, _, h4, _⟩ := parts_law h
  rw [← h4]; unfold negI; rw [decide_eq_true_eq]
theorem abs_holds (a : NI) (h : okI a = true) : Holds Tryz.prog false 183 [nv a] (nv (iAbs a)) := by
  refine holds_fl (c := BAbs) Tryz.func183 rfl rfl fun w F => ?_
  by_cases hn : a.1 < 0
  · have hv := (neg_iff h).1 hn
    have e : iNeg a = iAbs a := by unfold iNeg iAbs; congr 1; omega
    rw [← e]
    exact GoalL.ret known mixed nk_ok 9 _ (ab_neg a hn h) fun T H h => h
  · have hv : ¬ valI a < 0 := fun hh => hn ((neg_iff h).2 hh)
    have e : a = iAbs a := by
      have := ok_mk h (by omega)
      unfold iAbs
      rw [show ((valI a).natAbs : Int) = valI a by omega]; exact this
    have := GoalL.ret (P := Tryz.prog) (w0 := w) (F := F) (X := X0) known mixed nk_ok 9 _ (ab_pos a hn) fun T H h => h
    rw [← e]
    exact this
theorem cIAbs_ok : cIAbs.Ok Tryz.prog := fun ⟨a, _⟩ h => abs_holds a h
theorem nk2_ok : CallOk Tryz.prog (gS nkCs2) := ctrs_ok fun c hc => by
  simp only [List.mem_cons, List.not_mem_nil, or_false] at hc
  rcases hc with rfl | rfl
  · exact cISub_ok
  · exact cISign_ok
theorem pow_two_le : (2 : Int) * 18446744073709551616 ^ 50000 ≤ 18446744073709551616 ^ 100000 := by
  have h := pow_le_pow' (b := 18446744073709551616) (by decide) (show 50001 ≤ 100000 by decide)
  rw [show 50001 = 50000 + 1 from rfl, Int.pow_succ] at h
  have := pow_pos' (b := 18446744073709551616) (by decide) 50000
  generalize (18446744073709551616 : Int) ^ 50000 = p at *
  generalize (18446744073709551616 : Int) ^ 100000 = q at *
  omega
theorem ok_sub {a b : NI} (h : okN 50000 a = true) (g : okN 50000 b = true) : okI (iSub a b) = true := by
  have h1 := val_lt h (by decide)
  have g1 := val_lt g (by decide)
  have h2 := pow_two_le
  refine ok_iAdd ?_
  rw [val_neg]
  generalize (18446744073709551616 : Int) ^ 50000 = p at *
  generalize (18446744073709551616 : Int) ^ 100000 = q at *
  omega
theorem cmp_holds (a b : NI) (h : okN 50000 a = true) (g : okN 50000 b = true) : Holds Tryz.prog true 101 [nv a, nv b] (iv (iCmp a b)) := by
  have ho := ok_sub h g
  have hs : iSign (iSub a b) = iCmp a b := by unfold iSign iCmp; rw [val_sub]
  have h' := okN_mono (show 50000 ≤ 100000 by decide) h
  have g' := okN_mono (show 50000 ≤ 100000 by decide) g
  have hh : (okI (Prod.fst a, Prod.snd a) && okI (Prod.fst b, Prod.snd b)) = true := by
    rw [show okI (Prod.fst a, Prod.snd a) = true from h', show okI (Prod.fst b, Prod.snd b) = true from g']; rfl
  refine holds_fl (c := BICmp) Tryz.func101 rfl rfl fun w F => ?_
  by_cases ha : a.2 = []
  · by_cases hb : b.2 = []
    · have e : iCmp a b = sgn (a.1 - b.1) := by unfold iCmp; rw [valI_sm ha, valI_sm hb]
      rw [e]
      by_cases h1 : a.1 < b.1
      · rw [sgn_neg (by omega)]
        exact GoalL.ret known mixed nk2_ok 9 _ (ic_lt a b (smI_iff.2 ha) (smI_iff.2 hb) h1) fun T H h => h
      · by_cases h2 : a.1 > b.1
        · rw [sgn_pos (by omega)]
          exact GoalL.ret known mixed nk2_ok 9 _ (ic_gt a b (smI_iff.2 ha) (smI_iff.2 hb) h1 h2) fun T H h => h
        · rw [show a.1 - b.1 = 0 by omega, sgn_zero]
          exact GoalL.ret known mixed nk2_ok 9 _ (ic_eq a b (smI_iff.2 ha) (smI_iff.2 hb) h1 h2) fun T H h => h
    · rw [← hs]
      exact GoalL.ret known mixed nk2_ok 9 _ (ic_b2 a b (smI_iff.2 ha) (smI_not.2 hb) hh ho) fun T H h => h
  · rw [← hs]
    exact GoalL.ret known mixed nk2_ok 9 _ (ic_b1 a b (smI_not.2 ha) hh ho) fun T H h => h
theorem cICmp_ok : cICmp.Ok Tryz.prog := fun ⟨a, b, _⟩ h => by
  have h : (okN 50000 a && okN 50000 b) = true := h
  rw [Bool.and_eq_true] at h
  exact cmp_holds a b h.1 h.2
end
end Go.Proofs.YtjcbbabaabcdgaaGreatDoor
/- Numbers as lists of digits: lists with as many digits as wanted; long division, a step of it; shifts: plain facts. -/
namespace Go.Proofs.YtjcbbabaabcdgaaGreatDoor
def padD (b : Int) : Nat → Int → List Int
  | 0, _ => []
  | m + 1, z => z % b :: padD b m (z / b)
theorem pad_len (b : Int) : ∀ (m : Nat) (z : Int), (padD b m z).length = m
  | 0, _ => rfl
  | m + 1, z => by rw [padD, List.length_cons, pad_len b m]
theorem pad_dg {b : Int} (hb : 0 < b) : ∀ (m : Nat) (z : Int), Dg b (padD b m z)
  | 0, _ => .nil
  | m + 1, z => .cons ⟨Int.emod_nonneg _ (by omega), Int.emod_lt_of_pos _ hb⟩ (pad_dg hb m _)
theorem pad_vl {b : Int} (hb : 0 < b) : ∀ (m : Nat) (z : Int), 0 ≤ z → z < b ^ m → vl b (padD b m z) = z
  | 0, z, h0, h1 => by simp at h1; simp [padD, vl]; omega
  | m + 1, z, h0, h1 => by
    have h2 : z / b < b ^ m := Int.ediv_lt_of_lt_mul hb (by rw [Int.pow_succ] at h1; exact h1)
    have h3 := pad_vl hb m (z / b) (Int.ediv_nonneg h0 (Int.le_of_lt hb)) h2
    show z % b + b * vl b (padD b m (z / b)) = z
    rw [h3]; exact Int.emod_add_mul_ediv z b
theorem pad_eq {b : Int} (hb : 1 < b) {l : List Int} (h : Dg b l) : l = padD b l.length (vl b l) := by
  have hb0 : 0 < b := by omega
  exact vl_inj hb h (pad_dg hb0 _ _) (pad_len b _ _).symm (pad_vl hb0 _ _ (vl_nn hb0 h) (vl_lt hb0 h)).symm
theorem parts_of {b : Int} {u v : List Int} {n : Nat} (hb : 2 ≤ b) (hu : Dg b u) (hv : Dg b v) (lu : u.length = n + 3) (lv : v.length = n + 2) (h1 : 1 ≤ v.getD (n + 1) 0) :
    Parts b (v.getD (n + 1) 0) (v.getD n 0) (vl b (v.take n)) (u.getD (n + 2) 0) (u.getD (n + 1) 0) (u.getD n 0) (vl b (u.take n)) (b ^ n) := by
  have hb0 : 0 < b := by omega
  have hp := pow_pos' hb0 n
  have l1 := vl_lt hb0 (hv.take n)
  have l2 := vl_lt hb0 (hu.take n)
  rw [List.length_take, Nat.min_eq_left (by omega)] at l1 l2
  exact ⟨hb, hp, ⟨h1, (hv.get hb0 _).2⟩, hv.get hb0 _, ⟨vl_nn hb0 (hv.take n), l1⟩, hu.get hb0 _, hu.get hb0 _, hu.get hb0 _, ⟨vl_nn hb0 (hu.take n), l2⟩⟩
theorem vAll_of {b : Int} {v : List Int} {n : Nat} (lv : v.length = n + 2) : vAll b (v.getD (n + 1) 0) (v.getD n 0) (vl b (v.take n)) (b ^ n) = vl b v := by
  have h1 := vl_take (b := b) (l := v) (k := n + 1) (by omega)
  have h2 := vl_take (b := b) (l := v) (k := n) (by omega)
  rw [List.take_of_length_le (by omega)] at h1
  rw [h1, h2]
  unfold vAll
  rw [Int.add_mul, Int.pow_succ, Int.mul_comm (v.getD (n + 1) 0) b, Int.mul_assoc, Int.mul_comm (v.getD (n + 1) 0), Int.mul_comm (v.getD n 0), ← Int.mul_assoc, Int.mul_comm b]
  omega
theorem uAll_of {b : Int} {u : List Int} {n : Nat} (lu : u.length = n + 3) : uAll b (u.getD (n + 2) 0) (u.getD (n + 1) 0) (u.getD n 0) (vl b (u.take n)) (b ^ n) = vl b u := by
  have h0 := vl_take (b := b) (l := u) (k := n + 2) (by omega)
  have h1 := vl_take (b := b) (l := u) (k := n + 1) (by omega)
  have h2 := vl_take (b := b) (l := u) (k := n) (by omega)
  rw [List.take_of_length_le (by omega)] at h0
  rw [h0, h1, h2]
  unfold uAll
  simp only [Int.pow_succ]
  generalize u.getD (n + 2) 0 = x
  generalize u.getD (n + 1) 0 = y
  generalize u.getD n 0 = z
  generalize b ^ n = P
  clear h0 h1 h2 lu
  generalize vl b (u.take n) = V
  grind
theorem quot_of {U V t : Int} (hV : 0 < V) (h1 : 0 ≤ U - t * V) (h2 : U - t * V < V) : U / V = t ∧ U % V = U - t * V := by
  have h3 : U = (U - t * V) + t * V := by omega
  have hq : U / V = t := by
    rw [h3, Int.add_mul_ediv_right _ _ (by omega), Int.ediv_eq_zero_of_lt h1 h2]; omega
  refine ⟨hq, ?_⟩
  have := Int.emod_add_mul_ediv U V
  rw [hq, Int.mul_comm] at this
  omega
theorem mulsub_next {B P lo c' c t v u u' bo' bo X O W : Int} (h1 : c' * B + lo = t * v + c) (h2 : u' - B * bo' = u - lo - bo) (hi : O - P * bo = X - t * W + P * c) :
    O + P * u' - P * B * bo' = X + P * u - t * (W + P * v) + P * B * c' := by
  grind
end Go.Proofs.YtjcbbabaabcdgaaGreatDoor
/- Words: shifts and 'or' as numbers: plain facts. -/
namespace Go.Proofs.YtjcbbabaabcdgaaGreatDoor
open Go.RowKit Sv
set_option maxRecDepth 100000
def orU (a b : Int) : Int := IntKind.wrap .u64 (((BitVec.ofInt 64 a ||| BitVec.ofInt 64 b).toNat : Nat) : Int)
theorem orU_add {a b : Int} {s : Nat} (hs : s ≤ 64) (ha : 0 ≤ a ∧ a < 2 ^ s) {c : Int} (hc : 0 ≤ c) (hb : b = 2 ^ s * c) (hb2 : b < 18446744073709551616) : orU a b = a + b := by
  obtain ⟨A, rfl⟩ : ∃ A : Nat, a = (A : Int) := ⟨a.toNat, by omega⟩
  obtain ⟨C, rfl⟩ : ∃ C : Nat, c = (C : Int) := ⟨c.toNat, by omega⟩
  have hA : A < 2 ^ s := by have := ha.2; exact_mod_cast this
  have hb' : b = ((2 ^ s * C : Nat) : Int) := by rw [hb]; norm_cast
  subst hb'
  have e64 : ((2 ^ 64 : Nat) : Int) = 18446744073709551616 := rfl
  have hB : 2 ^ s * C < 2 ^ 64 := by rw [← e64] at hb2; exact Int.ofNat_lt.1 hb2
  have hA2 : A < 2 ^ 64 := Nat.lt_of_lt_of_le hA (Nat.pow_le_pow_right (by decide) hs)
  unfold orU
  rw [BitVec.toNat_or, BitVec.ofInt_natCast, BitVec.ofInt_natCast, BitVec.toNat_ofNat, BitVec.toNat_ofNat, Nat.mod_eq_of_lt hA2, Nat.mod_eq_of_lt hB]
  have e : A ||| 2 ^ s * C = A + 2 ^ s * C := by
    rw [Nat.or_comm, ← Nat.two_pow_add_eq_or_of_lt hA C, Nat.add_comm]
  have hlt : A ||| 2 ^ s * C < 2 ^ 64 := Nat.or_lt_two_pow hA2 hB
  rw [e] at hlt ⊢
  rw [wrapU ⟨Int.natCast_nonneg _, by have : (2 : Nat) ^ 64 = 18446744073709551616 := rfl; omega⟩]
  exact Int.natCast_add _ _
theorem word_split {x : Int} {s : Nat} (hs : s ≤ 64) (hx : 0 ≤ x ∧ x < 18446744073709551616) :
    x * 2 ^ s % 18446744073709551616 = 2 ^ s * (x % 2 ^ (64 - s)) ∧ x * 2 ^ s = 2 ^ s * (x % 2 ^ (64 - s)) + 18446744073709551616 * (x / 2 ^ (64 - s)) ∧ (0 ≤ x / 2 ^ (64 - s) ∧ x / 2 ^ (64 - s) < 2 ^ s) ∧ (0 ≤ x % 2 ^ (64 - s) ∧ x % 2 ^ (64 - s) < 2 ^ (64 - s)) := by
  have hp : (0 : Int) < 2 ^ (64 - s) := pow_pos' (by decide) _
  have hq : (0 : Int) < 2 ^ s := pow_pos' (by decide) _
  have h64 : (2 : Int) ^ s * 2 ^ (64 - s) = 18446744073709551616 := by rw [← Int.pow_add, show s + (64 - s) = 64 by omega]; rfl
  have hd := Int.emod_add_mul_ediv x (2 ^ (64 - s))
  have h0 := Int.emod_nonneg x (show (2 : Int) ^ (64 - s) ≠ 0 by omega)
  have h1 := Int.emod_lt_of_pos x hp
  have h2 : 0 ≤ x / 2 ^ (64 - s) := Int.ediv_nonneg hx.1 (Int.le_of_lt hp)
  have h3 : x / 2 ^ (64 - s) < 2 ^ s := Int.ediv_lt_of_lt_mul hp (by rw [h64]; exact hx.2)
  have e : x * 2 ^ s = 2 ^ s * (x % 2 ^ (64 - s)) + 18446744073709551616 * (x / 2 ^ (64 - s)) := by
    have : 2 ^ s * (x % 2 ^ (64 - s) + 2 ^ (64 - s) * (x / 2 ^ (64 - s))) = 2 ^ s * x := by rw [hd]
    rw [Int.mul_add, ← Int.mul_assoc, h64] at this
    rw [Int.mul_comm x]; omega
  refine ⟨?_, e, ⟨h2, h3⟩, h0, h1⟩
  rw [e, Int.add_mul_emod_self_left]
  refine Int.emod_eq_of_lt (Int.mul_nonneg (Int.le_of_lt hq) h0) ?_
  rw [← h64]
  exact Int.mul_lt_mul_of_pos_left h1 hq
end Go.Proofs.YtjcbbabaabcdgaaGreatDoor
/- Long division of words: a window and the rest: plain facts. -/
namespace Go.Proofs.YtjcbbabaabcdgaaGreatDoor
theorem drop_cons {l : List Int} {k : Nat} (h : k < l.length) : l.drop k = l.getD k 0 :: l.drop (k + 1) := by
  rw [dg_getD h]; exact List.drop_eq_getElem_cons h
theorem vl_drop {b : Int} {l : List Int} {k : Nat} (h : k < l.length) : vl b (l.drop k) = l.getD k 0 + b * vl b (l.drop (k + 1)) := by
  rw [drop_cons h]; rfl
theorem win_val {b : Int} (hb : 1 < b) {u : List Int} {j n : Nat} (hu : Dg b u) (hj : j + n + 1 ≤ u.length) {V : Int} (hV : V ≤ b ^ n) (h : vl b (u.drop (j + 1)) < V) :
    vl b (u.drop j) = vl b ((u.drop j).take (n + 1)) ∧ vl b (u.drop j) < b * V ∧ vl b (u.drop (j + n + 1)) = 0 := by
  have hb0 : 0 < b := by omega
  have h1 := vl_drop (b := b) (l := u) (k := j) (by omega)
  have h2 := hu.get hb0 j
  have h3 : vl b (u.drop j) < b * V := by
    have : b * vl b (u.drop (j + 1)) ≤ b * (V - 1) := Int.mul_le_mul_of_nonneg_left (by omega) (Int.le_of_lt hb0)
    rw [Int.mul_sub, Int.mul_one] at this
    omega
  have h4 : vl b (u.drop j) < b ^ (n + 1) := by
    have : b * V ≤ b * b ^ n := Int.mul_le_mul_of_nonneg_left hV (Int.le_of_lt hb0)
    rw [Int.pow_succ, Int.mul_comm]; omega
  have h5 := vl_low hb0 (hu.drop j) h4
  refine ⟨h5.symm, h3, ?_⟩
  have h6 := vl_split b (u.drop j) (n + 1) (by rw [List.length_drop]; omega)
  rw [h5, List.drop_drop] at h6
  have h7 : b ^ (n + 1) * vl b (u.drop (j + (n + 1))) = 0 := by omega
  rcases Int.mul_eq_zero.1 h7 with h8 | h8
  · have := pow_pos' hb0 (n + 1); omega
  · exact h8
theorem win_next {b : Int} (hb : 1 < b) {u : List Int} {j n : Nat} (hu : Dg b u) (hj : j + n + 1 ≤ u.length) {V : Int} (hV0 : 0 < V) (hV : V ≤ b ^ n) (h : vl b (u.drop (j + 1)) < V) {u' : List Int}
    (hu' : u' = u.take j ++ (padD b (n + 1) (vl b ((u.drop j).take (n + 1)) % V) ++ u.drop (j + (n + 1)))) :
    u'.length = u.length ∧ Dg b u' ∧ vl b u' + b ^ j * (vl b ((u.drop j).take (n + 1)) / V) * V = vl b u ∧ vl b (u'.drop j) < V := by
  have hb0 : 0 < b := by omega
  obtain ⟨h1, h2, h3⟩ := win_val hb hu hj hV h
  generalize hW : vl b ((u.drop j).take (n + 1)) = W at *
  have hm0 := Int.emod_nonneg W (show V ≠ 0 by omega)
  have hm1 := Int.emod_lt_of_pos W hV0
  have hm2 : W % V < b ^ (n + 1) := by
    have := pow_le_pow' (show 1 ≤ b by omega) (show n ≤ n + 1 by omega)
    omega
  have hpv := pad_vl hb0 (n + 1) (W % V) hm0 hm2
  have htl : (u.take j).length = j := by rw [List.length_take]; omega
  have hdj : u'.drop j = padD b (n + 1) (W % V) ++ u.drop (j + (n + 1)) := by
    rw [hu', List.drop_append, htl, Nat.sub_self, List.drop_zero, List.drop_eq_nil_of_le (by omega), List.nil_append]
  have htj : u'.take j = u.take j := by
    rw [hu', List.take_append, htl, Nat.sub_self, List.take_zero, List.append_nil, List.take_of_length_le (by omega)]
  have hvd : vl b (u'.drop j) = W % V := by rw [hdj, vl_app, hpv, ← Nat.add_assoc, h3, Int.mul_zero, Int.add_zero]
  have hlen : u'.length = u.length := by
    rw [hu', List.length_append, List.length_append, htl, pad_len, List.length_drop]; omega
  refine ⟨hlen, ?_, ?_, by rw [hvd]; exact hm1⟩
  · rw [hu']
    exact (hu.take j).app ((pad_dg hb0 _ _).app (hu.drop _))
  · rw [vl_split b u' j (by omega), vl_split b u j (by omega), htj, hvd, h1]
    have e := Int.emod_add_mul_ediv W V
    have e2 : b ^ j * (W % V + V * (W / V)) = b ^ j * W := by rw [e]
    rw [Int.mul_add] at e2
    have e3 : b ^ j * (W / V) * V = b ^ j * (V * (W / V)) := by rw [Int.mul_assoc, Int.mul_comm (W / V)]
    omega
theorem div_end {A b V S U q : Int} (hS : 0 < S) (hb : 0 < b) (hV : V = b * S) (h : U + V * q = A * S) (h0 : 0 ≤ U) (h1 : U < V) : A / b = q ∧ U = S * (A % b) := by
  have e : U = S * (A - b * q) := by
    rw [Int.mul_sub, Int.mul_comm S A]
    have : S * (b * q) = V * q := by rw [hV, ← Int.mul_assoc, Int.mul_comm S b]
    omega
  have g0 : 0 ≤ A - q * b := by
    rw [Int.mul_comm q b]
    refine Int.not_lt.1 fun hn => ?_
    have := Int.mul_lt_mul_of_pos_left hn hS
    omega
  have g1 : A - q * b < b := by
    rw [Int.mul_comm q b]
    refine Int.not_le.1 fun hn => ?_
    have := Int.mul_le_mul_of_nonneg_left hn (Int.le_of_lt hS)
    rw [← e, Int.mul_comm S b, ← hV] at this
    omega
  obtain ⟨k1, k2⟩ := quot_of hb g0 g1
  exact ⟨k1, by rw [e, k2, Int.mul_comm b q]⟩
end Go.Proofs.YtjcbbabaabcdgaaGreatDoor
