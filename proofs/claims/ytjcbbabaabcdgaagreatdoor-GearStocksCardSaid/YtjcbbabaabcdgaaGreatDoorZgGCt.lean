/- A map of integers to integers as a function; package gear: take, counted. -/
import Derived.Test.YtjcbbabaabcdgaaGreatDoorProg
import Derived.Test.YtjcbbabaabcdgaaGreatDoorZgGTr3
import Derived.WalkKit
import Derived.WalkLawsBesides
import Derived.WalkSpells
import Derived.Lib.Hide
import Derived.IntWalk
import Derived.Maps.OwnSet
import Derived.Maps.Views
import Derived.Maps.OwnOps
import Derived.Test.YtjcbbabaabcdgaaGreatDoorZgVBas
import Derived.Test.YtjcbbabaabcdgaaGreatDoorZgVNc
namespace Go.Proofs.YtjcbbabaabcdgaaGreatDoor
open Go.RowKit
def J64 (x : Int) : Prop := -9223372036854775808 ≤ x ∧ x ≤ 9223372036854775807
theorem J64.wf {x : Int} (h : J64 x) : (Lit.int .i64 x).wf = true := by
  unfold J64 at h
  simp [Lit.wf, IntKind.min, IntKind.max, IntKind.signed, IntKind.bits]
  omega
def IntMap (w : World) (b n : Nat) (f : Int → Int) : Prop :=
  ∃ D : DataW Unit, w.ownsMap Tryz.prog 3 (plainElem Tryz.prog 3) b n D ∧ Maps.IsMap D ∧ ∀ x : Int, D.atKey (.int .i64 x) (.lit (.int .i64 0)) = .lit (.int .i64 (f x))
theorem IntMap.kept {w w' : World} {b n : Nat} {f : Int → Int} {row : Option Nat} (h : IntMap w b n f) (hg : w.grownBy w' row) (hne : some b ≠ row) : IntMap w' b n f := by
  obtain ⟨D, h1, h2, h3⟩ := h
  exact ⟨D, h1.kept hg hne, h2, h3⟩
theorem IntMap.lt {w : World} {b n : Nat} {f : Int → Int} (h : IntMap w b n f) : b < w.heap.size := by
  obtain ⟨D, h1, _⟩ := h
  exact h1.lt
theorem IntMap.made (w : World) : IntMap (w.alloc (.map #[] 0)) w.heap.size 0 (fun _ => 0) :=
  ⟨.map [], World.ownsMap_made _ _ _ _, Maps.isMap_empty, fun x => by simp [DataW.atKey]⟩
theorem IntMap.look {w : World} {b n : Nat} {f : Int → Int} (h : IntMap w b n f) (k : Int) (hk : J64 k) :
    (Instr.lookup 120 (.map (some b)) (.int .i64 k) false).run Tryz.prog w = .ok (.int .i64 (f k)) w := by
  obtain ⟨D, h1, _, h3⟩ := h
  obtain ⟨c, hrun, hat, _⟩ := h1.lookup_int (Maps.int_keyed Tryz.underlying3) Tryz.underlying120 Tryz.underlying3 (Tryz.zeroValue3 w) (Maps.keyOf_int_mk Tryz.underlying3 hk.wf)
  rw [h3 k] at hat
  simp only [DataW.lit.injEq, Lit.int.injEq, true_and] at hat
  rw [hrun, hat]
def upd1 (f : Int → Int) (k v : Int) : Int → Int := fun y => if y = k then v else f y
theorem wpList_put_map {w : World} {ops : Array Oper} {rest : List Oper} {o : Oper} {a : Act} {Q : Exit → Act → World → Prop}
    (hg : o.guard = none) (m x v : Operand) (hop : o.op = Op.mapUpdate 120 m x v) (b n : Nat) (f : Int → Int)
    (hm : a.eval m = .map (some b)) (hs : IntMap w b n f) (k u : Int) (hx : a.eval x = .int .i64 k) (hk : J64 k) (hv : a.eval v = .int .i64 u) (hu : J64 u) (hl : n ≤ 1000000)
    (hK : ∀ w', IntMap w' b (n + 1) (upd1 f k u) → w.grownBy w' (some b) → wpList Tryz.prog ops Q rest (a.put o.dst undef) w') :
    wpList Tryz.prog ops Q (o :: rest) a w := by
  obtain ⟨D, h1, h2, h3⟩ := hs
  refine wpList_mapUpdate_own w hg m x v 120 hop 3 3 (Maps.int_keyed Tryz.underlying3) Tryz.underlying120 _ b n D hm h1 (by unfold maxLen; omega) _ _ (.int .i64 k) hx hv (Maps.keyOf_int_mk Tryz.underlying3 hk.wf) _ [] (plainElem_int Tryz.underlying3 hu.wf) ?_
  intro w' h4 h5
  refine hK w' ⟨_, h4, h2.put _ _, fun y => ?_⟩ h5
  unfold upd1
  by_cases hy : y = k
  · subst hy
    rw [Maps.atKey_put_same h2 (by trivial), if_pos rfl]
  · rw [Maps.atKey_put_other (fun e => hy (by injection e)), h3 y, if_neg hy]
set_option maxRecDepth 100000 in
theorem wpList_del_map {w : World} {ops : Array Oper} {rest : List Oper} {o : Oper} {a : Act} {Q : Exit → Act → World → Prop}
    (hg : o.guard = none) (m x : Operand) (hop : o.op = Op.call { callee := Callee.builtin Builtin.delete, args := #[m, x], argTypes := #[120, 3] }) (b n : Nat) (f : Int → Int)
    (hm : a.eval m = .map (some b)) (hs : IntMap w b n f) (k : Int) (hx : a.eval x = .int .i64 k) (hk : J64 k)
    (hK : ∀ w', IntMap w' b n (upd1 f k 0) → w.grownBy w' (some b) → wpList Tryz.prog ops Q rest (a.put o.dst (.tuple #[])) w') :
    wpList Tryz.prog ops Q (o :: rest) a w := by
  obtain ⟨D, h1, h2, h3⟩ := hs
  refine wpList_delete_own w hg m x 120 3 hop 3 (Maps.int_keyed Tryz.underlying3) Tryz.underlying120 _ b n D hm h1 _ (.int .i64 k) hx (Maps.keyOf_int_mk Tryz.underlying3 hk.wf) ?_
  intro w' h4 h5
  refine hK w' ⟨_, h4, h2.del _, fun y => ?_⟩ h5.grown
  unfold upd1
  by_cases hy : y = k
  · subst hy
    rw [Maps.atKey_del_same, if_pos rfl]
  · rw [Maps.atKey_del_other (fun e => hy (by injection e)), h3 y, if_neg hy]
set_option maxRecDepth 100000 in
set_option maxHeartbeats 4000000 in
theorem take_any (b n : Nat) (f : Int → Int) (k : Int) (w : World) (h : IntMap w b n f) (hk : J64 k) (hf : 0 ≤ f k ∧ f k ≤ 1000000000) (hn : n ≤ 100000) :
    Calls Tryz.prog 89 #[.map (some b), .int .i64 k] w fun e w' => e = .returned (.bool (decide (f k ≠ 0))) ∧ (∃ n', n' ≤ n + 1 ∧ IntMap w' b n' (if f k = 0 then f else upd1 f k (f k - 1))) ∧ w.grownBy w' (some b) := by
  have hl := h.look k hk
  have H := Lib.hid h
  by_cases h0 : f k = 0
  · rw [h0] at hl ⊢
    clear h
    go_enter Tryz.func89, Tryz.ntmps89
    go_wp2_with fail
    go_ret
    exact ⟨rfl, ⟨n, by omega, H.out⟩, ⟨rfl, rfl, rfl, Nat.le_refl _, fun _ _ _ => rfl⟩⟩
  · have hb0 : (f k == 0) = false := by rw [beq_eq_false_iff_ne]; exact h0
    clear h
    have hw1 : IntKind.i64.wrap (f k - 1) = f k - 1 := IntWalk.i64_in _ (by omega)
    by_cases h1b : f k - 1 = 0
    · have hb1 : (f k - 1 == 0) = true := by rw [beq_iff_eq]; exact h1b
      go_enter Tryz.func89, Tryz.ntmps89
      go_wp2_with (first | (at_mapUpdate; refine wpList_put_map rfl _ _ _ rfl b n f rfl H.out k 0 rfl hk rfl ⟨by omega, by omega⟩ (by omega) ?_; intro w1 h1 hg1; have hl1 := h1.look k hk; rw [show upd1 f k 0 k = 0 by unfold upd1; rw [if_pos rfl]] at hl1; have H1 := Lib.hid h1; clear h1) | (at_delete; refine wpList_del_map rfl _ _ rfl b (n + 1) (upd1 f k 0) rfl H1.out k rfl hk ?_; intro w2 h2 hg2))
      go_ret
      refine ⟨rfl, ⟨n + 1, by omega, ?_⟩, hg1.trans hg2⟩
      have e : upd1 (upd1 f k 0) k 0 = upd1 f k 0 := by
        funext y
        by_cases hy : y = k <;> simp [upd1, hy]
      exact e ▸ h2
    · have hb1 : (f k - 1 == 0) = false := by rw [beq_eq_false_iff_ne]; exact h1b
      go_enter Tryz.func89, Tryz.ntmps89
      go_wp2_with (at_mapUpdate; refine wpList_put_map rfl _ _ _ rfl b n f rfl H.out k (f k - 1) rfl hk rfl ⟨by omega, by omega⟩ (by omega) ?_; intro w1 h1 hg1; have hl1 := h1.look k hk; rw [show upd1 f k (f k - 1) k = f k - 1 by unfold upd1; rw [if_pos rfl]] at hl1)
      go_ret
      exact ⟨rfl, ⟨n + 1, by omega, h1⟩, hg1⟩
end Go.Proofs.YtjcbbabaabcdgaaGreatDoor
/- The stock and the train: errors. -/
namespace Go.Proofs.YtjcbbabaabcdgaaGreatDoor
open Go.RowKit Sv
set_option maxRecDepth 100000
set_option linter.unusedVariables false
set_option linter.unusedSimpArgs false
noncomputable section
abbrev tP2 : Ty := .pair (.int .i64) (.int .i64)
abbrev pl (l : List (Int × Int)) : AV := .lst false tP2 l
abbrev g0 (s : List (Int × Int)) (k : Nat) : Int × Int := s.getD k (0, 0)
noncomputable def BRs : Code := (Tryz.f32.body).getD .skip
noncomputable def BGs : Code := (Tryz.f33.body).getD .skip
noncomputable def BRt : Code := (Tryz.f10.body).getD .skip
noncomputable def BGt : Code := (Tryz.f44.body).getD .skip
def wOut (p : Int × Int) : Bool := decide (p.1 < 6) || (decide (p.1 > 400) || (decide (p.2 < 1) || decide (p.2 > 999999999)))
def stkAt (s : List (Int × Int)) (k : Nat) : Int := if wOut (g0 s k) = true then 3 else if 0 < k ∧ (g0 s k).1 ≤ (g0 s (k - 1)).1 then 11 else 0
def stkFrom (s : List (Int × Int)) : Nat → Nat → Int
  | 0, _ => 0
  | n + 1, k => if stkAt s k ≠ 0 then stkAt s k else stkFrom s n (k + 1)
def stkErr (s : List (Int × Int)) : Int := if s.length = 0 then 12 else if 32 < s.length then 5 else stkFrom s s.length 0
def pOut (p : Int × Int) : Bool := decide (p.1 < 1) || (decide (p.1 > 400) || (decide (p.2 < 1) || decide (p.2 > 400)))
def trnFrom (s : List (Int × Int)) : Nat → Nat → Int
  | 0, _ => 0
  | n + 1, k => if pOut (g0 s k) = true then 3 else trnFrom s n (k + 1)
def trnErr (s : List (Int × Int)) : Int := if 4 < s.length then 5 else trnFrom s s.length 0
def Srs (s : List (Int × Int)) (k : Nat) : St := { n := 62, sl := [(0, pl s), (3, iv k)], en := [], next := 64 }
theorem rs_e12 (s : List (Int × Int)) (h1 : (↑s.length : Int) = 0) :
    Tst.path (vrun0 Tryz.prog (ctrs []) (fl BRs []) 3 62 [pl s]) [true] (toRet Tryz.prog Tryz.f32 true (iv 12)) :=
  mp (an (beq_iff_eq.mpr h1) (rr ((12 : Int))))
theorem rs_e5 (s : List (Int × Int)) (h1 : ¬(↑s.length : Int) = 0) (h2 : (↑s.length : Int) > 32) :
    Tst.path (vrun0 Tryz.prog (ctrs []) (fl BRs []) 5 62 [pl s]) [false, true] (toRet Tryz.prog Tryz.f32 true (iv 5)) :=
  mp (an (beq_eq_false_iff_ne.mpr h1) (an (decide_eq_true h2) (rr ((5 : Int)))))
theorem rs_start (s : List (Int × Int)) (h1 : ¬(↑s.length : Int) = 0) (h2 : ¬(↑s.length : Int) > 32) :
    Tst.path (vrun0 Tryz.prog (ctrs []) (fl BRs []) 6 62 [pl s]) [false, false] (toSt Tryz.prog 62 .normal [] (Srs s 0)) :=
  mp (an (beq_eq_false_iff_ne.mpr h1) (an (decide_eq_false h2) (an (rr s) (an (rr ((0 : Int))) trivial))))
theorem rs_h1 (s : List (Int × Int)) (k : Nat) (h1 : (↑k : Int) < (↑s.length : Int)) (h2 : k < s.length) (h3 : (List.getD s k ((0 : Int), (0 : Int))).1 < 6) :
    Tst.path (vall Tryz.prog (ctrs []) (fl BRs [1,1,1,0,1,0,0]) (Srs s k)) [true, false, false, false, false, false, false, true, false, false, false, false, false, false, true, false, false, false, false, false, false, true, true] (toRet Tryz.prog Tryz.f32 true (iv 3)) :=
  mp (an (decide_eq_true h1) (an (show (decide ((0 : Int) ≤ (↑k : Int))) = true from decide_eq_true (by omega)) (an (decide_eq_true h2) (an (bF (decide_eq_true h3)) (an (bF (decide_eq_true h3)) (an (bF (decide_eq_true h3)) (an (bF (decide_eq_true h3)) (an (bF (decide_eq_true h3)) (an (bF (decide_eq_true h3)) (an (decide_eq_true h3) (an rf (an rf (an rf (an rf (an rf (an rf (an rt (an rf (an rf (an rf (an rf (an rf (an rf (an rt (an rt (rr ((3 : Int))))))))))))))))))))))))))))
theorem rs_h2 (s : List (Int × Int)) (k : Nat) (h1 : (↑k : Int) < (↑s.length : Int)) (h2 : k < s.length) (h3 : ¬(List.getD s k ((0 : Int), (0 : Int))).1 < 6) (h4 : (List.getD s k ((0 : Int), (0 : Int))).1 > 400) :
    Tst.path (vall Tryz.prog (ctrs []) (fl BRs [1,1,1,0,1,0,0]) (Srs s k)) [true, true, true, true, true, true, true, false, false, false, false, false, false, false, true, false, false, false, false, false, false, true, true] (toRet Tryz.prog Tryz.f32 true (iv 3)) :=
  mp (an (decide_eq_true h1) (an (show (decide ((0 : Int) ≤ (↑k : Int))) = true from decide_eq_true (by omega)) (an (decide_eq_true h2) (an (bF (decide_eq_false h3)) (an (bF (decide_eq_false h3)) (an (bF (decide_eq_false h3)) (an (show (decide ((0 : Int) ≤ (↑k : Int))) = true from decide_eq_true (by omega)) (an (decide_eq_true h2) (an (bF (decide_eq_false h3)) (an (bF (decide_eq_false h3)) (an (bF (decide_eq_false h3)) (an (decide_eq_false h3) (an (bF (decide_eq_true h4)) (an (bF (decide_eq_true h4)) (an (bF (decide_eq_true h4)) (an (bF (decide_eq_true h4)) (an (bF (decide_eq_true h4)) (an (bF (decide_eq_true h4)) (an (decide_eq_true h4) (an rf (an rf (an rf (an rf (an rf (an rf (an rt (an rt (rr ((3 : Int))))))))))))))))))))))))))))))
theorem rs_h3 (s : List (Int × Int)) (k : Nat) (h1 : (↑k : Int) < (↑s.length : Int)) (h2 : k < s.length) (h3 : ¬(List.getD s k ((0 : Int), (0 : Int))).1 < 6) (h4 : ¬(List.getD s k ((0 : Int), (0 : Int))).1 > 400) (h5 : (List.getD s k ((0 : Int), (0 : Int))).2 < 1) :
    Tst.path (vall Tryz.prog (ctrs []) (fl BRs [1,1,1,0,1,0,0]) (Srs s k)) [true, true, true, true, true, true, true, false, true, true, true, true, true, true, false, false, false, false, false, false, false, true, true] (toRet Tryz.prog Tryz.f32 true (iv 3)) :=
  mp (an (decide_eq_true h1) (an (show (decide ((0 : Int) ≤ (↑k : Int))) = true from decide_eq_true (by omega)) (an (decide_eq_true h2) (an (bF (decide_eq_false h3)) (an (bF (decide_eq_false h3)) (an (bF (decide_eq_false h3)) (an (show (decide ((0 : Int) ≤ (↑k : Int))) = true from decide_eq_true (by omega)) (an (decide_eq_true h2) (an (bF (decide_eq_false h3)) (an (bF (decide_eq_false h3)) (an (bF (decide_eq_false h3)) (an (decide_eq_false h3) (an (bF (decide_eq_false h4)) (an (bF (decide_eq_false h4)) (an (bF (decide_eq_false h4)) (an (show (decide ((0 : Int) ≤ (↑k : Int))) = true from decide_eq_true (by omega)) (an (decide_eq_true h2) (an (bF (decide_eq_false h4)) (an (bF (decide_eq_false h4)) (an (bF (decide_eq_false h4)) (an (decide_eq_false h4) (an (bF (decide_eq_true h5)) (an (bF (decide_eq_true h5)) (an (bF (decide_eq_true h5)) (an (bF (decide_eq_true h5)) (an (bF (decide_eq_true h5)) (an (bF (decide_eq_true h5)) (an (decide_eq_true h5) (an rt (rr ((3 : Int))))))))))))))))))))))))))))))))
theorem rs_h4 (s : List (Int × Int)) (k : Nat) (h1 : (↑k : Int) < (↑s.length : Int)) (h2 : k < s.length) (h3 : ¬(List.getD s k ((0 : Int), (0 : Int))).1 < 6) (h4 : ¬(List.getD s k ((0 : Int), (0 : Int))).1 > 400) (h5 : ¬(List.getD s k ((0 : Int), (0 : Int))).2 < 1) (h6 : (List.getD s k ((0 : Int), (0 : Int))).2 > 999999999) :
    Tst.path (vall Tryz.prog (ctrs []) (fl BRs [1,1,1,0,1,0,0]) (Srs s k)) [true, true, true, true, true, true, true, false, true, true, true, true, true, true, false, true, true, true, true, true, true, false, true] (toRet Tryz.prog Tryz.f32 true (iv 3)) :=
  mp (an (decide_eq_true h1) (an (show (decide ((0 : Int) ≤ (↑k : Int))) = true from decide_eq_true (by omega)) (an (decide_eq_true h2) (an (bF (decide_eq_false h3)) (an (bF (decide_eq_false h3)) (an (bF (decide_eq_false h3)) (an (show (decide ((0 : Int) ≤ (↑k : Int))) = true from decide_eq_true (by omega)) (an (decide_eq_true h2) (an (bF (decide_eq_false h3)) (an (bF (decide_eq_false h3)) (an (bF (decide_eq_false h3)) (an (decide_eq_false h3) (an (bF (decide_eq_false h4)) (an (bF (decide_eq_false h4)) (an (bF (decide_eq_false h4)) (an (show (decide ((0 : Int) ≤ (↑k : Int))) = true from decide_eq_true (by omega)) (an (decide_eq_true h2) (an (bF (decide_eq_false h4)) (an (bF (decide_eq_false h4)) (an (bF (decide_eq_false h4)) (an (decide_eq_false h4) (an (bF (decide_eq_false h5)) (an (bF (decide_eq_false h5)) (an (bF (decide_eq_false h5)) (an (show (decide ((0 : Int) ≤ (↑k : Int))) = true from decide_eq_true (by omega)) (an (decide_eq_true h2) (an (bF (decide_eq_false h5)) (an (bF (decide_eq_false h5)) (an (bF (decide_eq_false h5)) (an (decide_eq_false h5) (an (decide_eq_true h6) (rr ((3 : Int))))))))))))))))))))))))))))))))))
theorem rs_o (s : List (Int × Int)) (k : Nat) (h1 : (↑k : Int) < (↑s.length : Int)) (h2 : k < s.length) (h3 : ¬(List.getD s k ((0 : Int), (0 : Int))).1 < 6) (h4 : ¬(List.getD s k ((0 : Int), (0 : Int))).1 > 400) (h5 : ¬(List.getD s k ((0 : Int), (0 : Int))).2 < 1) (h6 : ¬(List.getD s k ((0 : Int), (0 : Int))).2 > 999999999) (h7 : (↑k : Int) > 0) (h8 : -9223372036854775808 ≤ (↑k : Int) - 1 ∧ (↑k : Int) - 1 ≤ 9223372036854775807) (h9 : (0 : Int) ≤ (↑k : Int) - 1) (h10 : Int.toNat ((↑k : Int) - 1) < s.length) (h11 : (List.getD s k ((0 : Int), (0 : Int))).1 ≤ (List.getD s (Int.toNat ((↑k : Int) - 1)) ((0 : Int), (0 : Int))).1) :
    Tst.path (vall Tryz.prog (ctrs []) (fl BRs [1,1,1,0,1,0,0]) (Srs s k)) [true, true, true, true, true, true, true, false, true, true, true, true, true, true, false, true, true, true, true, true, true, false, false, true, true, true, true, true, true, true, true, true, true, true, true, true, true] (toRet Tryz.prog Tryz.f32 true (iv 11)) :=
  mp (an (decide_eq_true h1) (an (show (decide ((0 : Int) ≤ (↑k : Int))) = true from decide_eq_true (by omega)) (an (decide_eq_true h2) (an (bF (decide_eq_false h3)) (an (bF (decide_eq_false h3)) (an (bF (decide_eq_false h3)) (an (show (decide ((0 : Int) ≤ (↑k : Int))) = true from decide_eq_true (by omega)) (an (decide_eq_true h2) (an (bF (decide_eq_false h3)) (an (bF (decide_eq_false h3)) (an (bF (decide_eq_false h3)) (an (decide_eq_false h3) (an (bF (decide_eq_false h4)) (an (bF (decide_eq_false h4)) (an (bF (decide_eq_false h4)) (an (show (decide ((0 : Int) ≤ (↑k : Int))) = true from decide_eq_true (by omega)) (an (decide_eq_true h2) (an (bF (decide_eq_false h4)) (an (bF (decide_eq_false h4)) (an (bF (decide_eq_false h4)) (an (decide_eq_false h4) (an (bF (decide_eq_false h5)) (an (bF (decide_eq_false h5)) (an (bF (decide_eq_false h5)) (an (show (decide ((0 : Int) ≤ (↑k : Int))) = true from decide_eq_true (by omega)) (an (decide_eq_true h2) (an (bF (decide_eq_false h5)) (an (bF (decide_eq_false h5)) (an (bF (decide_eq_false h5)) (an (decide_eq_false h5) (an (decide_eq_false h6) (an (bT (decide_eq_true h7)) (an (bT (decide_eq_true h7)) (an (bT (decide_eq_true h7)) (an (show (decide ((0 : Int) ≤ (↑k : Int))) = true from decide_eq_true (by omega)) (an (decide_eq_true h2) (an (bT (decide_eq_true h7)) (an (bT (decide_eq_true h7)) (an (sr (iv (List.getD s k ((0 : Int), (0 : Int))).1)) (an (bT (decide_eq_true h7)) (an (bT (decide_eq_true h7)) (an (bT (decide_eq_true h7)) (an (fits_i64 h8) (an (bT (decide_eq_true h7)) (an (decide_eq_true h9) (an (decide_eq_true h10) (an (bT (decide_eq_true h7)) (an (bT (decide_eq_true h7)) (an (sr (iv (List.getD s (Int.toNat ((↑k : Int) - 1)) ((0 : Int), (0 : Int))).1)) (an (bT (decide_eq_true h7)) (an (decide_eq_true h7) (an (decide_eq_true h11) (rr ((11 : Int)))))))))))))))))))))))))))))))))))))))))))))))))))))))
theorem rs_n (s : List (Int × Int)) (k : Nat) (h1 : (↑k : Int) < (↑s.length : Int)) (h2 : k < s.length) (h3 : ¬(List.getD s k ((0 : Int), (0 : Int))).1 < 6) (h4 : ¬(List.getD s k ((0 : Int), (0 : Int))).1 > 400) (h5 : ¬(List.getD s k ((0 : Int), (0 : Int))).2 < 1) (h6 : ¬(List.getD s k ((0 : Int), (0 : Int))).2 > 999999999) (h7 : (↑k : Int) > 0) (h8 : -9223372036854775808 ≤ (↑k : Int) - 1 ∧ (↑k : Int) - 1 ≤ 9223372036854775807) (h9 : (0 : Int) ≤ (↑k : Int) - 1) (h10 : Int.toNat ((↑k : Int) - 1) < s.length) (h11 : ¬(List.getD s k ((0 : Int), (0 : Int))).1 ≤ (List.getD s (Int.toNat ((↑k : Int) - 1)) ((0 : Int), (0 : Int))).1) (h12 : -9223372036854775808 ≤ (↑k : Int) + 1 ∧ (↑k : Int) + 1 ≤ 9223372036854775807) :
    Tst.path (vall Tryz.prog (ctrs []) (fl BRs [1,1,1,0,1,0,0]) (Srs s k)) [true, true, true, true, true, true, true, false, true, true, true, true, true, true, false, true, true, true, true, true, true, false, false, true, true, true, true, true, true, true, true, true, true, true, true, true, false] (toSt Tryz.prog 62 .normal [] (Srs s (k + 1))) :=
  mp (an (decide_eq_true h1) (an (show (decide ((0 : Int) ≤ (↑k : Int))) = true from decide_eq_true (by omega)) (an (decide_eq_true h2) (an (bF (decide_eq_false h3)) (an (bF (decide_eq_false h3)) (an (bF (decide_eq_false h3)) (an (show (decide ((0 : Int) ≤ (↑k : Int))) = true from decide_eq_true (by omega)) (an (decide_eq_true h2) (an (bF (decide_eq_false h3)) (an (bF (decide_eq_false h3)) (an (bF (decide_eq_false h3)) (an (decide_eq_false h3) (an (bF (decide_eq_false h4)) (an (bF (decide_eq_false h4)) (an (bF (decide_eq_false h4)) (an (show (decide ((0 : Int) ≤ (↑k : Int))) = true from decide_eq_true (by omega)) (an (decide_eq_true h2) (an (bF (decide_eq_false h4)) (an (bF (decide_eq_false h4)) (an (bF (decide_eq_false h4)) (an (decide_eq_false h4) (an (bF (decide_eq_false h5)) (an (bF (decide_eq_false h5)) (an (bF (decide_eq_false h5)) (an (show (decide ((0 : Int) ≤ (↑k : Int))) = true from decide_eq_true (by omega)) (an (decide_eq_true h2) (an (bF (decide_eq_false h5)) (an (bF (decide_eq_false h5)) (an (bF (decide_eq_false h5)) (an (decide_eq_false h5) (an (decide_eq_false h6) (an (bT (decide_eq_true h7)) (an (bT (decide_eq_true h7)) (an (bT (decide_eq_true h7)) (an (show (decide ((0 : Int) ≤ (↑k : Int))) = true from decide_eq_true (by omega)) (an (decide_eq_true h2) (an (bT (decide_eq_true h7)) (an (bT (decide_eq_true h7)) (an (sr (iv (List.getD s k ((0 : Int), (0 : Int))).1)) (an (bT (decide_eq_true h7)) (an (bT (decide_eq_true h7)) (an (bT (decide_eq_true h7)) (an (fits_i64 h8) (an (bT (decide_eq_true h7)) (an (decide_eq_true h9) (an (decide_eq_true h10) (an (bT (decide_eq_true h7)) (an (bT (decide_eq_true h7)) (an (sr (iv (List.getD s (Int.toNat ((↑k : Int) - 1)) ((0 : Int), (0 : Int))).1)) (an (bT (decide_eq_true h7)) (an (decide_eq_true h7) (an (decide_eq_false h11) (an (fits_i64 h12) (an (rr s) (an (show ((↑k : Int) + 1) = ((↑(k + (1 : Nat)) : Int)) from (by omega)) trivial)))))))))))))))))))))))))))))))))))))))))))))))))))))))
theorem rs_z (s : List (Int × Int)) (k : Nat) (h1 : (↑k : Int) < (↑s.length : Int)) (h2 : k < s.length) (h3 : ¬(List.getD s k ((0 : Int), (0 : Int))).1 < 6) (h4 : ¬(List.getD s k ((0 : Int), (0 : Int))).1 > 400) (h5 : ¬(List.getD s k ((0 : Int), (0 : Int))).2 < 1) (h6 : ¬(List.getD s k ((0 : Int), (0 : Int))).2 > 999999999) (h7 : ¬(↑k : Int) > 0) (h8 : -9223372036854775808 ≤ (↑k : Int) + 1 ∧ (↑k : Int) + 1 ≤ 9223372036854775807) :
    Tst.path (vall Tryz.prog (ctrs []) (fl BRs [1,1,1,0,1,0,0]) (Srs s k)) [true, true, true, true, true, true, true, false, true, true, true, true, true, true, false, true, true, true, true, true, true, false, false, false, false, false, false, false, false, false, false, false, false, false, false, false, false] (toSt Tryz.prog 62 .normal [] (Srs s (k + 1))) :=
  mp (an (decide_eq_true h1) (an (show (decide ((0 : Int) ≤ (↑k : Int))) = true from decide_eq_true (by omega)) (an (decide_eq_true h2) (an (bF (decide_eq_false h3)) (an (bF (decide_eq_false h3)) (an (bF (decide_eq_false h3)) (an (show (decide ((0 : Int) ≤ (↑k : Int))) = true from decide_eq_true (by omega)) (an (decide_eq_true h2) (an (bF (decide_eq_false h3)) (an (bF (decide_eq_false h3)) (an (bF (decide_eq_false h3)) (an (decide_eq_false h3) (an (bF (decide_eq_false h4)) (an (bF (decide_eq_false h4)) (an (bF (decide_eq_false h4)) (an (show (decide ((0 : Int) ≤ (↑k : Int))) = true from decide_eq_true (by omega)) (an (decide_eq_true h2) (an (bF (decide_eq_false h4)) (an (bF (decide_eq_false h4)) (an (bF (decide_eq_false h4)) (an (decide_eq_false h4) (an (bF (decide_eq_false h5)) (an (bF (decide_eq_false h5)) (an (bF (decide_eq_false h5)) (an (show (decide ((0 : Int) ≤ (↑k : Int))) = true from decide_eq_true (by omega)) (an (decide_eq_true h2) (an (bF (decide_eq_false h5)) (an (bF (decide_eq_false h5)) (an (bF (decide_eq_false h5)) (an (decide_eq_false h5) (an (decide_eq_false h6) (an (bT (decide_eq_false h7)) (an (bT (decide_eq_false h7)) (an (bT (decide_eq_false h7)) (an (bT (decide_eq_false h7)) (an (bT (decide_eq_false h7)) (an (bT (decide_eq_false h7)) (an (bT (decide_eq_false h7)) (an (bT (decide_eq_false h7)) (an (bT (decide_eq_false h7)) (an (bT (decide_eq_false h7)) (an (bT (decide_eq_false h7)) (an (bT (decide_eq_false h7)) (an (decide_eq_false h7) (an rf (an (fits_i64 h8) (an (rr s) (an (show ((↑k : Int) + 1) = ((↑(k + (1 : Nat)) : Int)) from (by omega)) trivial))))))))))))))))))))))))))))))))))))))))))))))))
theorem rs_end (s : List (Int × Int)) (k : Nat) (h1 : ¬(↑k : Int) < (↑s.length : Int)) :
    Tst.path (vall Tryz.prog (ctrs []) (fl BRs [1,1,1,0,1,0,0]) (Srs s k)) [false] (toSt Tryz.prog 62 (.exit 0) [] (Srs s k)) :=
  mp (an (decide_eq_false h1) (an (rr s) (an (rr ((↑k : Int))) trivial)))
theorem rs_fin (s : List (Int × Int)) (k : Nat)  :
    Tst.path (vall Tryz.prog (ctrs []) (List.drop 7 (fl BRs [])) (Srs s k)) [] (toRet Tryz.prog Tryz.f32 true (iv 0)) :=
  mp (rr ((0 : Int)))
theorem rs_holds (s : List (Int × Int)) : Holds Tryz.prog true 32 [pl s] (iv (stkErr s)) := by
  have hS := none_ok
  refine holds_fl (c := BRs) Tryz.func32 rfl rfl fun w F => ?_
  by_cases h0 : s.length = 0
  · have e : stkErr s = 12 := by unfold stkErr; rw [if_pos h0]
    rw [e]
    exact GoalL.ret known mixed hS 3 _ (rs_e12 s (by omega)) fun T H h => h
  · by_cases h5 : 32 < s.length
    · have e : stkErr s = 5 := by unfold stkErr; rw [if_neg h0, if_pos h5]
      rw [e]
      exact GoalL.ret known mixed hS 5 _ (rs_e5 s (by omega) (by omega)) fun T H h => h
    · obtain ⟨r, hr⟩ : ∃ r, stkFrom s s.length 0 = r := ⟨_, rfl⟩
      have e : stkErr s = r := by unfold stkErr; rw [if_neg h0, if_neg h5, hr]
      rw [e]
      refine GoalL.to known mixed hS 6 _ (rs_start s (by omega) (by omega)) (by kernel_rfl) ?_
      refine GoalL.loop (ι := { k : Nat // k ≤ s.length ∧ stkFrom s (s.length - k) k = r }) (id := 0) (b := cat BRs [1,1,1,0,1,0,0]) (rest := List.drop 7 (fl BRs [])) (by kernel_rfl) (fun k => Srs s k.1) (fun k => s.length - k.1) ⟨0, Nat.zero_le _, hr⟩ (fun _ => rfl) ?_
      rintro ⟨k, hk, hx⟩
      have hx : stkFrom s (s.length - k) k = r := hx
      by_cases hlt : k < s.length
      · obtain ⟨m, hm⟩ : ∃ m, s.length - k = m + 1 := ⟨s.length - k - 1, by omega⟩
        have hm2 : s.length - (k + 1) = m := by omega
        rw [hm, stkFrom] at hx
        have nx : stkAt s k = 0 → ∃ j : { k : Nat // k ≤ s.length ∧ stkFrom s (s.length - k) k = r }, s.length - j.1 < s.length - k ∧ (Srs s (k + 1)).T = (Srs s j.1).T ∧ (Srs s (k + 1)).H = (Srs s j.1).H := fun hz =>
          ⟨⟨k + 1, hlt, by rw [hm2, ← hx, if_neg (by rw [hz]; simp)]⟩, by simp; omega, rfl, rfl⟩
        have hit : ∀ z, stkAt s k = z → z ≠ 0 → r = z := fun z hz hn => by rw [← hx, if_pos (by rw [hz]; exact hn), hz]
        by_cases c1 : (g0 s k).1 < 6
        · have hz : stkAt s k = 3 := by unfold stkAt; rw [if_pos (show wOut (g0 s k) = true by unfold wOut; rw [decide_eq_true c1]; rfl)]
          have hr2 := hit 3 hz (by decide)
          exact GoalL.allRet (s := Srs s k) known mixed hS _ (rs_h1 s k (by omega) (by omega) c1) fun T H h => by
            have h2 : retQ Tryz.prog true Tryz.f32 (iv r) .ret T H := by rw [hr2]; exact h
            exact h2
        · by_cases c2 : (g0 s k).1 > 400
          · have hz : stkAt s k = 3 := by unfold stkAt; rw [if_pos (show wOut (g0 s k) = true by unfold wOut; rw [decide_eq_false c1, decide_eq_true c2]; rfl)]
            have hr2 := hit 3 hz (by decide)
            exact GoalL.allRet (s := Srs s k) known mixed hS _ (rs_h2 s k (by omega) (by omega) c1 c2) fun T H h => by
              have h2 : retQ Tryz.prog true Tryz.f32 (iv r) .ret T H := by rw [hr2]; exact h
              exact h2
          · by_cases c3 : (g0 s k).2 < 1
            · have hz : stkAt s k = 3 := by unfold stkAt; rw [if_pos (show wOut (g0 s k) = true by unfold wOut; rw [decide_eq_false c1, decide_eq_false c2, decide_eq_true c3]; rfl)]
              have hr2 := hit 3 hz (by decide)
              exact GoalL.allRet (s := Srs s k) known mixed hS _ (rs_h3 s k (by omega) (by omega) c1 c2 c3) fun T H h => by
                have h2 : retQ Tryz.prog true Tryz.f32 (iv r) .ret T H := by rw [hr2]; exact h
                exact h2
            · by_cases c4 : (g0 s k).2 > 999999999
              · have hz : stkAt s k = 3 := by unfold stkAt; rw [if_pos (show wOut (g0 s k) = true by unfold wOut; rw [decide_eq_false c1, decide_eq_false c2, decide_eq_false c3, decide_eq_true c4]; rfl)]
                have hr2 := hit 3 hz (by decide)
                exact GoalL.allRet (s := Srs s k) known mixed hS _ (rs_h4 s k (by omega) (by omega) c1 c2 c3 c4) fun T H h => by
                  have h2 : retQ Tryz.prog true Tryz.f32 (iv r) .ret T H := by rw [hr2]; exact h
                  exact h2
              · have hw : ¬ wOut (g0 s k) = true := by unfold wOut; rw [decide_eq_false c1, decide_eq_false c2, decide_eq_false c3, decide_eq_false c4]; decide
                by_cases c5 : 0 < k
                · have ek : Int.toNat ((k : Int) - 1) = k - 1 := by omega
                  by_cases c6 : (g0 s k).1 ≤ (g0 s (k - 1)).1
                  · have hz : stkAt s k = 11 := by unfold stkAt; rw [if_neg hw, if_pos ⟨c5, c6⟩]
                    have hr2 := hit 11 hz (by decide)
                    exact GoalL.allRet (s := Srs s k) known mixed hS _ (rs_o s k (by omega) (by omega) c1 c2 c3 c4 (by omega) (by omega) (by omega) (by omega) (by rw [ek]; exact c6)) fun T H h => by
                      have h2 : retQ Tryz.prog true Tryz.f32 (iv r) .ret T H := by rw [hr2]; exact h
                      exact h2
                  · refine GoalL.all (s := Srs s k) known mixed hS _ (rs_n s k (by omega) (by omega) c1 c2 c3 c4 (by omega) (by omega) (by omega) (by omega) (by rw [ek]; exact c6) (by omega)) (by kernel_rfl) (nx ?_)
                    unfold stkAt; rw [if_neg hw, if_neg fun h => c6 h.2]
                · refine GoalL.all (s := Srs s k) known mixed hS _ (rs_z s k (by omega) (by omega) c1 c2 c3 c4 (by omega) (by omega)) (by kernel_rfl) (nx ?_)
                  unfold stkAt; rw [if_neg hw, if_neg fun h => c5 h.1]
      · refine GoalL.all (s := Srs s k) known mixed hS _ (rs_end s k (by omega)) (by kernel_rfl) ?_
        refine onN_exit (inB_exit ?_)
        obtain rfl : k = s.length := by omega
        rw [Nat.sub_self, stkFrom] at hx
        exact GoalL.allRet (s := Srs s s.length) known mixed hS _ (rs_fin s _) fun T H h => by
          have h2 : retQ Tryz.prog true Tryz.f32 (iv r) .ret T H := by rw [← hx]; exact h
          exact h2
noncomputable def cRs : Ctr := { f := 32, ps := [.list false tP2], rs := [.int .i64], fresh := true, pre := fun d => true, fn := fun d => (stkErr d.1, ()) }
theorem cRs_ok : cRs.Ok Tryz.prog := fun ⟨s, _⟩ _ => rs_holds s
def Sgs (s : List (Int × Int)) (k : Nat) : St := { n := 54, sl := [(0, pl s), (13, pl s), (14, iv s.length), (15, iv k)], en := [], next := 64 }
theorem gs_e12 (s : List (Int × Int)) (h1 : (↑s.length : Int) = 0) :
    Tst.path (vrun0 Tryz.prog (ctrs []) (fl BGs []) 2 54 [pl s]) [true] (toRet Tryz.prog Tryz.f33 true (iv 12)) :=
  mp (an (beq_iff_eq.mpr h1) (rr ((12 : Int))))
theorem gs_e5 (s : List (Int × Int)) (h1 : ¬(↑s.length : Int) = 0) (h2 : (↑s.length : Int) > 32) :
    Tst.path (vrun0 Tryz.prog (ctrs []) (fl BGs []) 2 54 [pl s]) [false, true] (toRet Tryz.prog Tryz.f33 true (iv 5)) :=
  mp (an (beq_eq_false_iff_ne.mpr h1) (an (decide_eq_true h2) (rr ((5 : Int)))))
theorem gs_start (s : List (Int × Int)) (h1 : ¬(↑s.length : Int) = 0) (h2 : ¬(↑s.length : Int) > 32) :
    Tst.path (vrun0 Tryz.prog (ctrs []) (fl BGs []) 3 54 [pl s]) [false, false] (toSt Tryz.prog 54 .normal [] (Sgs s 0)) :=
  mp (an (beq_eq_false_iff_ne.mpr h1) (an (decide_eq_false h2) (an (rr s) (an (rr s) (an (rr ((↑s.length : Int))) (an (rr ((0 : Int))) trivial))))))
theorem gs_h1 (s : List (Int × Int)) (k : Nat) (h1 : (↑k : Int) < (↑s.length : Int)) (h2 : k < s.length) (h3 : (List.getD s k ((0 : Int), (0 : Int))).1 < 6) :
    Tst.path (vall Tryz.prog (ctrs []) (fl BGs [1,1,0,1,0,0]) (Sgs s k)) [true, false, false, false, true, false, false, false, true, false, false, false, true, true] (toRet Tryz.prog Tryz.f33 true (iv 3)) :=
  mp (an (decide_eq_true h1) (an (show (decide ((0 : Int) ≤ (↑k : Int))) = true from decide_eq_true (by omega)) (an (decide_eq_true h2) (an (bF (decide_eq_true h3)) (an (bF (decide_eq_true h3)) (an (bF (decide_eq_true h3)) (an (decide_eq_true h3) (an rf (an rf (an rf (an rt (an rf (an rf (an rf (an rt (an rt (rr ((3 : Int)))))))))))))))))))
theorem gs_h2 (s : List (Int × Int)) (k : Nat) (h1 : (↑k : Int) < (↑s.length : Int)) (h2 : k < s.length) (h3 : ¬(List.getD s k ((0 : Int), (0 : Int))).1 < 6) (h4 : (List.getD s k ((0 : Int), (0 : Int))).1 > 400) :
    Tst.path (vall Tryz.prog (ctrs []) (fl BGs [1,1,0,1,0,0]) (Sgs s k)) [true, true, true, true, false, false, false, false, true, false, false, false, true, true] (toRet Tryz.prog Tryz.f33 true (iv 3)) :=
  mp (an (decide_eq_true h1) (an (show (decide ((0 : Int) ≤ (↑k : Int))) = true from decide_eq_true (by omega)) (an (decide_eq_true h2) (an (bF (decide_eq_false h3)) (an (bF (decide_eq_false h3)) (an (bF (decide_eq_false h3)) (an (decide_eq_false h3) (an (bF (decide_eq_true h4)) (an (bF (decide_eq_true h4)) (an (bF (decide_eq_true h4)) (an (decide_eq_true h4) (an rf (an rf (an rf (an rt (an rt (rr ((3 : Int)))))))))))))))))))
theorem gs_h3 (s : List (Int × Int)) (k : Nat) (h1 : (↑k : Int) < (↑s.length : Int)) (h2 : k < s.length) (h3 : ¬(List.getD s k ((0 : Int), (0 : Int))).1 < 6) (h4 : ¬(List.getD s k ((0 : Int), (0 : Int))).1 > 400) (h5 : (List.getD s k ((0 : Int), (0 : Int))).2 < 1) :
    Tst.path (vall Tryz.prog (ctrs []) (fl BGs [1,1,0,1,0,0]) (Sgs s k)) [true, true, true, true, false, true, true, true, false, false, false, false, true, true] (toRet Tryz.prog Tryz.f33 true (iv 3)) :=
  mp (an (decide_eq_true h1) (an (show (decide ((0 : Int) ≤ (↑k : Int))) = true from decide_eq_true (by omega)) (an (decide_eq_true h2) (an (bF (decide_eq_false h3)) (an (bF (decide_eq_false h3)) (an (bF (decide_eq_false h3)) (an (decide_eq_false h3) (an (bF (decide_eq_false h4)) (an (bF (decide_eq_false h4)) (an (bF (decide_eq_false h4)) (an (decide_eq_false h4) (an (bF (decide_eq_true h5)) (an (bF (decide_eq_true h5)) (an (bF (decide_eq_true h5)) (an (decide_eq_true h5) (an rt (rr ((3 : Int)))))))))))))))))))
theorem gs_h4 (s : List (Int × Int)) (k : Nat) (h1 : (↑k : Int) < (↑s.length : Int)) (h2 : k < s.length) (h3 : ¬(List.getD s k ((0 : Int), (0 : Int))).1 < 6) (h4 : ¬(List.getD s k ((0 : Int), (0 : Int))).1 > 400) (h5 : ¬(List.getD s k ((0 : Int), (0 : Int))).2 < 1) (h6 : (List.getD s k ((0 : Int), (0 : Int))).2 > 999999999) :
    Tst.path (vall Tryz.prog (ctrs []) (fl BGs [1,1,0,1,0,0]) (Sgs s k)) [true, true, true, true, false, true, true, true, false, true, true, true, false, true] (toRet Tryz.prog Tryz.f33 true (iv 3)) :=
  mp (an (decide_eq_true h1) (an (show (decide ((0 : Int) ≤ (↑k : Int))) = true from decide_eq_true (by omega)) (an (decide_eq_true h2) (an (bF (decide_eq_false h3)) (an (bF (decide_eq_false h3)) (an (bF (decide_eq_false h3)) (an (decide_eq_false h3) (an (bF (decide_eq_false h4)) (an (bF (decide_eq_false h4)) (an (bF (decide_eq_false h4)) (an (decide_eq_false h4) (an (bF (decide_eq_false h5)) (an (bF (decide_eq_false h5)) (an (bF (decide_eq_false h5)) (an (decide_eq_false h5) (an (decide_eq_true h6) (rr ((3 : Int)))))))))))))))))))
theorem gs_o (s : List (Int × Int)) (k : Nat) (h1 : (↑k : Int) < (↑s.length : Int)) (h2 : k < s.length) (h3 : ¬(List.getD s k ((0 : Int), (0 : Int))).1 < 6) (h4 : ¬(List.getD s k ((0 : Int), (0 : Int))).1 > 400) (h5 : ¬(List.getD s k ((0 : Int), (0 : Int))).2 < 1) (h6 : ¬(List.getD s k ((0 : Int), (0 : Int))).2 > 999999999) (h7 : (↑k : Int) > 0) (h8 : -9223372036854775808 ≤ (↑k : Int) - 1 ∧ (↑k : Int) - 1 ≤ 9223372036854775807) (h9 : (0 : Int) ≤ (↑k : Int) - 1) (h10 : Int.toNat ((↑k : Int) - 1) < s.length) (h11 : (List.getD s k ((0 : Int), (0 : Int))).1 ≤ (List.getD s (Int.toNat ((↑k : Int) - 1)) ((0 : Int), (0 : Int))).1) :
    Tst.path (vall Tryz.prog (ctrs []) (fl BGs [1,1,0,1,0,0]) (Sgs s k)) [true, true, true, true, false, true, true, true, false, true, true, true, false, false, true, true, true, true, true, true, true, true, true, true, true] (toRet Tryz.prog Tryz.f33 true (iv 11)) :=
  mp (an (decide_eq_true h1) (an (show (decide ((0 : Int) ≤ (↑k : Int))) = true from decide_eq_true (by omega)) (an (decide_eq_true h2) (an (bF (decide_eq_false h3)) (an (bF (decide_eq_false h3)) (an (bF (decide_eq_false h3)) (an (decide_eq_false h3) (an (bF (decide_eq_false h4)) (an (bF (decide_eq_false h4)) (an (bF (decide_eq_false h4)) (an (decide_eq_false h4) (an (bF (decide_eq_false h5)) (an (bF (decide_eq_false h5)) (an (bF (decide_eq_false h5)) (an (decide_eq_false h5) (an (decide_eq_false h6) (an (bT (decide_eq_true h7)) (an (bT (decide_eq_true h7)) (an (sr (iv (List.getD s k ((0 : Int), (0 : Int))).1)) (an (bT (decide_eq_true h7)) (an (bT (decide_eq_true h7)) (an (bT (decide_eq_true h7)) (an (fits_i64 h8) (an (bT (decide_eq_true h7)) (an (decide_eq_true h9) (an (decide_eq_true h10) (an (bT (decide_eq_true h7)) (an (bT (decide_eq_true h7)) (an (sr (iv (List.getD s (Int.toNat ((↑k : Int) - 1)) ((0 : Int), (0 : Int))).1)) (an (bT (decide_eq_true h7)) (an (decide_eq_true h7) (an (decide_eq_true h11) (rr ((11 : Int)))))))))))))))))))))))))))))))))))
theorem gs_n (s : List (Int × Int)) (k : Nat) (h1 : (↑k : Int) < (↑s.length : Int)) (h2 : k < s.length) (h3 : ¬(List.getD s k ((0 : Int), (0 : Int))).1 < 6) (h4 : ¬(List.getD s k ((0 : Int), (0 : Int))).1 > 400) (h5 : ¬(List.getD s k ((0 : Int), (0 : Int))).2 < 1) (h6 : ¬(List.getD s k ((0 : Int), (0 : Int))).2 > 999999999) (h7 : (↑k : Int) > 0) (h8 : -9223372036854775808 ≤ (↑k : Int) - 1 ∧ (↑k : Int) - 1 ≤ 9223372036854775807) (h9 : (0 : Int) ≤ (↑k : Int) - 1) (h10 : Int.toNat ((↑k : Int) - 1) < s.length) (h11 : ¬(List.getD s k ((0 : Int), (0 : Int))).1 ≤ (List.getD s (Int.toNat ((↑k : Int) - 1)) ((0 : Int), (0 : Int))).1) (h12 : -9223372036854775808 ≤ (↑k : Int) + 1 ∧ (↑k : Int) + 1 ≤ 9223372036854775807) :
    Tst.path (vall Tryz.prog (ctrs []) (fl BGs [1,1,0,1,0,0]) (Sgs s k)) [true, true, true, true, false, true, true, true, false, true, true, true, false, false, true, true, true, true, true, true, true, true, true, true, false] (toSt Tryz.prog 54 .normal [] (Sgs s (k + 1))) :=
  mp (an (decide_eq_true h1) (an (show (decide ((0 : Int) ≤ (↑k : Int))) = true from decide_eq_true (by omega)) (an (decide_eq_true h2) (an (bF (decide_eq_false h3)) (an (bF (decide_eq_false h3)) (an (bF (decide_eq_false h3)) (an (decide_eq_false h3) (an (bF (decide_eq_false h4)) (an (bF (decide_eq_false h4)) (an (bF (decide_eq_false h4)) (an (decide_eq_false h4) (an (bF (decide_eq_false h5)) (an (bF (decide_eq_false h5)) (an (bF (decide_eq_false h5)) (an (decide_eq_false h5) (an (decide_eq_false h6) (an (bT (decide_eq_true h7)) (an (bT (decide_eq_true h7)) (an (sr (iv (List.getD s k ((0 : Int), (0 : Int))).1)) (an (bT (decide_eq_true h7)) (an (bT (decide_eq_true h7)) (an (bT (decide_eq_true h7)) (an (fits_i64 h8) (an (bT (decide_eq_true h7)) (an (decide_eq_true h9) (an (decide_eq_true h10) (an (bT (decide_eq_true h7)) (an (bT (decide_eq_true h7)) (an (sr (iv (List.getD s (Int.toNat ((↑k : Int) - 1)) ((0 : Int), (0 : Int))).1)) (an (bT (decide_eq_true h7)) (an (decide_eq_true h7) (an (decide_eq_false h11) (an (fits_i64 h12) (an (rr s) (an (rr s) (an (rr ((↑s.length : Int))) (an (show ((↑k : Int) + 1) = ((↑(k + (1 : Nat)) : Int)) from (by omega)) trivial)))))))))))))))))))))))))))))))))))))
theorem gs_z (s : List (Int × Int)) (k : Nat) (h1 : (↑k : Int) < (↑s.length : Int)) (h2 : k < s.length) (h3 : ¬(List.getD s k ((0 : Int), (0 : Int))).1 < 6) (h4 : ¬(List.getD s k ((0 : Int), (0 : Int))).1 > 400) (h5 : ¬(List.getD s k ((0 : Int), (0 : Int))).2 < 1) (h6 : ¬(List.getD s k ((0 : Int), (0 : Int))).2 > 999999999) (h7 : ¬(↑k : Int) > 0) (h8 : -9223372036854775808 ≤ (↑k : Int) + 1 ∧ (↑k : Int) + 1 ≤ 9223372036854775807) :
    Tst.path (vall Tryz.prog (ctrs []) (fl BGs [1,1,0,1,0,0]) (Sgs s k)) [true, true, true, true, false, true, true, true, false, true, true, true, false, false, false, false, false, false, false, false, false, false, false, false, false] (toSt Tryz.prog 54 .normal [] (Sgs s (k + 1))) :=
  mp (an (decide_eq_true h1) (an (show (decide ((0 : Int) ≤ (↑k : Int))) = true from decide_eq_true (by omega)) (an (decide_eq_true h2) (an (bF (decide_eq_false h3)) (an (bF (decide_eq_false h3)) (an (bF (decide_eq_false h3)) (an (decide_eq_false h3) (an (bF (decide_eq_false h4)) (an (bF (decide_eq_false h4)) (an (bF (decide_eq_false h4)) (an (decide_eq_false h4) (an (bF (decide_eq_false h5)) (an (bF (decide_eq_false h5)) (an (bF (decide_eq_false h5)) (an (decide_eq_false h5) (an (decide_eq_false h6) (an (bT (decide_eq_false h7)) (an (bT (decide_eq_false h7)) (an (bT (decide_eq_false h7)) (an (bT (decide_eq_false h7)) (an (bT (decide_eq_false h7)) (an (bT (decide_eq_false h7)) (an (bT (decide_eq_false h7)) (an (bT (decide_eq_false h7)) (an (bT (decide_eq_false h7)) (an (decide_eq_false h7) (an rf (an (fits_i64 h8) (an (rr s) (an (rr s) (an (rr ((↑s.length : Int))) (an (show ((↑k : Int) + 1) = ((↑(k + (1 : Nat)) : Int)) from (by omega)) trivial))))))))))))))))))))))))))))))))
theorem gs_end (s : List (Int × Int)) (k : Nat) (h1 : ¬(↑k : Int) < (↑s.length : Int)) :
    Tst.path (vall Tryz.prog (ctrs []) (fl BGs [1,1,0,1,0,0]) (Sgs s k)) [false] (toSt Tryz.prog 54 (.exit 1) [] (Sgs s k)) :=
  mp (an (decide_eq_false h1) (an (rr s) (an (rr s) (an (rr ((↑s.length : Int))) (an (rr ((↑k : Int))) trivial)))))
theorem gs_fin (s : List (Int × Int)) (k : Nat)  :
    Tst.path (vall Tryz.prog (ctrs []) (List.drop 4 (fl BGs [])) (Sgs s k)) [] (toRet Tryz.prog Tryz.f33 true (iv 0)) :=
  mp (rr ((0 : Int)))
theorem gs_holds (s : List (Int × Int)) : Holds Tryz.prog true 33 [pl s] (iv (stkErr s)) := by
  have hS := none_ok
  refine holds_fl (c := BGs) Tryz.func33 rfl rfl fun w F => ?_
  by_cases h0 : s.length = 0
  · have e : stkErr s = 12 := by unfold stkErr; rw [if_pos h0]
    rw [e]
    exact GoalL.ret known mixed hS 2 _ (gs_e12 s (by omega)) fun T H h => h
  · by_cases h5 : 32 < s.length
    · have e : stkErr s = 5 := by unfold stkErr; rw [if_neg h0, if_pos h5]
      rw [e]
      exact GoalL.ret known mixed hS 2 _ (gs_e5 s (by omega) (by omega)) fun T H h => h
    · obtain ⟨r, hr⟩ : ∃ r, stkFrom s s.length 0 = r := ⟨_, rfl⟩
      have e : stkErr s = r := by unfold stkErr; rw [if_neg h0, if_neg h5, hr]
      rw [e]
      refine GoalL.to known mixed hS 3 _ (gs_start s (by omega) (by omega)) (by kernel_rfl) ?_
      refine GoalL.loop (ι := { k : Nat // k ≤ s.length ∧ stkFrom s (s.length - k) k = r }) (id := 1) (b := cat BGs [1,1,0,1,0,0]) (rest := List.drop 4 (fl BGs [])) (by kernel_rfl) (fun k => Sgs s k.1) (fun k => s.length - k.1) ⟨0, Nat.zero_le _, hr⟩ (fun _ => rfl) ?_
      rintro ⟨k, hk, hx⟩
      have hx : stkFrom s (s.length - k) k = r := hx
      by_cases hlt : k < s.length
      · obtain ⟨m, hm⟩ : ∃ m, s.length - k = m + 1 := ⟨s.length - k - 1, by omega⟩
        have hm2 : s.length - (k + 1) = m := by omega
        rw [hm, stkFrom] at hx
        have nx : stkAt s k = 0 → ∃ j : { k : Nat // k ≤ s.length ∧ stkFrom s (s.length - k) k = r }, s.length - j.1 < s.length - k ∧ (Sgs s (k + 1)).T = (Sgs s j.1).T ∧ (Sgs s (k + 1)).H = (Sgs s j.1).H := fun hz =>
          ⟨⟨k + 1, hlt, by rw [hm2, ← hx, if_neg (by rw [hz]; simp)]⟩, by simp; omega, rfl, rfl⟩
        have hit : ∀ z, stkAt s k = z → z ≠ 0 → r = z := fun z hz hn => by rw [← hx, if_pos (by rw [hz]; exact hn), hz]
        by_cases c1 : (g0 s k).1 < 6
        · have hz : stkAt s k = 3 := by unfold stkAt; rw [if_pos (show wOut (g0 s k) = true by unfold wOut; rw [decide_eq_true c1]; rfl)]
          have hr2 := hit 3 hz (by decide)
          exact GoalL.allRet (s := Sgs s k) known mixed hS _ (gs_h1 s k (by omega) (by omega) c1) fun T H h => by
            have h2 : retQ Tryz.prog true Tryz.f33 (iv r) .ret T H := by rw [hr2]; exact h
            exact h2
        · by_cases c2 : (g0 s k).1 > 400
          · have hz : stkAt s k = 3 := by unfold stkAt; rw [if_pos (show wOut (g0 s k) = true by unfold wOut; rw [decide_eq_false c1, decide_eq_true c2]; rfl)]
            have hr2 := hit 3 hz (by decide)
            exact GoalL.allRet (s := Sgs s k) known mixed hS _ (gs_h2 s k (by omega) (by omega) c1 c2) fun T H h => by
              have h2 : retQ Tryz.prog true Tryz.f33 (iv r) .ret T H := by rw [hr2]; exact h
              exact h2
          · by_cases c3 : (g0 s k).2 < 1
            · have hz : stkAt s k = 3 := by unfold stkAt; rw [if_pos (show wOut (g0 s k) = true by unfold wOut; rw [decide_eq_false c1, decide_eq_false c2, decide_eq_true c3]; rfl)]
              have hr2 := hit 3 hz (by decide)
              exact GoalL.allRet (s := Sgs s k) known mixed hS _ (gs_h3 s k (by omega) (by omega) c1 c2 c3) fun T H h => by
                have h2 : retQ Tryz.prog true Tryz.f33 (iv r) .ret T H := by rw [hr2]; exact h
                exact h2
            · by_cases c4 : (g0 s k).2 > 999999999
              · have hz : stkAt s k = 3 := by unfold stkAt; rw [if_pos (show wOut (g0 s k) = true by unfold wOut; rw [decide_eq_false c1, decide_eq_false c2, decide_eq_false c3, decide_eq_true c4]; rfl)]
                have hr2 := hit 3 hz (by decide)
                exact GoalL.allRet (s := Sgs s k) known mixed hS _ (gs_h4 s k (by omega) (by omega) c1 c2 c3 c4) fun T H h => by
                  have h2 : retQ Tryz.prog true Tryz.f33 (iv r) .ret T H := by rw [hr2]; exact h
                  exact h2
              · have hw : ¬ wOut (g0 s k) = true := by unfold wOut; rw [decide_eq_false c1, decide_eq_false c2, decide_eq_false c3, decide_eq_false c4]; decide
                by_cases c5 : 0 < k
                · have ek : Int.toNat ((k : Int) - 1) = k - 1 := by omega
                  by_cases c6 : (g0 s k).1 ≤ (g0 s (k - 1)).1
                  · have hz : stkAt s k = 11 := by unfold stkAt; rw [if_neg hw, if_pos ⟨c5, c6⟩]
                    have hr2 := hit 11 hz (by decide)
                    exact GoalL.allRet (s := Sgs s k) known mixed hS _ (gs_o s k (by omega) (by omega) c1 c2 c3 c4 (by omega) (by omega) (by omega) (by omega) (by rw [ek]; exact c6)) fun T H h => by
                      have h2 : retQ Tryz.prog true Tryz.f33 (iv r) .ret T H := by rw [hr2]; exact h
                      exact h2
                  · refine GoalL.all (s := Sgs s k) known mixed hS _ (gs_n s k (by omega) (by omega) c1 c2 c3 c4 (by omega) (by omega) (by omega) (by omega) (by rw [ek]; exact c6) (by omega)) (by kernel_rfl) (nx ?_)
                    unfold stkAt; rw [if_neg hw, if_neg fun h => c6 h.2]
                · refine GoalL.all (s := Sgs s k) known mixed hS _ (gs_z s k (by omega) (by omega) c1 c2 c3 c4 (by omega) (by omega)) (by kernel_rfl) (nx ?_)
                  unfold stkAt; rw [if_neg hw, if_neg fun h => c5 h.1]
      · refine GoalL.all (s := Sgs s k) known mixed hS _ (gs_end s k (by omega)) (by kernel_rfl) ?_
        refine onN_exit (inB_exit ?_)
        obtain rfl : k = s.length := by omega
        rw [Nat.sub_self, stkFrom] at hx
        exact GoalL.allRet (s := Sgs s s.length) known mixed hS _ (gs_fin s _) fun T H h => by
          have h2 : retQ Tryz.prog true Tryz.f33 (iv r) .ret T H := by rw [← hx]; exact h
          exact h2
noncomputable def cGs : Ctr := { f := 33, ps := [.list false tP2], rs := [.int .i64], fresh := true, pre := fun d => true, fn := fun d => (stkErr d.1, ()) }
theorem cGs_ok : cGs.Ok Tryz.prog := fun ⟨s, _⟩ _ => gs_holds s
end
end Go.Proofs.YtjcbbabaabcdgaaGreatDoor
/- The train: errors; the stock's wheels. -/
namespace Go.Proofs.YtjcbbabaabcdgaaGreatDoor
open Go.RowKit Sv
set_option maxRecDepth 100000
set_option linter.unusedVariables false
set_option linter.unusedSimpArgs false
noncomputable section
def Srt (s : List (Int × Int)) (k : Nat) : St := { n := 36, sl := [(0, pl s), (3, iv k)], en := [], next := 64 }
theorem rt_e5 (s : List (Int × Int)) (h1 : (↑s.length : Int) > 4) :
    Tst.path (vrun0 Tryz.prog (ctrs []) (fl BRt []) 3 36 [pl s]) [true] (toRet Tryz.prog Tryz.f10 true (iv 5)) :=
  mp (an (decide_eq_true h1) (rr ((5 : Int))))
theorem rt_start (s : List (Int × Int)) (h1 : ¬(↑s.length : Int) > 4) :
    Tst.path (vrun0 Tryz.prog (ctrs []) (fl BRt []) 4 36 [pl s]) [false] (toSt Tryz.prog 36 .normal [] (Srt s 0)) :=
  mp (an (decide_eq_false h1) (an (rr s) (an (rr ((0 : Int))) trivial)))
theorem rt_h1 (s : List (Int × Int)) (k : Nat) (h1 : (↑k : Int) < (↑s.length : Int)) (h2 : k < s.length) (h3 : (List.getD s k ((0 : Int), (0 : Int))).1 < 1) :
    Tst.path (vall Tryz.prog (ctrs []) (fl BRt [1,1,0,1,0,0]) (Srt s k)) [true, false, false, false, true, false, false, false, true, false, false, false, true, true] (toRet Tryz.prog Tryz.f10 true (iv 3)) :=
  mp (an (decide_eq_true h1) (an (show (decide ((0 : Int) ≤ (↑k : Int))) = true from decide_eq_true (by omega)) (an (decide_eq_true h2) (an (bF (decide_eq_true h3)) (an (bF (decide_eq_true h3)) (an (bF (decide_eq_true h3)) (an (decide_eq_true h3) (an rf (an rf (an rf (an rt (an rf (an rf (an rf (an rt (an rt (rr ((3 : Int)))))))))))))))))))
theorem rt_h2 (s : List (Int × Int)) (k : Nat) (h1 : (↑k : Int) < (↑s.length : Int)) (h2 : k < s.length) (h3 : ¬(List.getD s k ((0 : Int), (0 : Int))).1 < 1) (h4 : (List.getD s k ((0 : Int), (0 : Int))).1 > 400) :
    Tst.path (vall Tryz.prog (ctrs []) (fl BRt [1,1,0,1,0,0]) (Srt s k)) [true, true, true, true, false, false, false, false, true, false, false, false, true, true] (toRet Tryz.prog Tryz.f10 true (iv 3)) :=
  mp (an (decide_eq_true h1) (an (show (decide ((0 : Int) ≤ (↑k : Int))) = true from decide_eq_true (by omega)) (an (decide_eq_true h2) (an (bF (decide_eq_false h3)) (an (bF (decide_eq_false h3)) (an (bF (decide_eq_false h3)) (an (decide_eq_false h3) (an (bF (decide_eq_true h4)) (an (bF (decide_eq_true h4)) (an (bF (decide_eq_true h4)) (an (decide_eq_true h4) (an rf (an rf (an rf (an rt (an rt (rr ((3 : Int)))))))))))))))))))
theorem rt_h3 (s : List (Int × Int)) (k : Nat) (h1 : (↑k : Int) < (↑s.length : Int)) (h2 : k < s.length) (h3 : ¬(List.getD s k ((0 : Int), (0 : Int))).1 < 1) (h4 : ¬(List.getD s k ((0 : Int), (0 : Int))).1 > 400) (h5 : (List.getD s k ((0 : Int), (0 : Int))).2 < 1) :
    Tst.path (vall Tryz.prog (ctrs []) (fl BRt [1,1,0,1,0,0]) (Srt s k)) [true, true, true, true, false, true, true, true, false, false, false, false, true, true] (toRet Tryz.prog Tryz.f10 true (iv 3)) :=
  mp (an (decide_eq_true h1) (an (show (decide ((0 : Int) ≤ (↑k : Int))) = true from decide_eq_true (by omega)) (an (decide_eq_true h2) (an (bF (decide_eq_false h3)) (an (bF (decide_eq_false h3)) (an (bF (decide_eq_false h3)) (an (decide_eq_false h3) (an (bF (decide_eq_false h4)) (an (bF (decide_eq_false h4)) (an (bF (decide_eq_false h4)) (an (decide_eq_false h4) (an (bF (decide_eq_true h5)) (an (bF (decide_eq_true h5)) (an (bF (decide_eq_true h5)) (an (decide_eq_true h5) (an rt (rr ((3 : Int)))))))))))))))))))
theorem rt_h4 (s : List (Int × Int)) (k : Nat) (h1 : (↑k : Int) < (↑s.length : Int)) (h2 : k < s.length) (h3 : ¬(List.getD s k ((0 : Int), (0 : Int))).1 < 1) (h4 : ¬(List.getD s k ((0 : Int), (0 : Int))).1 > 400) (h5 : ¬(List.getD s k ((0 : Int), (0 : Int))).2 < 1) (h6 : (List.getD s k ((0 : Int), (0 : Int))).2 > 400) :
    Tst.path (vall Tryz.prog (ctrs []) (fl BRt [1,1,0,1,0,0]) (Srt s k)) [true, true, true, true, false, true, true, true, false, true, true, true, false, true] (toRet Tryz.prog Tryz.f10 true (iv 3)) :=
  mp (an (decide_eq_true h1) (an (show (decide ((0 : Int) ≤ (↑k : Int))) = true from decide_eq_true (by omega)) (an (decide_eq_true h2) (an (bF (decide_eq_false h3)) (an (bF (decide_eq_false h3)) (an (bF (decide_eq_false h3)) (an (decide_eq_false h3) (an (bF (decide_eq_false h4)) (an (bF (decide_eq_false h4)) (an (bF (decide_eq_false h4)) (an (decide_eq_false h4) (an (bF (decide_eq_false h5)) (an (bF (decide_eq_false h5)) (an (bF (decide_eq_false h5)) (an (decide_eq_false h5) (an (decide_eq_true h6) (rr ((3 : Int)))))))))))))))))))
theorem rt_n (s : List (Int × Int)) (k : Nat) (h1 : (↑k : Int) < (↑s.length : Int)) (h2 : k < s.length) (h3 : ¬(List.getD s k ((0 : Int), (0 : Int))).1 < 1) (h4 : ¬(List.getD s k ((0 : Int), (0 : Int))).1 > 400) (h5 : ¬(List.getD s k ((0 : Int), (0 : Int))).2 < 1) (h6 : ¬(List.getD s k ((0 : Int), (0 : Int))).2 > 400) (h7 : -9223372036854775808 ≤ (↑k : Int) + 1 ∧ (↑k : Int) + 1 ≤ 9223372036854775807) :
    Tst.path (vall Tryz.prog (ctrs []) (fl BRt [1,1,0,1,0,0]) (Srt s k)) [true, true, true, true, false, true, true, true, false, true, true, true, false, false] (toSt Tryz.prog 36 .normal [] (Srt s (k + 1))) :=
  mp (an (decide_eq_true h1) (an (show (decide ((0 : Int) ≤ (↑k : Int))) = true from decide_eq_true (by omega)) (an (decide_eq_true h2) (an (bF (decide_eq_false h3)) (an (bF (decide_eq_false h3)) (an (bF (decide_eq_false h3)) (an (decide_eq_false h3) (an (bF (decide_eq_false h4)) (an (bF (decide_eq_false h4)) (an (bF (decide_eq_false h4)) (an (decide_eq_false h4) (an (bF (decide_eq_false h5)) (an (bF (decide_eq_false h5)) (an (bF (decide_eq_false h5)) (an (decide_eq_false h5) (an (decide_eq_false h6) (an (fits_i64 h7) (an (rr s) (an (show ((↑k : Int) + 1) = ((↑(k + (1 : Nat)) : Int)) from (by omega)) trivial)))))))))))))))))))
theorem rt_end (s : List (Int × Int)) (k : Nat) (h1 : ¬(↑k : Int) < (↑s.length : Int)) :
    Tst.path (vall Tryz.prog (ctrs []) (fl BRt [1,1,0,1,0,0]) (Srt s k)) [false] (toSt Tryz.prog 36 (.exit 0) [] (Srt s k)) :=
  mp (an (decide_eq_false h1) (an (rr s) (an (rr ((↑k : Int))) trivial)))
theorem rt_fin (s : List (Int × Int)) (k : Nat)  :
    Tst.path (vall Tryz.prog (ctrs []) (List.drop 5 (fl BRt [])) (Srt s k)) [] (toRet Tryz.prog Tryz.f10 true (iv 0)) :=
  mp (rr ((0 : Int)))
theorem rt_holds (s : List (Int × Int)) : Holds Tryz.prog true 10 [pl s] (iv (trnErr s)) := by
  have hS := none_ok
  refine holds_fl (c := BRt) Tryz.func10 rfl rfl fun w F => ?_
  by_cases h5 : 4 < s.length
  · have e : trnErr s = 5 := by unfold trnErr; rw [if_pos h5]
    rw [e]
    exact GoalL.ret known mixed hS 3 _ (rt_e5 s (by omega)) fun T H h => h
  · obtain ⟨r, hr⟩ : ∃ r, trnFrom s s.length 0 = r := ⟨_, rfl⟩
    have e : trnErr s = r := by unfold trnErr; rw [if_neg h5, hr]
    rw [e]
    refine GoalL.to known mixed hS 4 _ (rt_start s (by omega)) (by kernel_rfl) ?_
    refine GoalL.loop (ι := { k : Nat // k ≤ s.length ∧ trnFrom s (s.length - k) k = r }) (id := 0) (b := cat BRt [1,1,0,1,0,0]) (rest := List.drop 5 (fl BRt [])) (by kernel_rfl) (fun k => Srt s k.1) (fun k => s.length - k.1) ⟨0, Nat.zero_le _, hr⟩ (fun _ => rfl) ?_
    rintro ⟨k, hk, hx⟩
    have hx : trnFrom s (s.length - k) k = r := hx
    by_cases hlt : k < s.length
    · obtain ⟨m, hm⟩ : ∃ m, s.length - k = m + 1 := ⟨s.length - k - 1, by omega⟩
      have hm2 : s.length - (k + 1) = m := by omega
      rw [hm, trnFrom] at hx
      have hit : pOut (g0 s k) = true → r = 3 := fun hz => by rw [← hx, if_pos hz]
      have key : pOut (g0 s k) = true → ∀ T H, retQ Tryz.prog true Tryz.f10 (iv 3) .ret T H → retQ Tryz.prog true Tryz.f10 (iv r) .ret T H := fun hz T H h => by rw [hit hz]; exact h
      by_cases c1 : (g0 s k).1 < 1
      · exact GoalL.allRet (s := Srt s k) known mixed hS _ (rt_h1 s k (by omega) (by omega) c1) fun T H h => key (by unfold pOut; rw [decide_eq_true c1]; rfl) T H h
      · by_cases c2 : (g0 s k).1 > 400
        · exact GoalL.allRet (s := Srt s k) known mixed hS _ (rt_h2 s k (by omega) (by omega) c1 c2) fun T H h => key (by unfold pOut; rw [decide_eq_false c1, decide_eq_true c2]; rfl) T H h
        · by_cases c3 : (g0 s k).2 < 1
          · exact GoalL.allRet (s := Srt s k) known mixed hS _ (rt_h3 s k (by omega) (by omega) c1 c2 c3) fun T H h => key (by unfold pOut; rw [decide_eq_false c1, decide_eq_false c2, decide_eq_true c3]; rfl) T H h
          · by_cases c4 : (g0 s k).2 > 400
            · exact GoalL.allRet (s := Srt s k) known mixed hS _ (rt_h4 s k (by omega) (by omega) c1 c2 c3 c4) fun T H h => key (by unfold pOut; rw [decide_eq_false c1, decide_eq_false c2, decide_eq_false c3, decide_eq_true c4]; rfl) T H h
            · have hw : ¬ pOut (g0 s k) = true := by unfold pOut; rw [decide_eq_false c1, decide_eq_false c2, decide_eq_false c3, decide_eq_false c4]; decide
              refine GoalL.all (s := Srt s k) known mixed hS _ (rt_n s k (by omega) (by omega) c1 c2 c3 c4 (by omega)) (by kernel_rfl) ?_
              exact ⟨⟨k + 1, hlt, by rw [hm2, ← hx, if_neg hw]⟩, by simp; omega, rfl, rfl⟩
    · refine GoalL.all (s := Srt s k) known mixed hS _ (rt_end s k (by omega)) (by kernel_rfl) ?_
      refine onN_exit (inB_exit ?_)
      obtain rfl : k = s.length := by omega
      rw [Nat.sub_self, trnFrom] at hx
      refine GoalL.allRet (s := Srt s s.length) known mixed hS _ (rt_fin s _) fun T H h => ?_
      have h2 : retQ Tryz.prog true Tryz.f10 (iv r) .ret T H := by rw [← hx]; exact h
      exact h2
noncomputable def cRt : Ctr := { f := 10, ps := [.list false tP2], rs := [.int .i64], fresh := true, pre := fun d => true, fn := fun d => (trnErr d.1, ()) }
theorem cRt_ok : cRt.Ok Tryz.prog := fun ⟨s, _⟩ _ => rt_holds s
def Sgt (s : List (Int × Int)) (k : Nat) : St := { n := 33, sl := [(0, pl s), (8, pl s), (9, iv s.length), (10, iv k)], en := [], next := 64 }
theorem gt_e5 (s : List (Int × Int)) (h1 : (↑s.length : Int) > 4) :
    Tst.path (vrun0 Tryz.prog (ctrs []) (fl BGt []) 3 33 [pl s]) [true] (toRet Tryz.prog Tryz.f44 true (iv 5)) :=
  mp (an (decide_eq_true h1) (rr ((5 : Int))))
theorem gt_start (s : List (Int × Int)) (h1 : ¬(↑s.length : Int) > 4) :
    Tst.path (vrun0 Tryz.prog (ctrs []) (fl BGt []) 4 33 [pl s]) [false] (toSt Tryz.prog 33 .normal [] (Sgt s 0)) :=
  mp (an (decide_eq_false h1) (an (rr s) (an (rr s) (an (rr ((↑s.length : Int))) (an (rr ((0 : Int))) trivial)))))
theorem gt_h1 (s : List (Int × Int)) (k : Nat) (h1 : (↑k : Int) < (↑s.length : Int)) (h2 : k < s.length) (h3 : (List.getD s k ((0 : Int), (0 : Int))).1 < 1) :
    Tst.path (vall Tryz.prog (ctrs []) (fl BGt [1,1,0,1,0,0]) (Sgt s k)) [true, false, false, false, true, false, false, false, true, false, false, false, true, true] (toRet Tryz.prog Tryz.f44 true (iv 3)) :=
  mp (an (decide_eq_true h1) (an (show (decide ((0 : Int) ≤ (↑k : Int))) = true from decide_eq_true (by omega)) (an (decide_eq_true h2) (an (bF (decide_eq_true h3)) (an (bF (decide_eq_true h3)) (an (bF (decide_eq_true h3)) (an (decide_eq_true h3) (an rf (an rf (an rf (an rt (an rf (an rf (an rf (an rt (an rt (rr ((3 : Int)))))))))))))))))))
theorem gt_h2 (s : List (Int × Int)) (k : Nat) (h1 : (↑k : Int) < (↑s.length : Int)) (h2 : k < s.length) (h3 : ¬(List.getD s k ((0 : Int), (0 : Int))).1 < 1) (h4 : (List.getD s k ((0 : Int), (0 : Int))).1 > 400) :
    Tst.path (vall Tryz.prog (ctrs []) (fl BGt [1,1,0,1,0,0]) (Sgt s k)) [true, true, true, true, false, false, false, false, true, false, false, false, true, true] (toRet Tryz.prog Tryz.f44 true (iv 3)) :=
  mp (an (decide_eq_true h1) (an (show (decide ((0 : Int) ≤ (↑k : Int))) = true from decide_eq_true (by omega)) (an (decide_eq_true h2) (an (bF (decide_eq_false h3)) (an (bF (decide_eq_false h3)) (an (bF (decide_eq_false h3)) (an (decide_eq_false h3) (an (bF (decide_eq_true h4)) (an (bF (decide_eq_true h4)) (an (bF (decide_eq_true h4)) (an (decide_eq_true h4) (an rf (an rf (an rf (an rt (an rt (rr ((3 : Int)))))))))))))))))))
theorem gt_h3 (s : List (Int × Int)) (k : Nat) (h1 : (↑k : Int) < (↑s.length : Int)) (h2 : k < s.length) (h3 : ¬(List.getD s k ((0 : Int), (0 : Int))).1 < 1) (h4 : ¬(List.getD s k ((0 : Int), (0 : Int))).1 > 400) (h5 : (List.getD s k ((0 : Int), (0 : Int))).2 < 1) :
    Tst.path (vall Tryz.prog (ctrs []) (fl BGt [1,1,0,1,0,0]) (Sgt s k)) [true, true, true, true, false, true, true, true, false, false, false, false, true, true] (toRet Tryz.prog Tryz.f44 true (iv 3)) :=
  mp (an (decide_eq_true h1) (an (show (decide ((0 : Int) ≤ (↑k : Int))) = true from decide_eq_true (by omega)) (an (decide_eq_true h2) (an (bF (decide_eq_false h3)) (an (bF (decide_eq_false h3)) (an (bF (decide_eq_false h3)) (an (decide_eq_false h3) (an (bF (decide_eq_false h4)) (an (bF (decide_eq_false h4)) (an (bF (decide_eq_false h4)) (an (decide_eq_false h4) (an (bF (decide_eq_true h5)) (an (bF (decide_eq_true h5)) (an (bF (decide_eq_true h5)) (an (decide_eq_true h5) (an rt (rr ((3 : Int)))))))))))))))))))
theorem gt_h4 (s : List (Int × Int)) (k : Nat) (h1 : (↑k : Int) < (↑s.length : Int)) (h2 : k < s.length) (h3 : ¬(List.getD s k ((0 : Int), (0 : Int))).1 < 1) (h4 : ¬(List.getD s k ((0 : Int), (0 : Int))).1 > 400) (h5 : ¬(List.getD s k ((0 : Int), (0 : Int))).2 < 1) (h6 : (List.getD s k ((0 : Int), (0 : Int))).2 > 400) :
    Tst.path (vall Tryz.prog (ctrs []) (fl BGt [1,1,0,1,0,0]) (Sgt s k)) [true, true, true, true, false, true, true, true, false, true, true, true, false, true] (toRet Tryz.prog Tryz.f44 true (iv 3)) :=
  mp (an (decide_eq_true h1) (an (show (decide ((0 : Int) ≤ (↑k : Int))) = true from decide_eq_true (by omega)) (an (decide_eq_true h2) (an (bF (decide_eq_false h3)) (an (bF (decide_eq_false h3)) (an (bF (decide_eq_false h3)) (an (decide_eq_false h3) (an (bF (decide_eq_false h4)) (an (bF (decide_eq_false h4)) (an (bF (decide_eq_false h4)) (an (decide_eq_false h4) (an (bF (decide_eq_false h5)) (an (bF (decide_eq_false h5)) (an (bF (decide_eq_false h5)) (an (decide_eq_false h5) (an (decide_eq_true h6) (rr ((3 : Int)))))))))))))))))))
theorem gt_n (s : List (Int × Int)) (k : Nat) (h1 : (↑k : Int) < (↑s.length : Int)) (h2 : k < s.length) (h3 : ¬(List.getD s k ((0 : Int), (0 : Int))).1 < 1) (h4 : ¬(List.getD s k ((0 : Int), (0 : Int))).1 > 400) (h5 : ¬(List.getD s k ((0 : Int), (0 : Int))).2 < 1) (h6 : ¬(List.getD s k ((0 : Int), (0 : Int))).2 > 400) (h7 : -9223372036854775808 ≤ (↑k : Int) + 1 ∧ (↑k : Int) + 1 ≤ 9223372036854775807) :
    Tst.path (vall Tryz.prog (ctrs []) (fl BGt [1,1,0,1,0,0]) (Sgt s k)) [true, true, true, true, false, true, true, true, false, true, true, true, false, false] (toSt Tryz.prog 33 .normal [] (Sgt s (k + 1))) :=
  mp (an (decide_eq_true h1) (an (show (decide ((0 : Int) ≤ (↑k : Int))) = true from decide_eq_true (by omega)) (an (decide_eq_true h2) (an (bF (decide_eq_false h3)) (an (bF (decide_eq_false h3)) (an (bF (decide_eq_false h3)) (an (decide_eq_false h3) (an (bF (decide_eq_false h4)) (an (bF (decide_eq_false h4)) (an (bF (decide_eq_false h4)) (an (decide_eq_false h4) (an (bF (decide_eq_false h5)) (an (bF (decide_eq_false h5)) (an (bF (decide_eq_false h5)) (an (decide_eq_false h5) (an (decide_eq_false h6) (an (fits_i64 h7) (an (rr s) (an (rr s) (an (rr ((↑s.length : Int))) (an (show ((↑k : Int) + 1) = ((↑(k + (1 : Nat)) : Int)) from (by omega)) trivial)))))))))))))))))))))
theorem gt_end (s : List (Int × Int)) (k : Nat) (h1 : ¬(↑k : Int) < (↑s.length : Int)) :
    Tst.path (vall Tryz.prog (ctrs []) (fl BGt [1,1,0,1,0,0]) (Sgt s k)) [false] (toSt Tryz.prog 33 (.exit 0) [] (Sgt s k)) :=
  mp (an (decide_eq_false h1) (an (rr s) (an (rr s) (an (rr ((↑s.length : Int))) (an (rr ((↑k : Int))) trivial)))))
theorem gt_fin (s : List (Int × Int)) (k : Nat)  :
    Tst.path (vall Tryz.prog (ctrs []) (List.drop 5 (fl BGt [])) (Sgt s k)) [] (toRet Tryz.prog Tryz.f44 true (iv 0)) :=
  mp (rr ((0 : Int)))
theorem gt_holds (s : List (Int × Int)) : Holds Tryz.prog true 44 [pl s] (iv (trnErr s)) := by
  have hS := none_ok
  refine holds_fl (c := BGt) Tryz.func44 rfl rfl fun w F => ?_
  by_cases h5 : 4 < s.length
  · have e : trnErr s = 5 := by unfold trnErr; rw [if_pos h5]
    rw [e]
    exact GoalL.ret known mixed hS 3 _ (gt_e5 s (by omega)) fun T H h => h
  · obtain ⟨r, hr⟩ : ∃ r, trnFrom s s.length 0 = r := ⟨_, rfl⟩
    have e : trnErr s = r := by unfold trnErr; rw [if_neg h5, hr]
    rw [e]
    refine GoalL.to known mixed hS 4 _ (gt_start s (by omega)) (by kernel_rfl) ?_
    refine GoalL.loop (ι := { k : Nat // k ≤ s.length ∧ trnFrom s (s.length - k) k = r }) (id := 0) (b := cat BGt [1,1,0,1,0,0]) (rest := List.drop 5 (fl BGt [])) (by kernel_rfl) (fun k => Sgt s k.1) (fun k => s.length - k.1) ⟨0, Nat.zero_le _, hr⟩ (fun _ => rfl) ?_
    rintro ⟨k, hk, hx⟩
    have hx : trnFrom s (s.length - k) k = r := hx
    by_cases hlt : k < s.length
    · obtain ⟨m, hm⟩ : ∃ m, s.length - k = m + 1 := ⟨s.length - k - 1, by omega⟩
      have hm2 : s.length - (k + 1) = m := by omega
      rw [hm, trnFrom] at hx
      have hit : pOut (g0 s k) = true → r = 3 := fun hz => by rw [← hx, if_pos hz]
      have key : pOut (g0 s k) = true → ∀ T H, retQ Tryz.prog true Tryz.f44 (iv 3) .ret T H → retQ Tryz.prog true Tryz.f44 (iv r) .ret T H := fun hz T H h => by rw [hit hz]; exact h
      by_cases c1 : (g0 s k).1 < 1
      · exact GoalL.allRet (s := Sgt s k) known mixed hS _ (gt_h1 s k (by omega) (by omega) c1) fun T H h => key (by unfold pOut; rw [decide_eq_true c1]; rfl) T H h
      · by_cases c2 : (g0 s k).1 > 400
        · exact GoalL.allRet (s := Sgt s k) known mixed hS _ (gt_h2 s k (by omega) (by omega) c1 c2) fun T H h => key (by unfold pOut; rw [decide_eq_false c1, decide_eq_true c2]; rfl) T H h
        · by_cases c3 : (g0 s k).2 < 1
          · exact GoalL.allRet (s := Sgt s k) known mixed hS _ (gt_h3 s k (by omega) (by omega) c1 c2 c3) fun T H h => key (by unfold pOut; rw [decide_eq_false c1, decide_eq_false c2, decide_eq_true c3]; rfl) T H h
          · by_cases c4 : (g0 s k).2 > 400
            · exact GoalL.allRet (s := Sgt s k) known mixed hS _ (gt_h4 s k (by omega) (by omega) c1 c2 c3 c4) fun T H h => key (by unfold pOut; rw [decide_eq_false c1, decide_eq_false c2, decide_eq_false c3, decide_eq_true c4]; rfl) T H h
            · have hw : ¬ pOut (g0 s k) = true := by unfold pOut; rw [decide_eq_false c1, decide_eq_false c2, decide_eq_false c3, decide_eq_false c4]; decide
              refine GoalL.all (s := Sgt s k) known mixed hS _ (gt_n s k (by omega) (by omega) c1 c2 c3 c4 (by omega)) (by kernel_rfl) ?_
              exact ⟨⟨k + 1, hlt, by rw [hm2, ← hx, if_neg hw]⟩, by simp; omega, rfl, rfl⟩
    · refine GoalL.all (s := Sgt s k) known mixed hS _ (gt_end s k (by omega)) (by kernel_rfl) ?_
      refine onN_exit (inB_exit ?_)
      obtain rfl : k = s.length := by omega
      rw [Nat.sub_self, trnFrom] at hx
      refine GoalL.allRet (s := Sgt s s.length) known mixed hS _ (gt_fin s _) fun T H h => ?_
      have h2 : retQ Tryz.prog true Tryz.f44 (iv r) .ret T H := by rw [← hx]; exact h
      exact h2
end
end Go.Proofs.YtjcbbabaabcdgaaGreatDoor
/- The reference of chapter 5: count, has, Builds; the law's first. -/
namespace Go.Proofs.YtjcbbabaabcdgaaGreatDoor
open Go.RowKit Sv
set_option maxRecDepth 100000
set_option linter.unusedVariables false
set_option linter.unusedSimpArgs false
noncomputable section
noncomputable def BCn : Code := (Tryz.f86.body).getD .skip
noncomputable def BHs : Code := (Tryz.f87.body).getD .skip
noncomputable def BBd : Code := (Tryz.f34.body).getD .skip
def cntP (p : Int × Int) (x : Int) : Int := (if p.1 = x then 1 else 0) + (if p.2 = x then 1 else 0)
def cntTo (t : List (Int × Int)) (x : Int) : Nat → Int
  | 0 => 0
  | k + 1 => cntTo t x k + cntP (g0 t k) x
def cntA (t : List (Int × Int)) (x : Int) : Int := cntTo t x t.length
def hasL : List (Int × Int) → Int → Int
  | [], _ => 0
  | p :: r, x => if p.1 = x then p.2 else hasL r x
def bldAt (s t : List (Int × Int)) (k : Nat) : Bool := decide (cntA t (g0 t k).1 ≤ hasL s (g0 t k).1) && decide (cntA t (g0 t k).2 ≤ hasL s (g0 t k).2)
def bldTo (s t : List (Int × Int)) : Nat → Bool
  | 0 => true
  | k + 1 => bldTo s t k && bldAt s t k
def bldB (s t : List (Int × Int)) : Bool := bldTo s t t.length
def SCn (t : List (Int × Int)) (x c : Int) (k : Nat) : St := { n := 32, sl := [(0, pl t), (1, iv x), (5, iv c), (6, iv k)], en := [], next := 64 }
theorem cn_start (t : List (Int × Int)) (x : Int)  :
    Tst.path (vrun0 Tryz.prog (ctrs []) (fl BCn []) 3 32 [pl t, iv x]) [] (toSt Tryz.prog 32 .normal [] (SCn t x 0 0)) :=
  mp (an (rr t) (an (rr x) (an (rr ((0 : Int))) (an (rr ((0 : Int))) trivial))))
theorem cn_tt (t : List (Int × Int)) (x c : Int) (k : Nat) (h1 : (↑k : Int) < (↑t.length : Int)) (h2 : k < t.length) (h3 : (List.getD t k ((0 : Int), (0 : Int))).1 = x) (h4 : -9223372036854775808 ≤ c + 1 ∧ c + 1 ≤ 9223372036854775807) (h5 : (List.getD t k ((0 : Int), (0 : Int))).2 = x) (h6 : -9223372036854775808 ≤ c + 1 + 1 ∧ c + 1 + 1 ≤ 9223372036854775807) (h7 : -9223372036854775808 ≤ (↑k : Int) + 1 ∧ (↑k : Int) + 1 ≤ 9223372036854775807) :
    Tst.path (vall Tryz.prog (ctrs []) (fl BCn [1,1,0,1,0,0]) (SCn t x c k)) [true, true, true] (toSt Tryz.prog 32 .normal [] (SCn t x (c + 1 + 1) (k + 1))) :=
  mp (an (decide_eq_true h1) (an (show (decide ((0 : Int) ≤ (↑k : Int))) = true from decide_eq_true (by omega)) (an (decide_eq_true h2) (an (beq_iff_eq.mpr h3) (an (fits_i64 h4) (an (show (decide ((0 : Int) ≤ (↑k : Int))) = true from decide_eq_true (by omega)) (an (decide_eq_true h2) (an (beq_iff_eq.mpr h5) (an (fits_i64 h6) (an (fits_i64 h7) (an (rr t) (an (rr x) (an (rr (c + 1 + 1)) (an (show ((↑k : Int) + 1) = ((↑(k + (1 : Nat)) : Int)) from (by omega)) trivial))))))))))))))
theorem cn_tf (t : List (Int × Int)) (x c : Int) (k : Nat) (h1 : (↑k : Int) < (↑t.length : Int)) (h2 : k < t.length) (h3 : (List.getD t k ((0 : Int), (0 : Int))).1 = x) (h4 : -9223372036854775808 ≤ c + 1 ∧ c + 1 ≤ 9223372036854775807) (h5 : ¬(List.getD t k ((0 : Int), (0 : Int))).2 = x) (h6 : -9223372036854775808 ≤ (↑k : Int) + 1 ∧ (↑k : Int) + 1 ≤ 9223372036854775807) :
    Tst.path (vall Tryz.prog (ctrs []) (fl BCn [1,1,0,1,0,0]) (SCn t x c k)) [true, true, false] (toSt Tryz.prog 32 .normal [] (SCn t x (c + 1) (k + 1))) :=
  mp (an (decide_eq_true h1) (an (show (decide ((0 : Int) ≤ (↑k : Int))) = true from decide_eq_true (by omega)) (an (decide_eq_true h2) (an (beq_iff_eq.mpr h3) (an (fits_i64 h4) (an (show (decide ((0 : Int) ≤ (↑k : Int))) = true from decide_eq_true (by omega)) (an (decide_eq_true h2) (an (beq_eq_false_iff_ne.mpr h5) (an (fits_i64 h6) (an (rr t) (an (rr x) (an (rr (c + 1)) (an (show ((↑k : Int) + 1) = ((↑(k + (1 : Nat)) : Int)) from (by omega)) trivial)))))))))))))
theorem cn_ft (t : List (Int × Int)) (x c : Int) (k : Nat) (h1 : (↑k : Int) < (↑t.length : Int)) (h2 : k < t.length) (h3 : ¬(List.getD t k ((0 : Int), (0 : Int))).1 = x) (h4 : (List.getD t k ((0 : Int), (0 : Int))).2 = x) (h5 : -9223372036854775808 ≤ c + 1 ∧ c + 1 ≤ 9223372036854775807) (h6 : -9223372036854775808 ≤ (↑k : Int) + 1 ∧ (↑k : Int) + 1 ≤ 9223372036854775807) :
    Tst.path (vall Tryz.prog (ctrs []) (fl BCn [1,1,0,1,0,0]) (SCn t x c k)) [true, false, true] (toSt Tryz.prog 32 .normal [] (SCn t x (c + 1) (k + 1))) :=
  mp (an (decide_eq_true h1) (an (show (decide ((0 : Int) ≤ (↑k : Int))) = true from decide_eq_true (by omega)) (an (decide_eq_true h2) (an (beq_eq_false_iff_ne.mpr h3) (an (show (decide ((0 : Int) ≤ (↑k : Int))) = true from decide_eq_true (by omega)) (an (decide_eq_true h2) (an (beq_iff_eq.mpr h4) (an (fits_i64 h5) (an (fits_i64 h6) (an (rr t) (an (rr x) (an (rr (c + 1)) (an (show ((↑k : Int) + 1) = ((↑(k + (1 : Nat)) : Int)) from (by omega)) trivial)))))))))))))
theorem cn_ff (t : List (Int × Int)) (x c : Int) (k : Nat) (h1 : (↑k : Int) < (↑t.length : Int)) (h2 : k < t.length) (h3 : ¬(List.getD t k ((0 : Int), (0 : Int))).1 = x) (h4 : ¬(List.getD t k ((0 : Int), (0 : Int))).2 = x) (h5 : -9223372036854775808 ≤ (↑k : Int) + 1 ∧ (↑k : Int) + 1 ≤ 9223372036854775807) :
    Tst.path (vall Tryz.prog (ctrs []) (fl BCn [1,1,0,1,0,0]) (SCn t x c k)) [true, false, false] (toSt Tryz.prog 32 .normal [] (SCn t x c (k + 1))) :=
  mp (an (decide_eq_true h1) (an (show (decide ((0 : Int) ≤ (↑k : Int))) = true from decide_eq_true (by omega)) (an (decide_eq_true h2) (an (beq_eq_false_iff_ne.mpr h3) (an (show (decide ((0 : Int) ≤ (↑k : Int))) = true from decide_eq_true (by omega)) (an (decide_eq_true h2) (an (beq_eq_false_iff_ne.mpr h4) (an (fits_i64 h5) (an (rr t) (an (rr x) (an (rr c) (an (show ((↑k : Int) + 1) = ((↑(k + (1 : Nat)) : Int)) from (by omega)) trivial))))))))))))
theorem cn_end (t : List (Int × Int)) (x c : Int) (k : Nat) (h1 : ¬(↑k : Int) < (↑t.length : Int)) :
    Tst.path (vall Tryz.prog (ctrs []) (fl BCn [1,1,0,1,0,0]) (SCn t x c k)) [false] (toSt Tryz.prog 32 (.exit 0) [] (SCn t x c k)) :=
  mp (an (decide_eq_false h1) (an (rr t) (an (rr x) (an (rr c) (an (rr ((↑k : Int))) trivial)))))
theorem cn_fin (t : List (Int × Int)) (x c : Int) (k : Nat)  :
    Tst.path (vall Tryz.prog (ctrs []) (List.drop 4 (fl BCn [])) (SCn t x c k)) [] (toRet Tryz.prog Tryz.f86 true (iv c)) :=
  mp (rr c)
theorem cntTo_bd (t : List (Int × Int)) (x : Int) : ∀ k, 0 ≤ cntTo t x k ∧ cntTo t x k ≤ 2 * k
  | 0 => by unfold cntTo; omega
  | k + 1 => by
    have := cntTo_bd t x k
    unfold cntTo cntP
    split <;> split <;> omega
theorem cn_holds (t : List (Int × Int)) (x : Int) (hl : t.length ≤ 1000000) : Holds Tryz.prog true 86 [pl t, iv x] (iv (cntA t x)) := by
  have hS := none_ok
  refine holds_fl (c := BCn) Tryz.func86 rfl rfl fun w F => ?_
  refine GoalL.to known mixed hS 3 _ (cn_start t x) (by kernel_rfl) ?_
  refine GoalL.loop (ι := { k : Nat // k ≤ t.length }) (id := 0) (b := cat BCn [1,1,0,1,0,0]) (rest := List.drop 4 (fl BCn [])) (by kernel_rfl) (fun k => SCn t x (cntTo t x k.1) k.1) (fun k => t.length - k.1) ⟨0, Nat.zero_le _⟩ (fun _ => rfl) ?_
  rintro ⟨k, hk⟩
  have hb := cntTo_bd t x k
  have nx : ∀ c, cntTo t x (k + 1) = c → k < t.length → ∃ j : { k : Nat // k ≤ t.length }, t.length - j.1 < t.length - k ∧ (SCn t x c (k + 1)).T = (SCn t x (cntTo t x j.1) j.1).T ∧ (SCn t x c (k + 1)).H = (SCn t x (cntTo t x j.1) j.1).H := fun c hc hlt =>
    ⟨⟨k + 1, hlt⟩, by simp; omega, by subst hc; rfl, by subst hc; rfl⟩
  by_cases hlt : k < t.length
  · by_cases c1 : (g0 t k).1 = x
    · by_cases c2 : (g0 t k).2 = x
      · exact GoalL.all (s := SCn t x (cntTo t x k) k) known mixed hS _ (cn_tt t x (cntTo t x k) k (by omega) (by omega) c1 (by omega) c2 (by omega) (by omega)) (by kernel_rfl) (nx (cntTo t x k + 1 + 1) (by show cntTo t x k + cntP (g0 t k) x = _; unfold cntP; rw [if_pos c1, if_pos c2]; omega) hlt)
      · exact GoalL.all (s := SCn t x (cntTo t x k) k) known mixed hS _ (cn_tf t x (cntTo t x k) k (by omega) (by omega) c1 (by omega) c2 (by omega)) (by kernel_rfl) (nx (cntTo t x k + 1) (by show cntTo t x k + cntP (g0 t k) x = _; unfold cntP; rw [if_pos c1, if_neg c2]; omega) hlt)
    · by_cases c2 : (g0 t k).2 = x
      · exact GoalL.all (s := SCn t x (cntTo t x k) k) known mixed hS _ (cn_ft t x (cntTo t x k) k (by omega) (by omega) c1 c2 (by omega) (by omega)) (by kernel_rfl) (nx (cntTo t x k + 1) (by show cntTo t x k + cntP (g0 t k) x = _; unfold cntP; rw [if_neg c1, if_pos c2]; omega) hlt)
      · exact GoalL.all (s := SCn t x (cntTo t x k) k) known mixed hS _ (cn_ff t x (cntTo t x k) k (by omega) (by omega) c1 c2 (by omega)) (by kernel_rfl) (nx (cntTo t x k) (by show cntTo t x k + cntP (g0 t k) x = _; unfold cntP; rw [if_neg c1, if_neg c2]; omega) hlt)
  · refine GoalL.all (s := SCn t x (cntTo t x k) k) known mixed hS _ (cn_end t x _ k (by omega)) (by kernel_rfl) ?_
    refine onN_exit (inB_exit ?_)
    obtain rfl : k = t.length := by omega
    exact GoalL.allRet (s := SCn t x _ t.length) known mixed hS _ (cn_fin t x _ _) fun T H h => h
noncomputable def cCn : Ctr := { f := 86, ps := [.list false tP2, .int .i64], rs := [.int .i64], fresh := true, pre := fun d => decide (List.length (α := Int × Int) d.1 ≤ 1000000), fn := fun d => (cntA d.1 d.2.1, ()) }
theorem cCn_ok : cCn.Ok Tryz.prog := fun ⟨t, x, _⟩ h => cn_holds t x (of_decide_eq_true h)
def SHs (s : List (Int × Int)) (x : Int) (k : Nat) : St := { n := 24, sl := [(0, pl s), (1, iv x), (5, iv k)], en := [], next := 64 }
theorem hs_start (s : List (Int × Int)) (x : Int)  :
    Tst.path (vrun0 Tryz.prog (ctrs []) (fl BHs []) 2 24 [pl s, iv x]) [] (toSt Tryz.prog 24 .normal [] (SHs s x 0)) :=
  mp (an (rr s) (an (rr x) (an (rr ((0 : Int))) trivial)))
theorem hs_hit (s : List (Int × Int)) (x : Int) (k : Nat) (h1 : (↑k : Int) < (↑s.length : Int)) (h2 : k < s.length) (h3 : (List.getD s k ((0 : Int), (0 : Int))).1 = x) :
    Tst.path (vall Tryz.prog (ctrs []) (fl BHs [1,0,1,0,0]) (SHs s x k)) [true, true] (toRet Tryz.prog Tryz.f87 true (iv (g0 s k).2)) :=
  mp (an (decide_eq_true h1) (an (show (decide ((0 : Int) ≤ (↑k : Int))) = true from decide_eq_true (by omega)) (an (decide_eq_true h2) (an (beq_iff_eq.mpr h3) (an (show (decide ((0 : Int) ≤ (↑k : Int))) = true from decide_eq_true (by omega)) (an (decide_eq_true h2) (rr (List.getD s k ((0 : Int), (0 : Int))).2)))))))
theorem hs_go (s : List (Int × Int)) (x : Int) (k : Nat) (h1 : (↑k : Int) < (↑s.length : Int)) (h2 : k < s.length) (h3 : ¬(List.getD s k ((0 : Int), (0 : Int))).1 = x) (h4 : -9223372036854775808 ≤ (↑k : Int) + 1 ∧ (↑k : Int) + 1 ≤ 9223372036854775807) :
    Tst.path (vall Tryz.prog (ctrs []) (fl BHs [1,0,1,0,0]) (SHs s x k)) [true, false] (toSt Tryz.prog 24 .normal [] (SHs s x (k + 1))) :=
  mp (an (decide_eq_true h1) (an (show (decide ((0 : Int) ≤ (↑k : Int))) = true from decide_eq_true (by omega)) (an (decide_eq_true h2) (an (beq_eq_false_iff_ne.mpr h3) (an (fits_i64 h4) (an (rr s) (an (rr x) (an (show ((↑k : Int) + 1) = ((↑(k + (1 : Nat)) : Int)) from (by omega)) trivial))))))))
theorem hs_end (s : List (Int × Int)) (x : Int) (k : Nat) (h1 : ¬(↑k : Int) < (↑s.length : Int)) :
    Tst.path (vall Tryz.prog (ctrs []) (fl BHs [1,0,1,0,0]) (SHs s x k)) [false] (toSt Tryz.prog 24 (.exit 0) [] (SHs s x k)) :=
  mp (an (decide_eq_false h1) (an (rr s) (an (rr x) (an (rr ((↑k : Int))) trivial))))
theorem hs_fin (s : List (Int × Int)) (x : Int) (k : Nat)  :
    Tst.path (vall Tryz.prog (ctrs []) (List.drop 3 (fl BHs [])) (SHs s x k)) [] (toRet Tryz.prog Tryz.f87 true (iv 0)) :=
  mp (rr ((0 : Int)))
theorem g0_get {l : List (Int × Int)} {k : Nat} (h : k < l.length) : g0 l k = l[k] := by simp [List.getD_eq_getElem?_getD, h]
theorem hs_holds (s : List (Int × Int)) (x : Int) (hl : s.length ≤ 1000000) : Holds Tryz.prog true 87 [pl s, iv x] (iv (hasL s x)) := by
  have hS := none_ok
  refine holds_fl (c := BHs) Tryz.func87 rfl rfl fun w F => ?_
  refine GoalL.to known mixed hS 2 _ (hs_start s x) (by kernel_rfl) ?_
  refine GoalL.loop (ι := { k : Nat // k ≤ s.length ∧ hasL (s.drop k) x = hasL s x }) (id := 0) (b := cat BHs [1,0,1,0,0]) (rest := List.drop 3 (fl BHs [])) (by kernel_rfl) (fun k => SHs s x k.1) (fun k => s.length - k.1) ⟨0, Nat.zero_le _, by simp⟩ (fun _ => rfl) ?_
  rintro ⟨k, hk, hx⟩
  have hx : hasL (s.drop k) x = hasL s x := hx
  by_cases hlt : k < s.length
  · rw [List.drop_eq_getElem_cons hlt, hasL, ← g0_get hlt] at hx
    by_cases c1 : (g0 s k).1 = x
    · rw [if_pos c1] at hx
      refine GoalL.allRet (s := SHs s x k) known mixed hS _ (hs_hit s x k (by omega) (by omega) c1) fun T H h => ?_
      have h2 : retQ Tryz.prog true Tryz.f87 (iv (hasL s x)) .ret T H := by rw [← hx]; exact h
      exact h2
    · rw [if_neg c1] at hx
      refine GoalL.all (s := SHs s x k) known mixed hS _ (hs_go s x k (by omega) (by omega) c1 (by omega)) (by kernel_rfl) ?_
      exact ⟨⟨k + 1, hlt, hx⟩, by simp; omega, rfl, rfl⟩
  · refine GoalL.all (s := SHs s x k) known mixed hS _ (hs_end s x k (by omega)) (by kernel_rfl) ?_
    refine onN_exit (inB_exit ?_)
    obtain rfl : k = s.length := by omega
    rw [List.drop_length, hasL] at hx
    refine GoalL.allRet (s := SHs s x s.length) known mixed hS _ (hs_fin s x _) fun T H h => ?_
    have h2 : retQ Tryz.prog true Tryz.f87 (iv (hasL s x)) .ret T H := by rw [← hx]; exact h
    exact h2
noncomputable def cHs : Ctr := { f := 87, ps := [.list false tP2, .int .i64], rs := [.int .i64], fresh := true, pre := fun d => decide (List.length (α := Int × Int) d.1 ≤ 1000000), fn := fun d => (hasL d.1 d.2.1, ()) }
theorem cHs_ok : cHs.Ok Tryz.prog := fun ⟨t, x, _⟩ h => hs_holds t x (of_decide_eq_true h)
noncomputable def bdCs : VCaller := ctrs [cCn, cHs]
def SBd (s t : List (Int × Int)) (k : Nat) : St := { n := 44, sl := [(0, pl s), (1, pl t), (5, iv k)], en := [], next := 64 }
theorem bd_start (s t : List (Int × Int))  :
    Tst.path (vrun0 Tryz.prog bdCs (fl BBd []) 2 44 [pl s, pl t]) [] (toSt Tryz.prog 44 .normal [] (SBd s t 0)) :=
  mp (an (rr s) (an (rr t) (an (rr ((0 : Int))) trivial)))
theorem bd_h1 (s t : List (Int × Int)) (k : Nat) (h1 : (↑k : Int) < (↑t.length : Int)) (h2 : k < t.length) (h3 : t.length ≤ (1000000 : Nat)) (h4 : s.length ≤ (1000000 : Nat)) (h5 : cntA t (List.getD t k ((0 : Int), (0 : Int))).1 > hasL s (List.getD t k ((0 : Int), (0 : Int))).1) :
    Tst.path (vall Tryz.prog bdCs (fl BBd [1,0,1,0,0]) (SBd s t k)) [true, false, false, false, false, false, false, false, false, false, false, false, false, false, false, false, true, true] (toRet Tryz.prog Tryz.f34 true (bv false)) :=
  mp (an (decide_eq_true h1) (an (show (decide ((0 : Int) ≤ (↑k : Int))) = true from decide_eq_true (by omega)) (an (decide_eq_true h2) (an (sr (iv (List.getD t k ((0 : Int), (0 : Int))).1)) (an (decide_eq_true h3) (an (show (decide ((0 : Int) ≤ (↑k : Int))) = true from decide_eq_true (by omega)) (an (decide_eq_true h2) (an (sr (iv (List.getD t k ((0 : Int), (0 : Int))).1)) (an (sr (iv (List.getD t k ((0 : Int), (0 : Int))).1)) (an (decide_eq_true h4) (an (bF (decide_eq_true h5)) (an (bF (decide_eq_true h5)) (an (bF (decide_eq_true h5)) (an (bF (decide_eq_true h5)) (an (bF (decide_eq_true h5)) (an (bF (decide_eq_true h5)) (an (bF (decide_eq_true h5)) (an (bF (decide_eq_true h5)) (an (bF (decide_eq_true h5)) (an (bF (decide_eq_true h5)) (an (bF (decide_eq_true h5)) (an (bF (decide_eq_true h5)) (an (bF (decide_eq_true h5)) (an (bF (decide_eq_true h5)) (an (bF (decide_eq_true h5)) (an (decide_eq_true h5) (an rt rf)))))))))))))))))))))))))))
theorem bd_h2 (s t : List (Int × Int)) (k : Nat) (h1 : (↑k : Int) < (↑t.length : Int)) (h2 : k < t.length) (h3 : t.length ≤ (1000000 : Nat)) (h4 : s.length ≤ (1000000 : Nat)) (h5 : ¬cntA t (List.getD t k ((0 : Int), (0 : Int))).1 > hasL s (List.getD t k ((0 : Int), (0 : Int))).1) (h6 : cntA t (List.getD t k ((0 : Int), (0 : Int))).2 > hasL s (List.getD t k ((0 : Int), (0 : Int))).2) :
    Tst.path (vall Tryz.prog bdCs (fl BBd [1,0,1,0,0]) (SBd s t k)) [true, true, true, true, true, true, true, true, true, true, true, true, true, true, true, true, false, true] (toRet Tryz.prog Tryz.f34 true (bv false)) :=
  mp (an (decide_eq_true h1) (an (show (decide ((0 : Int) ≤ (↑k : Int))) = true from decide_eq_true (by omega)) (an (decide_eq_true h2) (an (sr (iv (List.getD t k ((0 : Int), (0 : Int))).1)) (an (decide_eq_true h3) (an (show (decide ((0 : Int) ≤ (↑k : Int))) = true from decide_eq_true (by omega)) (an (decide_eq_true h2) (an (sr (iv (List.getD t k ((0 : Int), (0 : Int))).1)) (an (sr (iv (List.getD t k ((0 : Int), (0 : Int))).1)) (an (decide_eq_true h4) (an (bF (decide_eq_false h5)) (an (bF (decide_eq_false h5)) (an (bF (decide_eq_false h5)) (an (bF (decide_eq_false h5)) (an (show (decide ((0 : Int) ≤ (↑k : Int))) = true from decide_eq_true (by omega)) (an (decide_eq_true h2) (an (bF (decide_eq_false h5)) (an (bF (decide_eq_false h5)) (an (sr (iv (List.getD t k ((0 : Int), (0 : Int))).2)) (an (bF (decide_eq_false h5)) (an (decide_eq_true h3) (an (bF (decide_eq_false h5)) (an (bF (decide_eq_false h5)) (an (bF (decide_eq_false h5)) (an (bF (decide_eq_false h5)) (an (show (decide ((0 : Int) ≤ (↑k : Int))) = true from decide_eq_true (by omega)) (an (decide_eq_true h2) (an (bF (decide_eq_false h5)) (an (bF (decide_eq_false h5)) (an (sr (iv (List.getD t k ((0 : Int), (0 : Int))).2)) (an (sr (iv (List.getD t k ((0 : Int), (0 : Int))).2)) (an (bF (decide_eq_false h5)) (an (decide_eq_true h4) (an (bF (decide_eq_false h5)) (an (decide_eq_false h5) (an (decide_eq_true h6) rf))))))))))))))))))))))))))))))))))))
theorem bd_go (s t : List (Int × Int)) (k : Nat) (h1 : (↑k : Int) < (↑t.length : Int)) (h2 : k < t.length) (h3 : t.length ≤ (1000000 : Nat)) (h4 : s.length ≤ (1000000 : Nat)) (h5 : ¬cntA t (List.getD t k ((0 : Int), (0 : Int))).1 > hasL s (List.getD t k ((0 : Int), (0 : Int))).1) (h6 : ¬cntA t (List.getD t k ((0 : Int), (0 : Int))).2 > hasL s (List.getD t k ((0 : Int), (0 : Int))).2) (h7 : -9223372036854775808 ≤ (↑k : Int) + 1 ∧ (↑k : Int) + 1 ≤ 9223372036854775807) :
    Tst.path (vall Tryz.prog bdCs (fl BBd [1,0,1,0,0]) (SBd s t k)) [true, true, true, true, true, true, true, true, true, true, true, true, true, true, true, true, false, false] (toSt Tryz.prog 44 .normal [] (SBd s t (k + 1))) :=
  mp (an (decide_eq_true h1) (an (show (decide ((0 : Int) ≤ (↑k : Int))) = true from decide_eq_true (by omega)) (an (decide_eq_true h2) (an (sr (iv (List.getD t k ((0 : Int), (0 : Int))).1)) (an (decide_eq_true h3) (an (show (decide ((0 : Int) ≤ (↑k : Int))) = true from decide_eq_true (by omega)) (an (decide_eq_true h2) (an (sr (iv (List.getD t k ((0 : Int), (0 : Int))).1)) (an (sr (iv (List.getD t k ((0 : Int), (0 : Int))).1)) (an (decide_eq_true h4) (an (bF (decide_eq_false h5)) (an (bF (decide_eq_false h5)) (an (bF (decide_eq_false h5)) (an (bF (decide_eq_false h5)) (an (show (decide ((0 : Int) ≤ (↑k : Int))) = true from decide_eq_true (by omega)) (an (decide_eq_true h2) (an (bF (decide_eq_false h5)) (an (bF (decide_eq_false h5)) (an (sr (iv (List.getD t k ((0 : Int), (0 : Int))).2)) (an (bF (decide_eq_false h5)) (an (decide_eq_true h3) (an (bF (decide_eq_false h5)) (an (bF (decide_eq_false h5)) (an (bF (decide_eq_false h5)) (an (bF (decide_eq_false h5)) (an (show (decide ((0 : Int) ≤ (↑k : Int))) = true from decide_eq_true (by omega)) (an (decide_eq_true h2) (an (bF (decide_eq_false h5)) (an (bF (decide_eq_false h5)) (an (sr (iv (List.getD t k ((0 : Int), (0 : Int))).2)) (an (sr (iv (List.getD t k ((0 : Int), (0 : Int))).2)) (an (bF (decide_eq_false h5)) (an (decide_eq_true h4) (an (bF (decide_eq_false h5)) (an (decide_eq_false h5) (an (decide_eq_false h6) (an (fits_i64 h7) (an (rr s) (an (rr t) (an (show ((↑k : Int) + 1) = ((↑(k + (1 : Nat)) : Int)) from (by omega)) trivial))))))))))))))))))))))))))))))))))))))))
theorem bd_end (s t : List (Int × Int)) (k : Nat) (h1 : ¬(↑k : Int) < (↑t.length : Int)) :
    Tst.path (vall Tryz.prog bdCs (fl BBd [1,0,1,0,0]) (SBd s t k)) [false] (toSt Tryz.prog 44 (.exit 0) [] (SBd s t k)) :=
  mp (an (decide_eq_false h1) (an (rr s) (an (rr t) (an (rr ((↑k : Int))) trivial))))
theorem bd_fin (s t : List (Int × Int)) (k : Nat)  :
    Tst.path (vall Tryz.prog bdCs (List.drop 3 (fl BBd [])) (SBd s t k)) [] (toRet Tryz.prog Tryz.f34 true (bv true)) :=
  mp rt
theorem bdCs_ok : CallOk Tryz.prog (gS bdCs) := ctrs_ok fun c hc => by
  simp only [List.mem_cons, List.not_mem_nil, or_false] at hc
  rcases hc with rfl | rfl
  · exact cCn_ok
  · exact cHs_ok
theorem bldTo_false {s t : List (Int × Int)} : ∀ {n k : Nat}, k < n → bldAt s t k = false → bldTo s t n = false
  | n + 1, k, h, hb => by
    unfold bldTo
    by_cases hk : k = n
    · subst hk; rw [hb, Bool.and_false]
    · rw [bldTo_false (by omega) hb, Bool.false_and]
theorem bd_holds (s t : List (Int × Int)) (hs : s.length ≤ 1000000) (ht : t.length ≤ 1000000) : Holds Tryz.prog true 34 [pl s, pl t] (bv (bldB s t)) := by
  have hS := bdCs_ok
  refine holds_fl (c := BBd) Tryz.func34 rfl rfl fun w F => ?_
  refine GoalL.to known mixed hS 2 _ (bd_start s t) (by kernel_rfl) ?_
  refine GoalL.loop (ι := { k : Nat // k ≤ t.length ∧ bldTo s t k = true }) (id := 0) (b := cat BBd [1,0,1,0,0]) (rest := List.drop 3 (fl BBd [])) (by kernel_rfl) (fun k => SBd s t k.1) (fun k => t.length - k.1) ⟨0, Nat.zero_le _, rfl⟩ (fun _ => rfl) ?_
  rintro ⟨k, hk, hx⟩
  have hx : bldTo s t k = true := hx
  by_cases hlt : k < t.length
  · have bad : bldAt s t k = false → ∀ T H, retQ Tryz.prog true Tryz.f34 (bv false) .ret T H → retQ Tryz.prog true Tryz.f34 (bv (bldB s t)) .ret T H := fun hb T H h => by
      have e : bldB s t = false := bldTo_false hlt hb
      rw [e]; exact h
    by_cases c1 : cntA t (g0 t k).1 > hasL s (g0 t k).1
    · exact GoalL.allRet (s := SBd s t k) known mixed hS _ (bd_h1 s t k (by omega) (by omega) ht hs c1) fun T H h => bad (by unfold bldAt; rw [decide_eq_false (by omega)]; rfl) T H h
    · by_cases c2 : cntA t (g0 t k).2 > hasL s (g0 t k).2
      · exact GoalL.allRet (s := SBd s t k) known mixed hS _ (bd_h2 s t k (by omega) (by omega) ht hs c1 c2) fun T H h => bad (by unfold bldAt; rw [decide_eq_false (p := cntA t (g0 t k).2 ≤ hasL s (g0 t k).2) (by omega), Bool.and_false]) T H h
      · refine GoalL.all (s := SBd s t k) known mixed hS _ (bd_go s t k (by omega) (by omega) ht hs c1 c2 (by omega)) (by kernel_rfl) ?_
        exact ⟨⟨k + 1, hlt, by unfold bldTo bldAt; rw [hx, decide_eq_true (show cntA t (g0 t k).1 ≤ hasL s (g0 t k).1 by omega), decide_eq_true (show cntA t (g0 t k).2 ≤ hasL s (g0 t k).2 by omega)]; rfl⟩, by simp; omega, rfl, rfl⟩
  · refine GoalL.all (s := SBd s t k) known mixed hS _ (bd_end s t k (by omega)) (by kernel_rfl) ?_
    refine onN_exit (inB_exit ?_)
    obtain rfl : k = t.length := by omega
    refine GoalL.allRet (s := SBd s t t.length) known mixed hS _ (bd_fin s t _) fun T H h => ?_
    have h2 : retQ Tryz.prog true Tryz.f34 (bv (bldB s t)) .ret T H := by unfold bldB; rw [hx]; exact h
    exact h2
noncomputable def cBd : Ctr := { f := 34, ps := [.list false tP2, .list false tP2], rs := [.bool], fresh := true, pre := fun d => decide (List.length (α := Int × Int) d.1 ≤ 1000000) && decide (List.length (α := Int × Int) d.2.1 ≤ 1000000), fn := fun d => (bldB d.1 d.2.1, ()) }
theorem cBd_ok : cBd.Ok Tryz.prog := fun ⟨s, t, _⟩ h => by
  have h : (decide (List.length (α := Int × Int) s ≤ 1000000) && decide (List.length (α := Int × Int) t ≤ 1000000)) = true := h
  rw [Bool.and_eq_true, decide_eq_true_eq, decide_eq_true_eq] at h
  exact bd_holds s t h.1 h.2
def firstI : List Int → Int
  | [] => 0
  | x :: l => if x ≠ 0 then x else firstI l
noncomputable def BFi : Code := (Tryz.f17.body).getD .skip
def SFi (l : List Int) (k : Nat) : St := { n := 19, sl := [(0, lv l), (3, iv k)], en := [], next := 64 }
theorem fi_start (l : List Int)  :
    Tst.path (vrun0 Tryz.prog (ctrs []) (fl BFi []) 2 19 [lv l]) [] (toSt Tryz.prog 19 .normal [] (SFi l 0)) :=
  mp (an (rr l) (an (rr ((0 : Int))) trivial))
theorem fi_hit (l : List Int) (k : Nat) (h1 : (↑k : Int) < (↑l.length : Int)) (h2 : k < l.length) (h3 : ¬List.getD l k (0 : Int) = 0) :
    Tst.path (vall Tryz.prog (ctrs []) (fl BFi [1,0,1,0,0]) (SFi l k)) [true, true] (toRet Tryz.prog Tryz.f17 true (iv (l.getD k 0))) :=
  mp (an (decide_eq_true h1) (an (show (decide ((0 : Int) ≤ (↑k : Int))) = true from decide_eq_true (by omega)) (an (decide_eq_true h2) (an (bne_iff_ne.mpr h3) (an (show (decide ((0 : Int) ≤ (↑k : Int))) = true from decide_eq_true (by omega)) (an (decide_eq_true h2) (rr (List.getD l k (0 : Int)))))))))
theorem fi_go (l : List Int) (k : Nat) (h1 : (↑k : Int) < (↑l.length : Int)) (h2 : k < l.length) (h3 : List.getD l k (0 : Int) = 0) (h4 : -9223372036854775808 ≤ (↑k : Int) + 1 ∧ (↑k : Int) + 1 ≤ 9223372036854775807) :
    Tst.path (vall Tryz.prog (ctrs []) (fl BFi [1,0,1,0,0]) (SFi l k)) [true, false] (toSt Tryz.prog 19 .normal [] (SFi l (k + 1))) :=
  mp (an (decide_eq_true h1) (an (show (decide ((0 : Int) ≤ (↑k : Int))) = true from decide_eq_true (by omega)) (an (decide_eq_true h2) (an (bne_eq_false_iff_eq.mpr h3) (an (fits_i64 h4) (an (rr l) (an (show ((↑k : Int) + 1) = ((↑(k + (1 : Nat)) : Int)) from (by omega)) trivial)))))))
theorem fi_end (l : List Int) (k : Nat) (h1 : ¬(↑k : Int) < (↑l.length : Int)) :
    Tst.path (vall Tryz.prog (ctrs []) (fl BFi [1,0,1,0,0]) (SFi l k)) [false] (toSt Tryz.prog 19 (.exit 0) [] (SFi l k)) :=
  mp (an (decide_eq_false h1) (an (rr l) (an (rr ((↑k : Int))) trivial)))
theorem fi_fin (l : List Int) (k : Nat)  :
    Tst.path (vall Tryz.prog (ctrs []) (List.drop 3 (fl BFi [])) (SFi l k)) [] (toRet Tryz.prog Tryz.f17 true (iv 0)) :=
  mp (rr ((0 : Int)))
theorem fi_holds (l : List Int) (hl : l.length ≤ 1000000) : Holds Tryz.prog true 17 [lv l] (iv (firstI l)) := by
  have hS := none_ok
  refine holds_fl (c := BFi) Tryz.func17 rfl rfl fun w F => ?_
  refine GoalL.to known mixed hS 2 _ (fi_start l) (by kernel_rfl) ?_
  refine GoalL.loop (ι := { k : Nat // k ≤ l.length ∧ firstI (l.drop k) = firstI l }) (id := 0) (b := cat BFi [1,0,1,0,0]) (rest := List.drop 3 (fl BFi [])) (by kernel_rfl) (fun k => SFi l k.1) (fun k => l.length - k.1) ⟨0, Nat.zero_le _, by simp⟩ (fun _ => rfl) ?_
  rintro ⟨k, hk, hx⟩
  have hx : firstI (l.drop k) = firstI l := hx
  by_cases hlt : k < l.length
  · rw [List.drop_eq_getElem_cons hlt, firstI, ← getD_lt hlt] at hx
    by_cases c1 : l.getD k 0 = 0
    · rw [if_neg (by simpa using c1)] at hx
      refine GoalL.all (s := SFi l k) known mixed hS _ (fi_go l k (by omega) (by omega) c1 (by omega)) (by kernel_rfl) ?_
      exact ⟨⟨k + 1, hlt, hx⟩, by simp; omega, rfl, rfl⟩
    · rw [if_pos c1] at hx
      refine GoalL.allRet (s := SFi l k) known mixed hS _ (fi_hit l k (by omega) (by omega) c1) fun T H h => ?_
      have h2 : retQ Tryz.prog true Tryz.f17 (iv (firstI l)) .ret T H := by rw [← hx]; exact h
      exact h2
  · refine GoalL.all (s := SFi l k) known mixed hS _ (fi_end l k (by omega)) (by kernel_rfl) ?_
    refine onN_exit (inB_exit ?_)
    obtain rfl : k = l.length := by omega
    rw [List.drop_length, firstI] at hx
    refine GoalL.allRet (s := SFi l l.length) known mixed hS _ (fi_fin l _) fun T H h => ?_
    have h2 : retQ Tryz.prog true Tryz.f17 (iv (firstI l)) .ret T H := by rw [← hx]; exact h
    exact h2
noncomputable def cFi : Ctr := { f := 17, ps := [.list false (.int .i64)], rs := [.int .i64], fresh := true, pre := fun d => decide (List.length (α := Int) d.1 ≤ 1000000), fn := fun d => (firstI d.1, ()) }
theorem cFi_ok : cFi.Ok Tryz.prog := fun ⟨l, _⟩ h => fi_holds l (of_decide_eq_true h)
end
end Go.Proofs.YtjcbbabaabcdgaaGreatDoor
/- Package gear: counted: the stock as a map. -/
namespace Go.Proofs.YtjcbbabaabcdgaaGreatDoor
open Go.RowKit Sv
set_option linter.unusedVariables false
set_option linter.unusedSimpArgs false
noncomputable section
structure PRow (w : World) (A : Option Addr) (l : List (Int × Int)) : Prop where
  at_ : ∀ k, k < l.length → ∃ b off, A = some ⟨b, off, none⟩ ∧ b < w.heap.size ∧ w.cell? ⟨b, off + k * 2, none⟩ = some (.int .i64 (g0 l k).1) ∧ w.cell? ⟨b, off + k * 2 + 1, none⟩ = some (.int .i64 (g0 l k).2)
theorem PRow.below {w w' : World} {A : Option Addr} {l : List (Int × Int)} {n : Nat} (h : PRow w A l) (hb : Below n w w') (hn : w.heap.size ≤ n) : PRow w' A l :=
  ⟨fun k hk => by
    obtain ⟨b, off, h1, h2, h3, h4⟩ := h.at_ k hk
    have := hb.size
    exact ⟨b, off, h1, by omega, (hb.cell (p := ⟨b, off + k * 2, none⟩) (by show b < _; omega)).trans h3, (hb.cell (p := ⟨b, off + k * 2 + 1, none⟩) (by show b < _; omega)).trans h4⟩⟩
theorem flat_at {ρ : Env} : ∀ {l : List (Int × Int)} {ys : List Value}, Dens ρ (tP2.flat l) ys → ∀ k, k < l.length → ys[k * 2]? = some (.int .i64 (g0 l k).1) ∧ ys[k * 2 + 1]? = some (.int .i64 (g0 l k).2)
  | p :: r, ys, h, k, hk => by
    have e : tP2.flat (p :: r) = .raw (.int .i64 p.1) :: .raw (.int .i64 p.2) :: tP2.flat r := rfl
    rw [e] at h
    obtain ⟨y1, y2, ys, rfl⟩ : ∃ y1 y2 zs, ys = y1 :: y2 :: zs := by
      cases h with | cons _ h2 => cases h2 with | cons _ _ => exact ⟨_, _, _, rfl⟩
    cases h with | cons g1 h2 => cases h2 with | cons g2 h3 =>
    cases k with
    | zero =>
      cases g1; cases g2
      exact ⟨rfl, rfl⟩
    | succ k =>
      have := flat_at (l := r) h3 k (by simpa using hk)
      rw [show (k + 1) * 2 = k * 2 + 1 + 1 by omega]
      simpa using this
theorem flat_len : ∀ l : List (Int × Int), (tP2.flat l).length = 2 * l.length
  | [] => rfl
  | p :: r => by
    have e : tP2.flat (p :: r) = .raw (.int .i64 p.1) :: .raw (.int .i64 p.2) :: tP2.flat r := rfl
    rw [e]; simp [flat_len r]; omega
theorem den_prow {w : World} {F : Env} {l : List (Int × Int)} {x : Value} (hF : OkF w F) (h : Den F (pl l) x) : ∃ A c, x = .slice A l.length c ∧ PRow w A l := by
  cases h with
  | lstNil hz => exact ⟨_, _, rfl, ⟨fun k hk => by cases hk⟩⟩
  | @lst z t xs b off k A ys h ho hy hd hk hz =>
    refine ⟨_, _, rfl, ⟨fun j hj => ?_⟩⟩
    obtain ⟨e, fr, hb⟩ := hF.fz b A h
    have := flat_at hd j hj
    have hl := flat_len l
    subst hy
    rw [List.getElem?_take_of_lt (by omega), List.getElem?_take_of_lt (by omega), List.getElem?_drop, List.getElem?_drop] at this
    refine ⟨b, off, rfl, (Array.getElem?_eq_some_iff.1 hb).1, ?_, ?_⟩
    · rw [← this.1]; unfold World.cell?; simp [hb]
    · rw [← this.2]; unfold World.cell?; simp [hb, Nat.add_assoc]
def mapTo (s : List (Int × Int)) : Nat → Int → Int
  | 0 => fun _ => 0
  | k + 1 => upd1 (mapTo s k) (g0 s k).1 (g0 s k).2
set_option maxRecDepth 100000 in
set_option maxHeartbeats 4000000 in
theorem counted_any (A : Option Addr) (c : Nat) (s : List (Int × Int)) (w : World) (h : PRow w A s) (hl : s.length ≤ 32) (hi : ∀ k, k < s.length → J64 (g0 s k).1 ∧ J64 (g0 s k).2) :
    Calls Tryz.prog 88 #[.slice A s.length c] w fun e w' => e = .returned (.map (some w.heap.size)) ∧ IntMap w' w.heap.size s.length (mapTo s s.length) ∧ Below w.heap.size w w' := by
  have H := Lib.hid h
  have HI := Lib.hid hi
  clear h hi
  have hmm := @run_makeMap Tryz.prog
  go_enter Tryz.func88, Tryz.ntmps88
  go_wp2_with fail
  go_loopw [9] (fun i wr => ∃ k : Nat, k ≤ s.length ∧ i = .int .i64 k ∧ IntMap wr w.heap.size k (mapTo s k) ∧ Below w.heap.size w wr) (fun i _ => s.length - (intOf i).toNat)
  case atStart => exact ⟨0, Nat.zero_le _, rfl, IntMap.made w, (Below.refl _ w).alloc (Nat.le_refl _) _⟩
  case round =>
    obtain ⟨k, hk, rfl, hset, eb⟩ := hrel
    have hsz := eb.size
    have hlt2 := hset.lt
    by_cases hlt : k < s.length
    · obtain ⟨b, off, rfl, hbB, hc1, hc2⟩ := H.out.at_ k hlt
      have hk1 := (eb.cell (p := ⟨b, off + k * 2, none⟩) (by show b < _; omega)).trans hc1
      have hk2 := (eb.cell (p := ⟨b, off + k * 2 + 1, none⟩) (by show b < _; omega)).trans hc2
      have hix := HI.out k hlt
      have hf : mapTo s (k + 1) = upd1 (mapTo s k) (g0 s k).1 (g0 s k).2 := rfl
      obtain ⟨p1, hp1⟩ : ∃ p, (g0 s k).1 = p := ⟨_, rfl⟩
      obtain ⟨p2, hp2⟩ : ∃ p, (g0 s k).2 = p := ⟨_, rfl⟩
      rw [hp1, hp2] at hix hf
      rw [hp1] at hk1
      rw [hp2] at hk2
      have HF := Lib.hid hf
      have HS := Lib.hid (show IntMap (wr.alloc (.cells #[.int .i64 p1, .int .i64 p2] 117)) w.heap.size k (mapTo s k) from hset.kept (World.grownBy_alloc _ _ none) (by simp))
      have HE := Lib.hid (eb.alloc (Nat.le_of_lt hlt2) (.cells #[.int .i64 p1, .int .i64 p2] 117))
      clear hc1 hc2 hset hf hp1 hp2 eb
      go_wp2_with (at_mapUpdate; refine wpList_put_map rfl _ _ _ rfl w.heap.size k (mapTo s k) rfl HS.out p1 p2 rfl hix.1 rfl hix.2 (by omega) ?_; intro w1 h1 hg1; have H1 := Lib.hid h1; clear h1; have HG := Lib.hid hg1; clear hg1)
      go_roundw
      case rel => exact ⟨k + 1, by omega, by go_num, HF.out ▸ H1.out, HE.out.grown HG.out (by simp; omega) fun j hj => by cases hj; exact Nat.le_refl _⟩
      case measure => simp [intOf]; omega
    · obtain rfl : k = s.length := by omega
      go_wp2_with fail
      go_ret
      exact ⟨rfl, hset, eb⟩
end
end Go.Proofs.YtjcbbabaabcdgaaGreatDoor
/- Package gear: CheckTrain. -/
namespace Go.Proofs.YtjcbbabaabcdgaaGreatDoor
open Go.RowKit Sv
set_option linter.unusedVariables false
set_option linter.unusedSimpArgs false
noncomputable section
theorem holds_rawG {f : FuncId} {args : List AV} {v : Value} {fresh : Bool} (h : ∀ (w : World) (F : Env) (xs : List Value), OkF w F → Sv.Grd F → Dens F args xs → Calls Tryz.prog f xs.toArray w fun e w' => e = .returned v ∧ Below w.heap.size w w') : Holds Tryz.prog fresh f args (.raw v) := fun w F xs hF hG hd =>
  (h w F xs hF hG hd).mono fun e w' ⟨h1, h2⟩ => ⟨v, ⟨F.at', fun _ => none⟩, h1, .raw v, ⟨hF.glob, hF.all, fun b A h => by cases h⟩, (fun b A h => by cases h), h2⟩
theorem okF_below {w w' : World} {F : Env} (h : OkF w F) (hb : Below w.heap.size w w') : OkF w' F := ⟨h.glob, h.all, fun b A h2 => by
  obtain ⟨e, fr, h3⟩ := h.fz b A h2
  exact ⟨e, fr, (hb.block b (Array.getElem?_eq_some_iff.1 h3).1).trans h3⟩⟩
theorem raw_calls {f : FuncId} {v : AV} {r : Int} {x : Value} {w : World} {F : Env} (h : Holds Tryz.prog true f [v] (iv r)) (hF : OkF w F) (hG : Sv.Grd F) (hd : Den F v x) : Calls Tryz.prog f #[x] w fun e w' => e = .returned (.int .i64 r) ∧ Below w.heap.size w w' :=
  (h w F [x] hF hG (.cons hd .nil)).mono fun e w' ⟨y, F', h1, h2, _, _, h5⟩ => by
    cases h2
    exact ⟨h1, h5⟩
def runT : List (Int × Int) → (Int → Int) → Bool
  | [], _ => true
  | p :: r, f => if f p.1 = 0 then false else if upd1 f p.1 (f p.1 - 1) p.2 = 0 then false else runT r (upd1 (upd1 f p.1 (f p.1 - 1)) p.2 (upd1 f p.1 (f p.1 - 1) p.2 - 1))
def ctErr (s t : List (Int × Int)) : Int := if stkErr s ≠ 0 then stkErr s else if trnErr t ≠ 0 then trnErr t else if runT t (mapTo s s.length) = true then 0 else 23
theorem stkFrom_in {s : List (Int × Int)} : ∀ {n k : Nat}, stkFrom s n k = 0 → ∀ j, k ≤ j → j < k + n → stkAt s j = 0
  | 0, k, h, j, h1, h2 => absurd h2 (by omega)
  | n + 1, k, h, j, h1, h2 => by
    unfold stkFrom at h
    split at h
    · contradiction
    · rename_i h3
      by_cases e : j = k
      · subst e; simpa using h3
      · exact stkFrom_in h j (by omega) (by omega)
theorem stk_in {s : List (Int × Int)} (h : stkErr s = 0) : 1 ≤ s.length ∧ s.length ≤ 32 ∧ ∀ k, k < s.length → (6 ≤ (g0 s k).1 ∧ (g0 s k).1 ≤ 400) ∧ (1 ≤ (g0 s k).2 ∧ (g0 s k).2 ≤ 999999999) ∧ (0 < k → (g0 s (k - 1)).1 < (g0 s k).1) := by
  unfold stkErr at h
  split at h
  · cases h
  · split at h
    · cases h
    · refine ⟨by omega, by omega, fun k hk => ?_⟩
      have := stkFrom_in h k (by omega) (by omega)
      unfold stkAt wOut at this
      split at this
      · cases this
      · rename_i h3
        split at this
        · cases this
        · rename_i h4
          simp only [Bool.or_eq_true, decide_eq_true_eq, not_or, Int.not_lt, gt_iff_lt] at h3
          exact ⟨⟨h3.1, h3.2.1⟩, ⟨h3.2.2.1, h3.2.2.2⟩, fun h5 => by
            have h6 : ¬ (g0 s k).1 ≤ (g0 s (k - 1)).1 := fun h7 => h4 ⟨h5, h7⟩
            omega⟩
theorem trnFrom_in {s : List (Int × Int)} : ∀ {n k : Nat}, trnFrom s n k = 0 → ∀ j, k ≤ j → j < k + n → pOut (g0 s j) = false
  | 0, k, h, j, h1, h2 => absurd h2 (by omega)
  | n + 1, k, h, j, h1, h2 => by
    unfold trnFrom at h
    split at h
    · cases h
    · rename_i h3
      by_cases e : j = k
      · subst e; simpa using h3
      · exact trnFrom_in h j (by omega) (by omega)
theorem trn_in {s : List (Int × Int)} (h : trnErr s = 0) : s.length ≤ 4 ∧ ∀ k, k < s.length → (1 ≤ (g0 s k).1 ∧ (g0 s k).1 ≤ 400) ∧ (1 ≤ (g0 s k).2 ∧ (g0 s k).2 ≤ 400) := by
  unfold trnErr at h
  split at h
  · cases h
  · refine ⟨by omega, fun k hk => ?_⟩
    have := trnFrom_in h k (by omega) (by omega)
    unfold pOut at this
    simp only [Bool.or_eq_false_iff, decide_eq_false_iff_not, Int.not_lt, gt_iff_lt] at this
    exact ⟨⟨this.1, this.2.1⟩, ⟨this.2.2.1, this.2.2.2⟩⟩
theorem mapTo_in {s : List (Int × Int)} : ∀ (n : Nat), (∀ k, k < n → 1 ≤ (g0 s k).2 ∧ (g0 s k).2 ≤ 999999999) → ∀ x, 0 ≤ mapTo s n x ∧ mapTo s n x ≤ 1000000000
  | 0, _, x => by show 0 ≤ (0 : Int) ∧ (0 : Int) ≤ 1000000000; omega
  | n + 1, h, x => by
    have h1 := mapTo_in n (fun k hk => h k (by omega)) x
    have h2 := h n (by omega)
    show 0 ≤ upd1 (mapTo s n) (g0 s n).1 (g0 s n).2 x ∧ upd1 (mapTo s n) (g0 s n).1 (g0 s n).2 x ≤ 1000000000
    unfold upd1
    split <;> omega
theorem upd_in {f : Int → Int} (h : ∀ x, 0 ≤ f x ∧ f x ≤ 1000000000) (k : Int) (hk : f k ≠ 0) : ∀ x, 0 ≤ upd1 f k (f k - 1) x ∧ upd1 f k (f k - 1) x ≤ 1000000000 := fun x => by
  have h1 := h x
  have h2 := h k
  unfold upd1
  split <;> omega
theorem cell_after {wr w4 : World} {mB : Nat} {x y : Value} {t : TypeId} (hg : (wr.alloc (.cells #[x, y] t)).grownBy w4 (some mB)) (h : mB < wr.heap.size) : w4.cell? ⟨wr.heap.size, 1, none⟩ = some y := by
  have h1 := hg.block wr.heap.size (by simp) (by simp; omega)
  rw [World.cell?_of_block (w := wr.alloc (.cells #[x, y] t)) h1]
  have h2 := heap_alloc_new wr (.cells #[x, y] t)
  unfold World.cell?
  rw [h2]
  rfl
theorem ret_j {a b : Int} (h : a = b) : Ending.returned (.int .i64 a) = .returned (.int .i64 b) := by rw [h]
theorem take_no {b n : Nat} {f : Int → Int} {k : Int} {w : World} (h : IntMap w b n f) (hk : J64 k) (hf : 0 ≤ f k ∧ f k ≤ 1000000000) (hn : n ≤ 100000) (h0 : f k = 0) :
    Calls Tryz.prog 89 #[.map (some b), .int .i64 k] w fun e w' => e = .returned (.bool false) ∧ w.grownBy w' (some b) :=
  (take_any b n f k w h hk hf hn).mono fun e w' ⟨h1, _, h3⟩ => ⟨by rw [h1, decide_eq_false fun g => g h0], h3⟩
theorem take_yes {b n : Nat} {f : Int → Int} {k : Int} {w : World} (h : IntMap w b n f) (hk : J64 k) (hf : 0 ≤ f k ∧ f k ≤ 1000000000) (hn : n ≤ 100000) (h0 : f k ≠ 0) :
    Calls Tryz.prog 89 #[.map (some b), .int .i64 k] w fun e w' => e = .returned (.bool true) ∧ (∃ n', n' ≤ n + 1 ∧ IntMap w' b n' (upd1 f k (f k - 1))) ∧ w.grownBy w' (some b) :=
  (take_any b n f k w h hk hf hn).mono fun e w' ⟨h1, h2, h3⟩ => ⟨by rw [h1, decide_eq_true h0], by rw [if_neg h0] at h2; exact h2, h3⟩
set_option maxRecDepth 100000 in
set_option maxHeartbeats 8000000 in
theorem ct_holds (s t : List (Int × Int)) : Holds Tryz.prog true 35 [pl s, pl t] (iv (ctErr s t)) := holds_rawG fun w F xs hF hG hd => by
  obtain ⟨x1, x2, rfl, d1, d2⟩ : ∃ x1 x2, xs = [x1, x2] ∧ Den F (pl s) x1 ∧ Den F (pl t) x2 := by
    cases hd with | cons d1 d2 => cases d2 with | cons d2 d3 => cases d3; exact ⟨_, _, rfl, d1, d2⟩
  obtain ⟨A, c, rfl, hr⟩ := den_prow hF d1
  obtain ⟨A2, c2, rfl, hr2⟩ := den_prow hF d2
  have HG1 := Lib.hid (raw_calls (gs_holds s) hF hG d1)
  have HT := Lib.hid (fun (w1 : World) (hb : Below w.heap.size w w1) => raw_calls (gt_holds t) (okF_below hF hb) hG d2)
  have HR := Lib.hid hr
  have HR2 := Lib.hid hr2
  clear d1 d2 hr hr2 hF hG
  by_cases h0 : stkErr s = 0
  · by_cases h1 : trnErr t = 0
    · obtain ⟨r, hrr⟩ : ∃ r, runT t (mapTo s s.length) = r := ⟨_, rfl⟩
      have e : ctErr s t = if r = true then 0 else 23 := by unfold ctErr; rw [if_neg (by omega), if_neg (by omega), hrr]
      rw [e]
      obtain ⟨E, hE⟩ : ∃ E : Int, (if r = true then 0 else 23) = E := ⟨_, rfl⟩
      rw [hE]
      have HE0 := Lib.hid hE
      rw [h0] at HG1
      rw [h1] at HT
      have SI := Lib.hid (stk_in h0)
      have TI := Lib.hid (trn_in h1)
      have hl1 := SI.out.2.1
      have hl2 := TI.out.1
      have HX := Lib.hid hrr
      clear e h0 h1 hrr hE
      go_enter Tryz.func35, Tryz.ntmps35
      go_wp2_with (first
        | (go_at_call 33; refine HG1.out.mono ?_; rintro e w1 ⟨rfl, hb1⟩; have HB1 := Lib.hid hb1; clear hb1)
        | (go_at_call 44; refine (HT.out _ HB1.out).mono ?_; rintro e w2 ⟨rfl, hb2⟩; have HB2 := Lib.hid (HB1.out.trans (hb2.mono HB1.out.size)); clear hb2)
        | (go_at_call 88; refine (counted_any A c s _ (HR.out.below HB2.out (Nat.le_refl _)) hl1 (fun k hk => by have := SI.out.2.2 k hk; unfold J64; omega)).mono ?_; rintro e w3 ⟨rfl, him, hb3⟩; have HM := Lib.hid him; have HB3 := Lib.hid (HB2.out.trans (hb3.mono HB2.out.size)); clear him hb3))
      have HSZ := Lib.hid HB2.out.size
      generalize hmB : w2.heap.size = mB at *
      go_loopw [24] (fun i wr => ∃ k n f, k ≤ t.length ∧ i = .int .i64 k ∧ IntMap wr mB n f ∧ n ≤ s.length + 2 * k ∧ (∀ x, 0 ≤ f x ∧ f x ≤ 1000000000) ∧ runT (t.drop k) f = r ∧ Below w.heap.size w wr) (fun i _ => t.length - (intOf i).toNat)
      case atStart => exact ⟨0, s.length, _, Nat.zero_le _, rfl, HM.out, by omega, mapTo_in _ (fun k hk => (SI.out.2.2 k hk).2.1), HX.out, HB3.out⟩
      case round =>
        obtain ⟨k, n, f, hk, rfl, hset, hn, hf, hrun, eb⟩ := hrel
        by_cases hlt : k < t.length
        · obtain ⟨b, off, rfl, hbB, hc1, hc2⟩ := HR2.out.at_ k hlt
          have hk1 := (eb.cell (p := ⟨b, off + k * 2, none⟩) (by show b < _; omega)).trans hc1
          have hk2 := (eb.cell (p := ⟨b, off + k * 2 + 1, none⟩) (by show b < _; omega)).trans hc2
          have hix := TI.out.2 k hlt
          have hrun : runT (g0 t k :: t.drop (k + 1)) f = r := by
            rw [g0_get hlt, ← List.drop_eq_getElem_cons hlt]; exact hrun
          obtain ⟨p1, hp1⟩ : ∃ p, (g0 t k).1 = p := ⟨_, rfl⟩
          obtain ⟨p2, hp2⟩ : ∃ p, (g0 t k).2 = p := ⟨_, rfl⟩
          unfold runT at hrun
          rw [hp1, hp2] at hrun hix
          rw [hp1] at hk1
          rw [hp2] at hk2
          have hlm := hset.lt
          have hszr := eb.size
          have HS := Lib.hid (show IntMap (wr.alloc (.cells #[.int .i64 p1, .int .i64 p2] 60)) mB n f from hset.kept (World.grownBy_alloc _ _ none) (by simp))
          have HE := Lib.hid (eb.alloc hszr (.cells #[.int .i64 p1, .int .i64 p2] 60))
          have HF := Lib.hid hf
          clear hc1 hc2 hset hp1 hp2 eb hf
          have HP1 := Lib.hid (show J64 p1 by unfold J64; omega)
          have HP2 := Lib.hid (show J64 p2 by unfold J64; omega)
          have hn2 : n ≤ 40 := by omega
          by_cases c1 : f p1 = 0
          · rw [if_pos c1] at hrun
            have E23 := Lib.hid (show (23 : Int) = E by rw [← HE0.out, ← hrun]; rfl)
            clear hrun
            have HC := Lib.hid (take_no HS.out HP1.out (HF.out p1) (by omega) c1)
            clear c1
            go_wp2_with (go_at_call 89; refine HC.out.mono ?_; rintro e w4 ⟨rfl, hg4⟩; have HG4 := Lib.hid hg4; clear hg4)
            go_ret
            exact ⟨ret_j E23.out, HE.out.grown HG4.out (HE.out.size) fun j hj => by cases hj; exact HSZ.out⟩
          · rw [if_neg c1] at hrun
            have HC := Lib.hid (take_yes HS.out HP1.out (HF.out p1) (by omega) c1)
            have HF1 := Lib.hid (upd_in HF.out p1 c1)
            clear c1
            generalize upd1 f p1 (f p1 - 1) = f1 at *
            by_cases c2 : f1 p2 = 0
            · rw [if_pos c2] at hrun
              have E23 := Lib.hid (show (23 : Int) = E by rw [← HE0.out, ← hrun]; rfl)
              have C2 := Lib.hid c2
              clear hrun c2
              go_wp2_with (first
                | (go_at_call 89; refine (take_no HM4.out HP2.out (HF1.out p2) (by omega) C2.out).mono ?_; rintro e w5 ⟨rfl, hg5⟩; have HG5 := Lib.hid (HG4.out.grown hg5 (HG4.out.size) fun j hj => by cases hj; exact HSZ.out); clear hg5)
                | (go_at_call 89; refine HC.out.mono ?_; rintro e w4 ⟨rfl, ⟨n4, hn4, him4⟩, hg4⟩; have hk4 := cell_after hg4 hlm; have HM4 := Lib.hid him4; have HG4 := Lib.hid (HE.out.grown hg4 (HE.out.size) fun j hj => by cases hj; exact HSZ.out); clear hg4 him4))
              go_ret
              exact ⟨ret_j E23.out, HG5.out⟩
            · rw [if_neg c2] at hrun
              have HRUN := Lib.hid hrun
              have HF2 := Lib.hid (upd_in HF1.out p2 c2)
              have C2 := Lib.hid c2
              clear hrun c2
              go_wp2_with (first
                | (go_at_call 89; refine (take_yes HM4.out HP2.out (HF1.out p2) (by omega) C2.out).mono ?_; rintro e w5 ⟨rfl, ⟨n5, hn5, him5⟩, hg5⟩; have HM5 := Lib.hid him5; have HG5 := Lib.hid (HG4.out.grown hg5 (HG4.out.size) fun j hj => by cases hj; exact HSZ.out); clear hg5 him5)
                | (go_at_call 89; refine HC.out.mono ?_; rintro e w4 ⟨rfl, ⟨n4, hn4, him4⟩, hg4⟩; have hk4 := cell_after hg4 hlm; have HM4 := Lib.hid him4; have HG4 := Lib.hid (HE.out.grown hg4 (HE.out.size) fun j hj => by cases hj; exact HSZ.out); clear hg4 him4))
              go_roundw
              case rel => exact ⟨k + 1, n5, _, by omega, by go_num, HM5.out, by omega, HF2.out, HRUN.out, HG5.out⟩
              case measure => simp [intOf]; omega
        · obtain rfl : k = t.length := by omega
          rw [List.drop_length] at hrun
          have hrun : true = r := hrun
          have E0 := Lib.hid (show (0 : Int) = E by rw [← HE0.out, ← hrun]; rfl)
          have HE := Lib.hid eb
          clear eb hset hrun
          go_wp2_with fail
          go_ret
          exact ⟨ret_j E0.out, HE.out⟩
    · have e : ctErr s t = trnErr t := by unfold ctErr; rw [if_neg (by omega), if_pos h1]
      rw [e]
      have hne : (trnErr t != 0) = true := by rw [bne_iff_ne]; exact h1
      generalize trnErr t = r at *
      rw [h0] at HG1
      clear e h1
      go_enter Tryz.func35, Tryz.ntmps35
      go_wp2_with (first
        | (go_at_call 33; refine HG1.out.mono ?_; rintro e w1 ⟨rfl, hb1⟩; have HB1 := Lib.hid hb1; clear hb1)
        | (go_at_call 44; refine (HT.out _ HB1.out).mono ?_; rintro e w2 ⟨rfl, hb2⟩; have HB2 := Lib.hid (HB1.out.trans (hb2.mono HB1.out.size)); clear hb2))
      go_ret
      exact ⟨rfl, HB2.out⟩
  · have e : ctErr s t = stkErr s := by unfold ctErr; rw [if_pos h0]
    rw [e]
    have hne : (stkErr s != 0) = true := by rw [bne_iff_ne]; exact h0
    generalize stkErr s = r at *
    clear e h0
    go_enter Tryz.func35, Tryz.ntmps35
    go_wp2_with (go_at_call 33; refine HG1.out.mono ?_; rintro e w1 ⟨rfl, hb1⟩; have HB1 := Lib.hid hb1; clear hb1)
    go_ret
    exact ⟨rfl, HB1.out⟩
noncomputable def cCt : Ctr := { f := 35, ps := [.list false tP2, .list false tP2], rs := [.int .i64], fresh := true, pre := fun d => true, fn := fun d => (ctErr d.1 d.2.1, ()) }
theorem cCt_ok : cCt.Ok Tryz.prog := fun ⟨s, t, _⟩ _ => ct_holds s t
end
end Go.Proofs.YtjcbbabaabcdgaaGreatDoor
