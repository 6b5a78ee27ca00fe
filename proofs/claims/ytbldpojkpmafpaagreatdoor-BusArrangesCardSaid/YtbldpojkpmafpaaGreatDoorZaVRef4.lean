/- The law's own words of package bus: SameInts, ints, light, and what CheckNets, CheckOrder of the reference return, as contracts on plain data. -/
import Derived.Test.YtbldpojkpmafpaaGreatDoorZaBusRefNets
import Derived.Test.YtbldpojkpmafpaaGreatDoorZaBusTap1
namespace Go.Proofs.YtbldpojkpmafpaaGreatDoor
open Go.RowKit Sv
set_option maxRecDepth 100000
set_option linter.unusedVariables false
noncomputable section
abbrev nv (l : List (Int × List Int)) : AV := .lst false (.pair (.int .i64) (.list false (.int .i64))) l

def BSame : Code := (Tryz.f36.body).getD .skip
def SSame (a b : List Int) (k : Nat) : St := { n := 26, sl := [(0, lv a), (1, lv b), (5, iv k)], en := [], next := 64 }
theorem same_start (a b : List Int) (h1 : (↑(List.length a) : Int) = (↑(List.length b) : Int)) :
    Tst.path (vrun0 Tryz.prog (ctrs []) (fl BSame []) 4 26 [lv a, lv b]) [false] (toSt Tryz.prog 26 .normal [] (SSame a b 0)) := by
  have eTst : (Tst.path (vrun0 Tryz.prog (ctrs []) (fl BSame []) 4 26 [lv a, lv b]) [false] (toSt Tryz.prog 26 .normal [] (SSame a b 0))) = ((((↑(List.length a) : Int) != (↑(List.length b) : Int)) = false) ∧ ((a) = (a)) ∧ ((b) = (b)) ∧ (((0 : Int)) = ((↑(0 : Nat) : Int))) ∧ True) := by kernel_rfl
  exact eTst.mpr ⟨bne_eq_false_iff_eq.mpr h1, ⟨rfl, ⟨rfl, ⟨rfl, trivial⟩⟩⟩⟩
theorem same_other (a b : List Int) (h1 : ¬(↑(List.length a) : Int) = (↑(List.length b) : Int)) :
    Tst.path (vrun0 Tryz.prog (ctrs []) (fl BSame []) 4 26 [lv a, lv b]) [true] (toRet Tryz.prog Tryz.f36 true (bv false)) := by
  have eTst : (Tst.path (vrun0 Tryz.prog (ctrs []) (fl BSame []) 4 26 [lv a, lv b]) [true] (toRet Tryz.prog Tryz.f36 true (bv false))) = ((((↑(List.length a) : Int) != (↑(List.length b) : Int)) = true) ∧ (false) = false) := by kernel_rfl
  exact eTst.mpr ⟨bne_iff_ne.mpr h1, rfl⟩
theorem same_go (a b : List Int) (k : Nat) (h1 : (↑k : Int) < (↑(List.length a) : Int)) (h2 : k < List.length a) (h3 : k < List.length b) (h4 : List.getD a k (0 : Int) = List.getD b k (0 : Int)) (h5 : -9223372036854775808 ≤ (↑k : Int) + (1 : Int) ∧ (↑k : Int) + (1 : Int) ≤ 9223372036854775807) :
    Tst.path (vall Tryz.prog (ctrs []) (fl BSame [1,1,0,1,0,0]) (SSame a b k)) [true, false] (toSt Tryz.prog 26 .normal [] (SSame a b (k + 1))) := by
  have eTst : (Tst.path (vall Tryz.prog (ctrs []) (fl BSame [1,1,0,1,0,0]) (SSame a b k)) [true, false] (toSt Tryz.prog 26 .normal [] (SSame a b (k + 1)))) = (((decide ((↑k : Int) < (↑(List.length a) : Int))) = true) ∧ ((decide ((0 : Int) ≤ (↑k : Int))) = true) ∧ ((decide (k < List.length a)) = true) ∧ ((AV.same (AV.raw (Value.int IntKind.i64 (List.getD a k (0 : Int)))) (AV.raw (Value.int IntKind.i64 (List.getD a k (0 : Int))))) = true) ∧ ((decide ((0 : Int) ≤ (↑k : Int))) = true) ∧ ((decide (k < List.length b)) = true) ∧ ((AV.same (AV.raw (Value.int IntKind.i64 (List.getD b k (0 : Int)))) (AV.raw (Value.int IntKind.i64 (List.getD b k (0 : Int))))) = true) ∧ ((List.getD a k (0 : Int) != List.getD b k (0 : Int)) = false) ∧ ((fits IntKind.i64 ((↑k : Int) + (1 : Int))) = true) ∧ ((a) = (a)) ∧ ((b) = (b)) ∧ (((↑k : Int) + (1 : Int)) = ((↑(k + (1 : Nat)) : Int))) ∧ True) := by kernel_rfl
  exact eTst.mpr ⟨decide_eq_true h1, ⟨decide_eq_true (by omega), ⟨decide_eq_true h2, ⟨same_refl (by kernel_rfl), ⟨decide_eq_true (by omega), ⟨decide_eq_true h3, ⟨same_refl (by kernel_rfl), ⟨bne_eq_false_iff_eq.mpr h4, ⟨fits_i64 h5, ⟨rfl, ⟨rfl, ⟨(by omega), trivial⟩⟩⟩⟩⟩⟩⟩⟩⟩⟩⟩⟩
theorem same_hit (a b : List Int) (k : Nat) (h1 : (↑k : Int) < (↑(List.length a) : Int)) (h2 : k < List.length a) (h3 : k < List.length b) (h4 : ¬List.getD a k (0 : Int) = List.getD b k (0 : Int)) :
    Tst.path (vall Tryz.prog (ctrs []) (fl BSame [1,1,0,1,0,0]) (SSame a b k)) [true, true] (toRet Tryz.prog Tryz.f36 true (bv false)) := by
  have eTst : (Tst.path (vall Tryz.prog (ctrs []) (fl BSame [1,1,0,1,0,0]) (SSame a b k)) [true, true] (toRet Tryz.prog Tryz.f36 true (bv false))) = (((decide ((↑k : Int) < (↑(List.length a) : Int))) = true) ∧ ((decide ((0 : Int) ≤ (↑k : Int))) = true) ∧ ((decide (k < List.length a)) = true) ∧ ((AV.same (AV.raw (Value.int IntKind.i64 (List.getD a k (0 : Int)))) (AV.raw (Value.int IntKind.i64 (List.getD a k (0 : Int))))) = true) ∧ ((decide ((0 : Int) ≤ (↑k : Int))) = true) ∧ ((decide (k < List.length b)) = true) ∧ ((AV.same (AV.raw (Value.int IntKind.i64 (List.getD b k (0 : Int)))) (AV.raw (Value.int IntKind.i64 (List.getD b k (0 : Int))))) = true) ∧ ((List.getD a k (0 : Int) != List.getD b k (0 : Int)) = true) ∧ (false) = false) := by kernel_rfl
  exact eTst.mpr ⟨decide_eq_true h1, ⟨decide_eq_true (by omega), ⟨decide_eq_true h2, ⟨same_refl (by kernel_rfl), ⟨decide_eq_true (by omega), ⟨decide_eq_true h3, ⟨same_refl (by kernel_rfl), ⟨bne_iff_ne.mpr h4, rfl⟩⟩⟩⟩⟩⟩⟩⟩
theorem same_end (a b : List Int) (k : Nat) (h1 : ¬(↑k : Int) < (↑(List.length a) : Int)) :
    Tst.path (vall Tryz.prog (ctrs []) (fl BSame [1,1,0,1,0,0]) (SSame a b k)) [false] (toSt Tryz.prog 26 (.exit 0) [] (SSame a b k)) := by
  have eTst : (Tst.path (vall Tryz.prog (ctrs []) (fl BSame [1,1,0,1,0,0]) (SSame a b k)) [false] (toSt Tryz.prog 26 (.exit 0) [] (SSame a b k))) = (((decide ((↑k : Int) < (↑(List.length a) : Int))) = false) ∧ ((a) = (a)) ∧ ((b) = (b)) ∧ (((↑k : Int)) = ((↑k : Int))) ∧ True) := by kernel_rfl
  exact eTst.mpr ⟨decide_eq_false h1, ⟨rfl, ⟨rfl, ⟨rfl, trivial⟩⟩⟩⟩
theorem same_yes (a b : List Int) (k : Nat)  :
    Tst.path (vall Tryz.prog (ctrs []) (List.drop 5 (fl BSame [])) (SSame a b k)) [] (toRet Tryz.prog Tryz.f36 true (bv true)) := by
  have eTst : (Tst.path (vall Tryz.prog (ctrs []) (List.drop 5 (fl BSame [])) (SSame a b k)) [] (toRet Tryz.prog Tryz.f36 true (bv true))) = ((true) = true) := by kernel_rfl
  exact eTst.mpr rfl
theorem take_eq_next {a b : List Int} {k : Nat} (h1 : k < a.length) (h2 : k < b.length) (h : a.take k = b.take k) (hh : a.getD k 0 = b.getD k 0) : a.take (k + 1) = b.take (k + 1) := by
  rw [take_next h1, take_next h2, h, hh]
theorem same_holds (a b : List Int) (hl : a.length ≤ 1000000) : Holds Tryz.prog true 36 [lv a, lv b] (bv (decide (a = b))) := by
  have hS := none_ok
  refine holds_fl (c := BSame) Tryz.func36 rfl rfl fun w F => ?_
  by_cases hn : a.length = b.length
  · refine GoalL.to known mixed hS 4 _ (same_start a b (by omega)) (by kernel_rfl) ?_
    refine GoalL.loop (ι := { k : Nat // k ≤ a.length ∧ a.take k = b.take k }) (id := 0) (b := cat BSame [1,1,0,1,0,0]) (rest := List.drop 5 (fl BSame [])) (by kernel_rfl) (fun k => SSame a b k.1) (fun k => a.length - k.1) ⟨0, Nat.zero_le _, by simp⟩ (fun _ => rfl) ?_
    rintro ⟨k, hk, hx⟩
    by_cases hlt : k < a.length
    · by_cases hh : a.getD k 0 = b.getD k 0
      · refine GoalL.all (s := SSame a b k) known mixed hS _ (same_go a b k (by omega) (by omega) (by omega) hh (by omega)) (by kernel_rfl) ?_
        exact ⟨⟨k + 1, hlt, take_eq_next hlt (by omega) hx hh⟩, by simp; omega, rfl, rfl⟩
      · refine GoalL.allRet (s := SSame a b k) known mixed hS _ (same_hit a b k (by omega) (by omega) (by omega) hh) fun T H h => ?_
        rw [decide_eq_false (fun e => hh (by rw [e]))]; exact h
    · refine GoalL.all (s := SSame a b k) known mixed hS _ (same_end a b k (by omega)) (by kernel_rfl) ?_
      refine onN_exit (inB_exit ?_)
      obtain rfl : k = a.length := by omega
      rw [List.take_length] at hx
      rw [hn, List.take_length] at hx
      refine GoalL.allRet (s := SSame a b a.length) known mixed hS _ (same_yes a b _) fun T H h => ?_
      rw [decide_eq_true hx]; exact h
  · refine GoalL.ret known mixed hS 4 _ (same_other a b (by omega)) fun T H h => ?_
    rw [decide_eq_false (fun e => hn (by rw [e]))]; exact h
noncomputable def cSame : Ctr := { f := 36, ps := [.list false (.int .i64), .list false (.int .i64)], rs := [.bool], fresh := true, pre := fun d => decide (List.length (α := Int) d.1 ≤ 1000000), fn := fun d => ((decide ((d.1 : List Int) = (d.2.1 : List Int)) : Bool), ()) }
theorem cSame_ok : cSame.Ok Tryz.prog := fun d h => same_holds d.1 d.2.1 (of_decide_eq_true h)

instance (x : Int) : Decidable (I64 x) := by unfold I64; infer_instance
def goodB (nets : List (Int × List Int)) : Bool := nets.all fun n => decide (I64 n.1) && n.2.all (fun c => decide (I64 c)) && decide (n.2.length ≤ 140737488355328)
theorem goodB_iff {nets : List (Int × List Int)} : goodB nets = true ↔ GoodNets nets := by
  unfold goodB GoodNets
  simp only [List.all_eq_true, Bool.and_eq_true, decide_eq_true_eq]
theorem getN_mem {l : List (Int × List Int)} {k : Nat} (h : k < l.length) : l.getD k (0, []) ∈ l := by
  rw [List.getD_eq_getElem?_getD, List.getElem?_eq_getElem h]; exact List.getElem_mem _
theorem takeN_next {l : List (Int × List Int)} {k : Nat} (h : k < l.length) : l.take (k + 1) = l.take k ++ [l.getD k (0, [])] := by
  rw [List.getD_eq_getElem?_getD, List.getElem?_eq_getElem h]; simp
end
end Go.Proofs.YtbldpojkpmafpaaGreatDoor

/- The reference of chapter 7: the extents of nets and the length of an order. -/
namespace Go.Proofs.YtbldpojkpmafpaaGreatDoor
open Go.RowKit

theorem refLow_snoc (p : Int → Int) : ∀ (cols : List Int) (low c : Int), Bus.refLow p low (cols ++ [c]) = if Bus.refLow p low cols < 0 ∨ p c < Bus.refLow p low cols then p c else Bus.refLow p low cols
  | [], _, _ => rfl
  | d :: r, low, c => by
      rw [List.cons_append, Bus.refLow, Bus.refLow]
      exact refLow_snoc p r _ c
def refHigh (p : Int → Int) (cols : List Int) : Int := cols.foldl (fun h c => max h (p c)) (-1)
theorem refHigh_snoc (p : Int → Int) (cols : List Int) (c : Int) : refHigh p (cols ++ [c]) = max (refHigh p cols) (p c) := by simp [refHigh]

theorem posFrom_append (c : Int) : ∀ (l r : List Int) (k : Int), c ∉ l → Bus.posFrom k (l ++ r) c = Bus.posFrom (k + l.length) r c
  | [], r, k, _ => by simp
  | x :: l, r, k, h => by
      have hx : x ≠ c := fun e => h (by simp [e])
      rw [List.cons_append, Bus.posFrom, if_neg hx, posFrom_append c l r (k + 1) (fun hm => h (by simp [hm]))]
      congr 1
      simp; omega
theorem atUp_pos (order : List Int) (hn : order.Nodup) (X : Nat) (hX : (X : Int) ∈ order) : Bus.atUp order order.length X = Bus.pos order X := by
  have key : ∀ k, k ≤ order.length → (X : Int) ∈ order.take k → Bus.atUp order k X = Bus.pos order X := by
    intro k
    induction k with
    | zero => intro _ h; simp at h
    | succ k ih =>
      intro hk hm
      have hlt : k < order.length := by omega
      have ht : order.take (k + 1) = order.take k ++ [order[k]] := by rw [List.take_add_one, List.getElem?_eq_getElem hlt]; rfl
      have hd : order.getD k (-1) = order[k] := by rw [List.getD_eq_getElem?_getD, List.getElem?_eq_getElem hlt]; rfl
      simp only [Bus.atUp, hd]
      by_cases he : (X : Int) = order[k]
      · rw [if_pos he]
        have hnot : (X : Int) ∉ order.take k := by
          intro h
          have h1 : (order.take (k + 1)).Nodup := hn.sublist (List.take_sublist _ _)
          rw [ht] at h1
          exact (List.nodup_append.1 h1).2.2 _ h _ (List.mem_singleton.2 rfl) he
        have hsp : order = order.take k ++ (order[k] :: order.drop (k + 1)) := by
          rw [← List.drop_eq_getElem_cons hlt, List.take_append_drop]
        unfold Bus.pos
        conv => rhs; rw [hsp]
        rw [posFrom_append _ _ _ _ hnot, Bus.posFrom, if_pos he.symm, List.length_take]
        omega
      · rw [if_neg he]
        apply ih (by omega)
        rw [ht] at hm
        rcases List.mem_append.1 hm with h | h
        · exact h
        · exact absurd (List.mem_singleton.1 h) he
  exact key order.length (Nat.le_refl _) (by rw [List.take_length]; exact hX)

set_option maxHeartbeats 2000000 in
set_option maxRecDepth 100000 in
theorem refExtent_any (x : NetAt) (A : Option Addr) (c B : Nat) (order : List Int) (w : World) (hr : Row w B x.loc (x.cols.map (Value.int .i64))) (h : Row w B A (order.map (Value.int .i64))) (hB : B ≤ w.heap.size) (hl : order.length ≤ 1000) (hf : x.cols.length ≤ 140737488355328) :
    Calls Tryz.prog 94 #[.agg #[.int .i64 x.sh, .slice x.loc x.cols.length x.cap], .slice A order.length c] w fun e w' => e = .returned (.tuple #[.int .i64 (Bus.refLow (Bus.pos order) (-1) x.cols), .int .i64 (refHigh (Bus.pos order) x.cols)]) ∧ Below w.heap.size w w' := by
  have HP := Lib.hid (fun w' (hb : Below w.heap.size w w') y => position_any A c B order y w' (by omega) (h.below hb hB))
  have HR := Lib.hid hr
  clear h hr
  generalize x.cols = cs at *
  generalize x.loc = loc at *
  generalize x.cap = cap at *
  generalize Bus.pos order = p at *
  go_enter Tryz.func94, Tryz.ntmps94
  go_wp2_with fail
  generalize hW0 : World.alloc w _ = W0
  obtain ⟨G, hG⟩ : ∃ G, w.heap.size = G := ⟨_, rfl⟩
  have d0 : Blk W0 G 26 #[.int .i64 x.sh, .slice loc cs.length cap] := by rw [← hW0, ← hG]; exact Blk.new _ _ _
  have e0 : Below w.heap.size w W0 := by rw [← hW0]; exact (Below.refl _ w).alloc (Nat.le_refl _) _
  have m0 : W0.cell? ⟨G, 1, none⟩ = some (.slice loc cs.length cap) := d0.cell 1
  try rw [hG]
  clear hW0 d0
  go_loop [6, 7, 8] (fun lo hi i => ∃ j : Nat, j ≤ cs.length ∧ i = .int .i64 j ∧ lo = .int .i64 (Bus.refLow p (-1) (cs.take j)) ∧ hi = .int .i64 (refHigh p (cs.take j))) (fun _ _ i => cs.length - (intOf i).toNat)
  case atStart => exact ⟨0, Nat.zero_le _, rfl, rfl, rfl⟩
  case round =>
    obtain ⟨j, hj, rfl, rfl, rfl⟩ := hrel
    by_cases hlj : j < cs.length
    · obtain ⟨b2, off2, y, rfl, hbB2, hy, hcy⟩ := HR.out.int j hlj
      have hcy2 := (e0.cell (p := ⟨b2, off2 + j, none⟩) (by show b2 < _; omega)).trans hcy
      have hjc : (j : Int) < (cs.length : Int) := by omega
      have HS := Lib.hid (show Bus.refLow p (-1) (cs.take (j + 1)) = (if Bus.refLow p (-1) (cs.take j) < 0 ∨ p y < Bus.refLow p (-1) (cs.take j) then p y else Bus.refLow p (-1) (cs.take j)) ∧ refHigh p (cs.take (j + 1)) = max (refHigh p (cs.take j)) (p y) by
        rw [List.take_add_one, hy]; exact ⟨refLow_snoc _ _ _ _, refHigh_snoc _ _ _⟩)
      generalize Bus.refLow p (-1) (cs.take j) = lo at *
      generalize refHigh p (cs.take j) = hi at *
      have hp := HP.out W0 e0 y
      generalize p y = py at *
      have HPY := Lib.hid hp
      clear hy hcy hp
      by_cases hlo : lo < 0
      · rw [if_pos (Or.inl hlo)] at HS
        go_wp2_with (first | (go_at_call 62; refine HPY.out.mono ?_; rintro e w1 ⟨rfl, rfl⟩))
        go_round
        case rel => exact ⟨j + 1, by omega, by go_num, by rw [HS.out.1], by rw [HS.out.2]; congr 1; split <;> omega⟩
        case measure => simp [intOf]; omega
      · by_cases hpl : py < lo
        · rw [if_pos (Or.inr hpl)] at HS
          go_wp2_with (first | (go_at_call 62; refine HPY.out.mono ?_; rintro e w1 ⟨rfl, rfl⟩))
          go_round
          case rel => exact ⟨j + 1, by omega, by go_num, by rw [HS.out.1], by rw [HS.out.2]; congr 1; split <;> omega⟩
          case measure => simp [intOf]; omega
        · rw [if_neg (by omega)] at HS
          go_wp2_with (first | (go_at_call 62; refine HPY.out.mono ?_; rintro e w1 ⟨rfl, rfl⟩))
          go_round
          case rel => exact ⟨j + 1, by omega, by go_num, by rw [HS.out.1], by rw [HS.out.2]; congr 1; split <;> omega⟩
          case measure => simp [intOf]; omega
    · obtain rfl : j = cs.length := by omega
      rw [List.take_length]
      go_wp2_with fail
      go_ret2
      exact ⟨rfl, by first | exact e0 | (rw [hG] at e0; exact e0)⟩

theorem ref_ext {order : List Int} {cols : List Int} {n : Int} (hn : order.Nodup) (hlen : (order.length : Int) = n) (hne : cols ≠ []) (hc : ∀ c ∈ cols, 0 ≤ c ∧ c < n) (hall : ∀ c, 0 ≤ c → c < n → c ∈ order) (h97 : n ≤ 97) :
    (Bus.refLow (Bus.pos order) (-1) cols, refHigh (Bus.pos order) cols) = Bus.ext (fun c => Bus.atUp order order.length c.toNat) cols := by
  have hp : ∀ c ∈ cols, Bus.pos order c = Bus.atUp order order.length c.toNat := by
    intro c hcm
    obtain ⟨h0, h1⟩ := hc c hcm
    have e : ((c.toNat : Nat) : Int) = c := by omega
    rw [atUp_pos order hn c.toNat (by rw [e]; exact hall c h0 h1), e]
  have hb : ∀ c ∈ cols, 0 ≤ Bus.pos order c ∧ Bus.pos order c < 97 := by
    intro c hcm
    obtain ⟨h0, h1⟩ := hc c hcm
    have := Bus.pos_bd (hall c h0 h1)
    omega
  rw [Bus.refLow_ext _ _ hne hb]
  have fold : ∀ (l : List Int) (a b : Int), (∀ c ∈ l, Bus.pos order c = Bus.atUp order order.length c.toNat) →
      l.foldl (fun l c => min l (Bus.pos order c)) a = l.foldl (fun l c => min l (Bus.atUp order order.length c.toNat)) a ∧ l.foldl (fun l c => max l (Bus.pos order c)) b = l.foldl (fun l c => max l (Bus.atUp order order.length c.toNat)) b := by
    intro l
    induction l with
    | nil => intro a b _; exact ⟨rfl, rfl⟩
    | cons d r ih =>
      intro a b h
      have hd := h d (by simp)
      simp only [List.foldl_cons, hd]
      exact ih _ _ (fun c hc => h c (by simp [hc]))
  obtain ⟨f1, f2⟩ := fold cols 97 (-1) hp
  unfold Bus.ext refHigh
  rw [f1, f2]
theorem filter_len (a : Int) : ∀ l : List Int, l.Nodup → l.length ≤ (l.filter (fun x => decide (x ≠ a))).length + 1
  | [], _ => by simp
  | x :: r, h => by
      obtain ⟨h1, h2⟩ := List.nodup_cons.1 h
      by_cases hx : x = a
      · subst hx
        have : r.filter (fun y => decide (y ≠ x)) = r := List.filter_eq_self.2 fun y hy => decide_eq_true fun e => h1 (e ▸ hy)
        have e : (x :: r).filter (fun y => decide (y ≠ x)) = r := by rw [List.filter_cons_of_neg (by simp), this]
        rw [e]; simp
      · have := filter_len a r h2
        simp [hx] at this ⊢
        omega
theorem nodup_len : ∀ (n : Nat) (l : List Int), l.Nodup → (∀ c ∈ l, 0 ≤ c ∧ c < (n : Int)) → l.length ≤ n
  | 0, l, _, hb => by
      cases l with
      | nil => simp
      | cons x r => have := hb x (by simp); omega
  | n + 1, l, hn, hb => by
      have h1 := filter_len (n : Int) l hn
      have h2 := nodup_len n (l.filter (fun x => decide (x ≠ (n : Int)))) (hn.sublist List.filter_sublist) (fun c hc => by
        obtain ⟨h3, h4⟩ := List.mem_filter.1 hc
        have h5 := hb c h3
        have h6 := of_decide_eq_true h4
        omega)
      omega
theorem has_all (n : Nat) (l : List Int) (hn : l.Nodup) (hl : l.length = n) (hb : ∀ c ∈ l, 0 ≤ c ∧ c < (n : Int)) (c : Int) (h0 : 0 ≤ c) (h1 : c < n) : c ∈ l := by
  by_cases hc : c ∈ l
  · exact hc
  · have := nodup_len n (c :: l) (List.nodup_cons.2 ⟨hc, hn⟩) (fun d hd => by
      rcases List.mem_cons.1 hd with rfl | hd
      · exact ⟨h0, h1⟩
      · exact hb d hd)
    simp at this
    omega

end Go.Proofs.YtbldpojkpmafpaaGreatDoor

/- The reference of package bus: whether a net covers a position, and whether two nets meet. -/
namespace Go.Proofs.YtbldpojkpmafpaaGreatDoor
open Go.RowKit

def refExt (order : List Int) (cols : List Int) : Int × Int := (Bus.refLow (Bus.pos order) (-1) cols, refHigh (Bus.pos order) cols)
def covR (a : Int × Int) (p : Int) : Bool := decide (a.1 ≤ p) && decide (p ≤ a.2)
def netV (x : NetAt) : Value := .agg #[.int .i64 x.sh, .slice x.loc x.cols.length x.cap]

set_option maxRecDepth 100000 in
theorem refCovers_any (x : NetAt) (A : Option Addr) (c B : Nat) (order : List Int) (p : Int) (w : World) (hr : Row w B x.loc (x.cols.map (Value.int .i64))) (h : Row w B A (order.map (Value.int .i64))) (hB : B ≤ w.heap.size) (hl : order.length ≤ 1000) (hf : x.cols.length ≤ 140737488355328) :
    Calls Tryz.prog 99 #[netV x, .slice A order.length c, .int .i64 p] w fun e w' => e = .returned (.bool (covR (refExt order x.cols) p)) ∧ Below w.heap.size w w' := by
  have HE := Lib.hid (fun w' (hb : Below w.heap.size w w') => refExtent_any x A c B order w' (hr.below hb hB) (h.below hb hB) (by have := hb.size; omega) hl hf)
  unfold refExt
  generalize Bus.refLow (Bus.pos order) (-1) x.cols = lo at *
  generalize refHigh (Bus.pos order) x.cols = hi at *
  unfold netV
  clear h hr
  by_cases hd : lo ≤ p
  · have h1 : decide (lo ≤ p) = true := decide_eq_true hd
    go_enter Tryz.func99, Tryz.ntmps99
    go_wp2_with fail
    have e0 := (Below.refl w.heap.size w).alloc (Nat.le_refl _) (.cells #[.int .i64 x.sh, .slice x.loc x.cols.length x.cap] 26)
    refine (HE.out _ e0).mono ?_
    rintro e w1 ⟨rfl, hb1⟩
    have e1 := below_after e0 hb1 (Nat.le_refl _)
    go_wp2_with fail
    go_ret
    exact ⟨by unfold covR; rw [h1]; rfl, e1⟩
  · have h1 : decide (lo ≤ p) = false := decide_eq_false hd
    go_enter Tryz.func99, Tryz.ntmps99
    go_wp2_with fail
    have e0 := (Below.refl w.heap.size w).alloc (Nat.le_refl _) (.cells #[.int .i64 x.sh, .slice x.loc x.cols.length x.cap] 26)
    refine (HE.out _ e0).mono ?_
    rintro e w1 ⟨rfl, hb1⟩
    have e1 := below_after e0 hb1 (Nat.le_refl _)
    go_wp2_with fail
    go_ret
    exact ⟨by unfold covR; rw [h1]; rfl, e1⟩

def meetFrom (a b : Int × Int) : Nat → Nat → Bool
  | 0, _ => false
  | m + 1, k => (covR a k && covR b k) || meetFrom a b m (k + 1)
theorem meetFrom_step (a b : Int × Int) (n k : Nat) (h : k < n) : meetFrom a b (n - k) k = ((covR a k && covR b k) || meetFrom a b (n - (k + 1)) (k + 1)) := by
  rw [show n - k = (n - (k + 1)) + 1 by omega]; rfl
theorem meetFrom_iff (a b : Int × Int) : ∀ (m k : Nat), meetFrom a b m k = true ↔ ∃ p : Nat, k ≤ p ∧ p < k + m ∧ covR a p = true ∧ covR b p = true
  | 0, k => by simp [meetFrom]; omega
  | m + 1, k => by
    rw [meetFrom, Bool.or_eq_true, Bool.and_eq_true, meetFrom_iff a b m (k + 1)]
    constructor
    · rintro (⟨h1, h2⟩ | ⟨p, h1, h2, h3⟩)
      · exact ⟨k, Nat.le_refl _, by omega, h1, h2⟩
      · exact ⟨p, by omega, by omega, h3⟩
    · rintro ⟨p, h1, h2, h3, h4⟩
      by_cases hp : p = k
      · subst hp; exact .inl ⟨h3, h4⟩
      · exact .inr ⟨p, by omega, by omega, h3, h4⟩
theorem meetFrom_eq (a b : Int × Int) (n : Nat) (ha : 0 ≤ a.1 ∧ a.1 ≤ a.2 ∧ a.2 < n) (hb : 0 ≤ b.1 ∧ b.1 ≤ b.2 ∧ b.2 < n) : meetFrom a b n 0 = (decide (a.1 ≤ b.2) && decide (b.1 ≤ a.2)) := by
  rw [Bool.eq_iff_iff, meetFrom_iff, Bool.and_eq_true, decide_eq_true_eq, decide_eq_true_eq]
  constructor
  · rintro ⟨p, _, _, h1, h2⟩
    simp only [covR, Bool.and_eq_true, decide_eq_true_eq] at h1 h2
    omega
  · rintro ⟨h1, h2⟩
    refine ⟨(max a.1 b.1).toNat, by omega, by omega, ?_, ?_⟩ <;> simp only [covR, Bool.and_eq_true, decide_eq_true_eq] <;> omega

set_option maxRecDepth 100000 in
set_option maxHeartbeats 2000000 in
theorem refMeet_any (x y : NetAt) (A : Option Addr) (c B : Nat) (order : List Int) (w : World) (hx : Row w B x.loc (x.cols.map (Value.int .i64))) (hy : Row w B y.loc (y.cols.map (Value.int .i64))) (h : Row w B A (order.map (Value.int .i64))) (hB : B ≤ w.heap.size) (hl : order.length ≤ 1000) (hfx : x.cols.length ≤ 140737488355328) (hfy : y.cols.length ≤ 140737488355328) :
    Calls Tryz.prog 55 #[netV x, netV y, .slice A order.length c] w fun e w' => e = .returned (.bool (meetFrom (refExt order x.cols) (refExt order y.cols) order.length 0)) ∧ Below w.heap.size w w' := by
  have HX := Lib.hid (fun w' (hb : Below w.heap.size w w') p => refCovers_any x A c B order p w' (hx.below hb hB) (h.below hb hB) (by have := hb.size; omega) hl hfx)
  have HY := Lib.hid (fun w' (hb : Below w.heap.size w w') p => refCovers_any y A c B order p w' (hy.below hb hB) (h.below hb hB) (by have := hb.size; omega) hl hfy)
  obtain ⟨r, hr⟩ : ∃ r, meetFrom (refExt order x.cols) (refExt order y.cols) order.length 0 = r := ⟨_, rfl⟩
  rw [hr]
  have HR := Lib.hid hr
  clear hx hy h hr
  generalize refExt order x.cols = ex at *
  generalize refExt order y.cols = ey at *
  unfold netV at *
  go_enter Tryz.func55, Tryz.ntmps55
  go_wp2_with fail
  generalize hW0 : World.alloc _ _ = W0
  have e0 : Below w.heap.size w W0 := by rw [← hW0]; exact ((Below.refl _ w).alloc (Nat.le_refl _) _).alloc (by simp) _
  have d0 : Blk W0 w.heap.size 26 #[.int .i64 x.sh, .slice x.loc x.cols.length x.cap] := by rw [← hW0]; exact (Blk.new _ _ _).alloc _
  have d1 : Blk W0 (w.heap.size + 1) 26 #[.int .i64 y.sh, .slice y.loc y.cols.length y.cap] := by rw [← hW0]; exact Blk.new' _ _ _ _ (by simp)
  clear hW0
  go_loopw [7] (fun i wr => ∃ k : Nat, k ≤ order.length ∧ i = .int .i64 k ∧ meetFrom ex ey (order.length - k) k = r ∧ Below w.heap.size w wr ∧ Blk wr w.heap.size 26 #[.int .i64 x.sh, .slice x.loc x.cols.length x.cap] ∧ Blk wr (w.heap.size + 1) 26 #[.int .i64 y.sh, .slice y.loc y.cols.length y.cap]) (fun i _ => order.length - (intOf i).toNat)
  case atStart => exact ⟨0, Nat.zero_le _, rfl, HR.out, e0, d0, d1⟩
  case round =>
    obtain ⟨k, hk, rfl, hm, eb, q0, q1⟩ := hrel
    obtain ⟨c00, c01⟩ := q0.two
    obtain ⟨c10, c11⟩ := q1.two
    by_cases hlt : k < order.length
    · rw [meetFrom_step _ _ _ _ hlt] at hm
      have hlt' : (k : Int) < (order.length : Int) := by omega
      have HcX := Lib.hid (HX.out wr eb (k : Int))
      have HcY := Lib.hid (fun w' (hb : Below w.heap.size w w') => HY.out w' hb (k : Int))
      generalize covR ex (k : Int) = bx at *
      generalize covR ey (k : Int) = by' at *
      have HM := Lib.hid hm
      clear hm
      cases bx
      · go_wp2_with fail
        refine HcX.out.mono ?_
        rintro e w1 ⟨rfl, hb1⟩
        have e1 := below_after eb hb1 (Nat.le_refl _)
        go_wp2_with fail
        go_roundw
        case rel => exact ⟨k + 1, by omega, by go_num, by simpa using HM.out, e1, keep_blk q0 hb1, keep_blk q1 hb1⟩
        case measure => simp [intOf]; omega
      · go_wp2_with fail
        refine HcX.out.mono ?_
        rintro e w1 ⟨rfl, hb1⟩
        have e1 := below_after eb hb1 (Nat.le_refl _)
        have p0 := keep_blk q0 hb1
        have p1 := keep_blk q1 hb1
        obtain ⟨f10, f11⟩ := p1.two
        cases by'
        · go_wp2_with fail
          refine (HcY.out _ e1).mono ?_
          rintro e w2 ⟨rfl, hb2⟩
          have e2 := below_after e1 hb2 (Nat.le_refl _)
          go_wp2_with fail
          go_roundw
          case rel => exact ⟨k + 1, by omega, by go_num, by simpa using HM.out, e2, keep_blk p0 hb2, keep_blk p1 hb2⟩
          case measure => simp [intOf]; omega
        · go_wp2_with fail
          refine (HcY.out _ e1).mono ?_
          rintro e w2 ⟨rfl, hb2⟩
          have e2 := below_after e1 hb2 (Nat.le_refl _)
          go_wp2_with fail
          go_ret
          exact ⟨by rw [← HM.out]; rfl, e2⟩
    · obtain rfl : k = order.length := by omega
      have HM := Lib.hid (show false = r by rw [← hm, Nat.sub_self]; rfl)
      go_wp2_with fail
      go_ret
      exact ⟨by rw [← HM.out]; rfl, eb⟩
end Go.Proofs.YtbldpojkpmafpaaGreatDoor

/- The reference of package bus: the check of a layout. -/
namespace Go.Proofs.YtbldpojkpmafpaaGreatDoor
open Go.RowKit

def rowHit (p : Nat → Bool) : Nat → Bool
  | 0 => false
  | k + 1 => rowHit p k || p k
def allHit (p : Nat → Nat → Bool) : Nat → Bool
  | 0 => false
  | i + 1 => allHit p i || rowHit (p i) i
theorem rowHit_iff (p : Nat → Bool) : ∀ n, rowHit p n = true ↔ ∃ k, k < n ∧ p k = true
  | 0 => by simp [rowHit]
  | n + 1 => by
    rw [rowHit, Bool.or_eq_true, rowHit_iff p n]
    constructor
    · rintro (⟨k, h1, h2⟩ | h)
      · exact ⟨k, by omega, h2⟩
      · exact ⟨n, by omega, h⟩
    · rintro ⟨k, h1, h2⟩
      by_cases hk : k = n
      · subst hk; exact .inr h2
      · exact .inl ⟨k, by omega, h2⟩
theorem allHit_iff (p : Nat → Nat → Bool) : ∀ n, allHit p n = true ↔ ∃ i k, k < i ∧ i < n ∧ p i k = true
  | 0 => by simp [allHit]
  | n + 1 => by
    rw [allHit, Bool.or_eq_true, allHit_iff p n, rowHit_iff]
    constructor
    · rintro (⟨i, k, h1, h2, h3⟩ | ⟨k, h1, h2⟩)
      · exact ⟨i, k, h1, by omega, h3⟩
      · exact ⟨n, k, h1, by omega, h2⟩
    · rintro ⟨i, k, h1, h2, h3⟩
      by_cases hk : i = n
      · subst hk; exact .inr ⟨k, h1, h3⟩
      · exact .inl ⟨i, k, h1, by omega, h3⟩
def clashR (l : List NetAt) (order ts : List Int) (i k : Nat) : Bool :=
  ts.getD i 0 == ts.getD k 0 && meetFrom (refExt order ((l.map NetAt.cols).getD i [])) (refExt order ((l.map NetAt.cols).getD k [])) order.length 0
def layErrR (l : List NetAt) (n : Int) (order ts : List Int) : Int :=
  if Bus.bothErr (l.map NetAt.net) n order ≠ 0 then Bus.bothErr (l.map NetAt.net) n order else if ts.length ≠ l.length then 2 else if farB ts = true then 3 else if allHit (clashR l order ts) l.length = true then 30 else 0
theorem farB_iff (ts : List Int) : farB ts = true ↔ ∃ (k : Nat) (t : Int), ts[k]? = some t ∧ (t < 0 ∨ 64 ≤ t) := by
  unfold farB
  rw [List.any_eq_true]
  constructor
  · rintro ⟨t, h1, h2⟩
    obtain ⟨k, hk⟩ := List.mem_iff_getElem?.1 h1
    exact ⟨k, t, hk, by simpa using h2⟩
  · rintro ⟨k, t, h1, h2⟩
    exact ⟨t, List.mem_of_getElem? h1, by simpa using h2⟩

theorem both_cases (l : List Bus.Net) (n : Int) (order : List Int) : (Bus.netsErr l n ≠ 0 ∧ Bus.bothErr l n order = Bus.netsErr l n) ∨ (Bus.netsErr l n = 0 ∧ Bus.bothErr l n order = Bus.orderErr order n) := by
  unfold Bus.bothErr
  by_cases h : Bus.netsErr l n = 0
  · exact .inr ⟨h, by rw [if_neg (by omega)]⟩
  · exact .inl ⟨h, by rw [if_pos h]⟩

set_option maxHeartbeats 8000000 in
set_option maxRecDepth 100000 in
theorem refCheckLayout_bad (A A2 A3 : Option Addr) (c c2 c3 B : Nat) (l : List NetAt) (order ts : List Int) (n : Int) (w : World) (h : NetsIn w B A l) (h2 : Row w B A2 (order.map (Value.int .i64))) (hB : B ≤ w.heap.size) (hl : l.length ≤ 140737488355328) (hl2 : order.length ≤ 1000000) (hc2 : order.length ≤ c2) (E : Int) (hE : Bus.bothErr (l.map NetAt.net) n order = E) (h0 : E ≠ 0) :
    Calls Tryz.prog 18 #[.slice A l.length c, .int .i64 n, .agg #[.slice A2 order.length c2, .slice A3 ts.length c3]] w fun e w' => e = .returned (.int .i64 E) ∧ Below w.heap.size w w' := by
  have HN := Lib.hid (fun w' (hb : Below w.heap.size w w') => refNets_any A c B l n w' (h.below hb hB) (by have := hb.size; omega) hl)
  have HO := Lib.hid (fun w' (hb : Below w.heap.size w w') => refOrder_any A2 c2 B order n w' hl2 hc2 (h2.below hb hB) (by have := hb.size; omega))
  have hcase := both_cases (l.map NetAt.net) n order
  rw [hE] at hcase
  have hne : (E != 0) = true := by rw [bne_iff_ne]; exact h0
  have hne2 : (E == 0) = false := by rw [beq_eq_false_iff_ne]; exact h0
  generalize Bus.netsErr (l.map NetAt.net) n = e1 at *
  generalize Bus.orderErr order n = e2 at *
  have e0 := (Below.refl w.heap.size w).alloc (Nat.le_refl _) (.cells #[.slice A2 order.length c2, .slice A3 ts.length c3] 29)
  have d0 := Blk.new w 29 #[.slice A2 order.length c2, .slice A3 ts.length c3]
  clear h h2 hE
  rcases hcase with ⟨g1, g2⟩ | ⟨g1, g2⟩
  · subst g2
    have HNE := Lib.hid (HN.out _ e0)
    clear HN HO e2 g1
    go_enter Tryz.func18, Tryz.ntmps18
    go_wp2_with fail
    refine HNE.out.mono ?_
    rintro e w1 ⟨rfl, hb1⟩
    have e1 := below_after e0 hb1 (Nat.le_refl _)
    go_wp2_with fail
    go_ret
    exact ⟨rfl, e1⟩
  · subst g1; subst g2
    have HNE := Lib.hid (HN.out _ e0)
    clear HN
    go_enter Tryz.func18, Tryz.ntmps18
    go_wp2_with fail
    refine HNE.out.mono ?_
    rintro e w1 ⟨rfl, hb1⟩
    have e1 := below_after e0 hb1 (Nat.le_refl _)
    have d1 := keep_blk d0 hb1
    obtain ⟨f0, f1, _, _⟩ := d1.two
    have HOE := Lib.hid (HO.out _ e1)
    clear HO d0 hb1 e0
    go_wp2_with fail
    refine HOE.out.mono ?_
    rintro e w2 ⟨rfl, hb2⟩
    have e2 := below_after e1 hb2 (Nat.le_refl _)
    go_wp2_with fail
    go_ret
    exact ⟨rfl, e2⟩

set_option maxHeartbeats 8000000 in
set_option maxRecDepth 100000 in
theorem refCheckLayout_ok (A A2 A3 : Option Addr) (c c2 c3 B : Nat) (l : List NetAt) (order ts : List Int) (n : Int) (w : World) (h : NetsIn w B A l) (h2 : Row w B A2 (order.map (Value.int .i64))) (h3 : Row w B A3 (ts.map (Value.int .i64))) (hB : B ≤ w.heap.size) (hl : l.length ≤ 140737488355328) (hl2 : order.length ≤ 1000000) (hl3 : ts.length ≤ 1000000) (hc2 : order.length ≤ c2) (hE : Bus.bothErr (l.map NetAt.net) n order = 0) :
    Calls Tryz.prog 18 #[.slice A l.length c, .int .i64 n, .agg #[.slice A2 order.length c2, .slice A3 ts.length c3]] w fun e w' => e = .returned (.int .i64 (layErrR l n order ts)) ∧ Below w.heap.size w w' := by
  obtain ⟨z1, z2⟩ := both_zero hE
  have HN := Lib.hid (fun w' (hb : Below w.heap.size w w') => refNets_any A c B l n w' (h.below hb hB) (by have := hb.size; omega) hl)
  have HO := Lib.hid (fun w' (hb : Below w.heap.size w w') => refOrder_any A2 c2 B order n w' hl2 hc2 (h2.below hb hB) (by have := hb.size; omega))
  rw [z1] at HN
  rw [z2] at HO
  obtain ⟨n1, n97, l64, hcols⟩ := Bus.netsErr_zero z1
  obtain ⟨on, ond, oin⟩ := Bus.orderErr_zero z2
  rw [List.length_map] at l64
  have hol : order.length ≤ 1000 := by omega
  have HM := Lib.hid (fun (x y : NetAt) w' (hb : Below w.heap.size w w') (hx : Row w B x.loc (x.cols.map (Value.int .i64))) (hy : Row w B y.loc (y.cols.map (Value.int .i64))) (fx : x.cols.length ≤ 140737488355328) (fy : y.cols.length ≤ 140737488355328) => refMeet_any x y A2 c2 B order w' (hx.below hb hB) (hy.below hb hB) (h2.below hb hB) (by have := hb.size; omega) hol fx fy)
  obtain ⟨r, hr⟩ : ∃ r, layErrR l n order ts = r := ⟨_, rfl⟩
  rw [hr]
  unfold layErrR at hr
  rw [hE, if_neg (by decide)] at hr
  have H := Lib.hid h
  have H3 := Lib.hid h3
  have e0 := (Below.refl w.heap.size w).alloc (Nat.le_refl _) (.cells #[.slice A2 order.length c2, .slice A3 ts.length c3] 29)
  have d0 := Blk.new w 29 #[.slice A2 order.length c2, .slice A3 ts.length c3]
  have HNE := Lib.hid (HN.out _ e0)
  clear h h2 h3 hE z1 z2 n1 n97 hcols on ond oin HN
  go_enter Tryz.func18, Tryz.ntmps18
  go_wp2_with fail
  refine HNE.out.mono ?_
  rintro e w1 ⟨rfl, hb1⟩
  have e1 := below_after e0 hb1 (Nat.le_refl _)
  have d1 := keep_blk d0 hb1
  obtain ⟨f0, f1, _, _⟩ := d1.two
  have HOE := Lib.hid (HO.out _ e1)
  clear HO HNE d0 hb1 e0
  go_wp2_with fail
  refine HOE.out.mono ?_
  rintro e w2 ⟨rfl, hb2⟩
  have e2 := below_after e1 hb2 (Nat.le_refl _)
  have d2 := keep_blk d1 hb2
  obtain ⟨f0, f1, _, _⟩ := d2.two
  clear HOE d1 hb2 e1
  by_cases htl : ts.length = l.length
  · have hln : ((ts.length : Int) != (l.length : Int)) = false := by simp; omega
    rw [if_neg (by omega)] at hr
    have HTL := Lib.hid htl
    clear htl
    have s2 := e2.size
    have hG2 := d2.lt
    go_wp2_with fail
    go_loopw [8] (fun i wr => ∃ k : Nat, k ≤ ts.length ∧ i = .int .i64 k ∧ farB (ts.take k) = false ∧ Below w.heap.size w wr ∧ Blk wr w.heap.size 29 #[.slice A2 order.length c2, .slice A3 ts.length c3]) (fun i _ => ts.length - (intOf i).toNat)
    case atStart => exact ⟨0, Nat.zero_le _, rfl, rfl, e2, d2⟩
    case round =>
      obtain ⟨k, hk, rfl, hfk, eb, qb⟩ := hrel
      obtain ⟨f0, f1, _, _⟩ := qb.two
      have hszb := eb.size
      by_cases hlt : k < ts.length
      · obtain ⟨b, off, x, hA3, hbB, hx, hcx⟩ := H3.out.int k hlt
        have hA3' := hA3
        subst hA3
        have hcx2 := (eb.cell (p := ⟨b, off + k, none⟩) (by show b < _; omega)).trans hcx
        have hlt' : (k : Int) < (ts.length : Int) := by omega
        have hstep : farB (ts.take (k + 1)) = (farB (ts.take k) || (decide (x < 0) || decide (64 ≤ x))) := by
          rw [List.take_add_one, hx]; unfold farB; rw [List.any_append]; simp
        rw [hfk, Bool.false_or] at hstep
        have hhit : (decide (x < 0) || decide (64 ≤ x)) = true → farB ts = true := fun hh => (farB_iff ts).2 ⟨k, x, hx, by simpa using hh⟩
        clear hx hcx
        by_cases hx0 : x < 0
        · have hf := hhit (by simp [hx0])
          rw [if_pos hf] at hr
          have HR := Lib.hid hr
          clear hr hf hhit hstep hfk
          go_wp2_with fail
          all_goals (go_ret; exact ⟨ret_i64 HR.out, (by repeat (first | with_reducible exact Below.refl _ _ | with_reducible assumption | with_reducible refine Below.setCell ?_ (by first | omega | (simp; done) | (simp; omega)) _ | with_reducible refine below_drewN ?_ _ | with_reducible refine Below.drew ?_ | with_reducible refine Below.alloc ?_ (by first | omega | (simp; done) | (simp; omega)) _ | with_reducible refine below_after ?_ (by assumption) (by first | omega | (simp; done) | (simp; omega))))⟩)
        · by_cases hx64 : 64 ≤ x
          · have hf := hhit (by simp [hx64])
            rw [if_pos hf] at hr
            have HR := Lib.hid hr
            clear hr hf hhit hstep hfk
            go_wp2_with fail
            all_goals (go_ret; exact ⟨ret_i64 HR.out, (by repeat (first | with_reducible exact Below.refl _ _ | with_reducible assumption | with_reducible refine Below.setCell ?_ (by first | omega | (simp; done) | (simp; omega)) _ | with_reducible refine below_drewN ?_ _ | with_reducible refine Below.drew ?_ | with_reducible refine Below.alloc ?_ (by first | omega | (simp; done) | (simp; omega)) _ | with_reducible refine below_after ?_ (by assumption) (by first | omega | (simp; done) | (simp; omega))))⟩)
          · have HS := Lib.hid (show farB (ts.take (k + 1)) = false by rw [hstep]; simp; omega)
            clear hhit hstep hfk hr
            go_wp2_with fail
            go_roundw
            case rel => exact ⟨k + 1, by omega, by go_num, HS.out, eb, qb⟩
            case measure => simp [intOf]; omega
      · obtain rfl : k = ts.length := by omega
        rw [List.take_length] at hfk
        rw [if_neg (by rw [hfk]; decide)] at hr
        have HR := Lib.hid hr
        clear hr hfk
        obtain ⟨W, hW⟩ : ∃ W, wr = W := ⟨_, rfl⟩
        rw [hW] at eb qb hszb f0 f1 ⊢
        clear hW
        go_wp2_with fail
        go_loopw [9] (fun i wr => ∃ k : Nat, k ≤ l.length ∧ i = .int .i64 k ∧ allHit (clashR l order ts) k = false ∧ Below w.heap.size w wr ∧ Blk wr w.heap.size 29 #[.slice A2 order.length c2, .slice A3 ts.length c3]) (fun i _ => l.length - (intOf i).toNat)
        case atStart => exact ⟨0, Nat.zero_le _, rfl, rfl, eb, qb⟩
        case round =>
          obtain ⟨k, hk, rfl, hak, ek, qk⟩ := hrel
          have hszk := ek.size
          by_cases hlk : k < l.length
          · obtain ⟨W2, hW⟩ : ∃ W, wr = W := ⟨_, rfl⟩
            rw [hW] at ek qk hszk ⊢
            clear hW
            have HAK := Lib.hid hak
            clear hak
            go_wp2_with fail
            go_loopw [10] (fun i wz => ∃ j : Nat, j ≤ k ∧ i = .int .i64 j ∧ rowHit (clashR l order ts k) j = false ∧ Below w.heap.size w wz ∧ Blk wz w.heap.size 29 #[.slice A2 order.length c2, .slice A3 ts.length c3]) (fun i _ => k - (intOf i).toNat)
            case atStart => exact ⟨0, Nat.zero_le _, rfl, rfl, ek, qk⟩
            case round =>
              obtain ⟨j, hj, rfl, hrj, ez, qz⟩ := hrel
              have hszz := ez.size
              obtain ⟨f0, f1, _, _⟩ := qz.two
              by_cases hlj : j < k
              · obtain ⟨b, off, x, hA3, hbB, hx, hcx⟩ := H3.out.int k (by rw [HTL.out]; omega)
                obtain ⟨b', off', y, hA3', _, hy, hcy⟩ := H3.out.int j (by rw [HTL.out]; omega)
                subst hA3
                injection hA3' with hA3'; injection hA3' with h1 h2; subst h1; subst h2
                have hcx2 := (ez.cell (p := ⟨b, off + k, none⟩) (by show b < _; omega)).trans hcx
                have hcy2 := (ez.cell (p := ⟨b, off + j, none⟩) (by show b < _; omega)).trans hcy
                have gx : ts.getD k 0 = x := by rw [List.getD_eq_getElem?_getD, hx]; rfl
                have gy : ts.getD j 0 = y := by rw [List.getD_eq_getElem?_getD, hy]; rfl
                obtain ⟨bn, offn, nx, hAn, hbn, hnx, cn0, cn1, rn, fn, _, _⟩ := H.out.net k hlk
                obtain ⟨bn', offn', ny, hAn', _, hny, dn0, dn1, rn', fn', _, _⟩ := H.out.net j (by omega)
                subst hAn
                injection hAn' with hAn'; injection hAn' with h1 h2; subst h1; subst h2
                have cn0' := (ez.cell (p := ⟨bn, offn + k * 2, none⟩) (by show bn < _; omega)).trans cn0
                have cn1' := (ez.cell (p := ⟨bn, offn + k * 2 + 1, none⟩) (by show bn < _; omega)).trans cn1
                have dn0' := (ez.cell (p := ⟨bn, offn + j * 2, none⟩) (by show bn < _; omega)).trans dn0
                have dn1' := (ez.cell (p := ⟨bn, offn + j * 2 + 1, none⟩) (by show bn < _; omega)).trans dn1
                have hkt : (k : Int) < (ts.length : Int) := by rw [HTL.out]; omega
                have hjt : (j : Int) < (ts.length : Int) := by rw [HTL.out]; omega
                have hkl : (k : Int) < (l.length : Int) := by omega
                have hjl : (j : Int) < (l.length : Int) := by omega
                have hcl : clashR l order ts k j = (x == y && meetFrom (refExt order nx.cols) (refExt order ny.cols) order.length 0) := by
                  unfold clashR; rw [gx, gy]; simp only [List.getD_eq_getElem?_getD, List.getElem?_map, hnx, hny, Option.map_some, Option.getD_some]
                have HST := Lib.hid (show rowHit (clashR l order ts k) (j + 1) = (x == y && meetFrom (refExt order nx.cols) (refExt order ny.cols) order.length 0) by rw [rowHit, hrj, Bool.false_or, hcl])
                have HMM := Lib.hid (fun w' (hb : Below w.heap.size w w') => HM.out nx ny w' hb rn rn' fn fn')
                have HIT := Lib.hid (fun (hh : clashR l order ts k j = true) => (allHit_iff (clashR l order ts) l.length).2 ⟨k, j, hlj, hlk, hh⟩)
                rw [hcl] at HIT
                clear hx hy hcx hcy gx gy cn0 cn1 dn0 dn1 hnx hny hcl hrj rn rn' fn fn'
                unfold netV at HMM
                by_cases hxy : x = y
                · have hbe : (x == y) = true := by rw [beq_iff_eq]; exact hxy
                  rw [hbe, Bool.true_and] at HST HIT
                  go_wp2_with fail
                  go_still_tail 22, (by kernel_rfl)
                  have ezd := ez.drew
                  have qzd := qz.drew
                  have k0 : wr.drew.cell? ⟨b, off + k, none⟩ = some (.int .i64 x) := hcx2
                  have k1 : wr.drew.cell? ⟨b, off + j, none⟩ = some (.int .i64 y) := hcy2
                  have k2 : wr.drew.cell? ⟨bn, offn + k * 2, none⟩ = some (.int .i64 nx.sh) := cn0'
                  have k3 : wr.drew.cell? ⟨bn, offn + k * 2 + 1, none⟩ = some (.slice nx.loc nx.cols.length nx.cap) := cn1'
                  have k4 : wr.drew.cell? ⟨bn, offn + j * 2, none⟩ = some (.int .i64 ny.sh) := dn0'
                  have k5 : wr.drew.cell? ⟨bn, offn + j * 2 + 1, none⟩ = some (.slice ny.loc ny.cols.length ny.cap) := dn1'
                  have k6 : wr.drew.cell? ⟨w.heap.size, 0, none⟩ = some (.slice A2 order.length c2) := f0
                  have k7 : wr.drew.cell? ⟨w.heap.size, 1, none⟩ = some (.slice (some ⟨b, off, none⟩) ts.length c3) := f1
                  have HMW := Lib.hid (HMM.out _ ezd)
                  change wpList _ _ _ _ _ wr.drew
                  clear HMM hcx2 hcy2 cn0' cn1' dn0' dn1' f0 f1 ez qz
                  generalize wr.drew = W5 at k0 k1 k2 k3 k4 k5 k6 k7 ezd qzd HMW ⊢
                  generalize meetFrom (refExt order nx.cols) (refExt order ny.cols) order.length 0 = hit at *
                  go_wp2_with (first
                    | (go_at_call 55; refine HMW.out.mono ?_; rintro e w6 ⟨rfl, hb6⟩))
                  · rename_i hmt
                    have e6 := below_after ezd hb6 (Nat.le_refl _)
                    have hq := HR.out
                    rw [if_pos (HIT.out hmt)] at hq
                    have HQ := Lib.hid hq
                    clear hq
                    go_ret
                    exact ⟨ret_i64 HQ.out, e6⟩
                  · rename_i hmt
                    have e6 := below_after ezd hb6 (Nat.le_refl _)
                    exact ⟨⟨j + 1, by omega, by go_num, HST.out.trans hmt, e6, keep_blk qzd hb6⟩, by simp [intOf]; omega⟩
                · have hbe : (x == y) = false := by rw [beq_eq_false_iff_ne]; exact hxy
                  rw [hbe, Bool.false_and] at HST
                  go_wp2_with fail
                  go_quiet (fail)
                  go_wp2_with fail
                  go_roundw
                  case rel => exact ⟨j + 1, by omega, by go_num, HST.out, (by repeat (first | with_reducible exact Below.refl _ _ | with_reducible assumption | with_reducible refine Below.setCell ?_ (by first | omega | (simp; done) | (simp; omega)) _ | with_reducible refine below_drewN ?_ _ | with_reducible refine Below.drew ?_ | with_reducible refine Below.alloc ?_ (by first | omega | (simp; done) | (simp; omega)) _ | with_reducible refine below_after ?_ (by assumption) (by first | omega | (simp; done) | (simp; omega)))), by first | exact qz | exact qz.drew⟩
                  case measure => simp [intOf]; omega
              · obtain rfl : k = j := by omega
                have HC2 := Lib.hid (show allHit (clashR l order ts) (k + 1) = false by rw [allHit, HAK.out, hrj]; rfl)
                go_wp2_with fail
                go_roundw
                case rel => exact ⟨k + 1, by omega, by go_num, HC2.out, ez, qz⟩
                case measure => simp [intOf]; omega
          · obtain rfl : k = l.length := by omega
            have hq := HR.out
            rw [if_neg (by rw [hak]; decide)] at hq
            have HQ := Lib.hid hq
            clear hq
            go_wp2_with fail
            go_ret
            exact ⟨ret_i64 HQ.out, ek⟩
  · have hln : ((ts.length : Int) != (l.length : Int)) = true := by simp; omega
    rw [if_pos (by omega)] at hr
    have HR := Lib.hid hr
    clear hr
    go_wp2_with fail
    go_ret
    exact ⟨ret_i64 HR.out, e2⟩
end Go.Proofs.YtbldpojkpmafpaaGreatDoor

/- Package bus and its reference: they say the same of layouts and of cliques (plain law). -/
namespace Go.Proofs.YtbldpojkpmafpaaGreatDoor
open Go.RowKit

theorem foldMin (f : Int → Int) : ∀ (l : List Int) (a : Int), l.foldl (fun l c => min l (f c)) a ≤ a ∧ (∀ c ∈ l, l.foldl (fun l c => min l (f c)) a ≤ f c) ∧ ∀ m, m ≤ a → (∀ c ∈ l, m ≤ f c) → m ≤ l.foldl (fun l c => min l (f c)) a
  | [], a => ⟨Int.le_refl _, fun c h => (by cases h), fun m h _ => h⟩
  | d :: r, a => by
    obtain ⟨h1, h2, h3⟩ := foldMin f r (min a (f d))
    simp only [List.foldl_cons]
    refine ⟨by omega, fun c hc => ?_, fun m hm hall => h3 m (by have := hall d List.mem_cons_self; omega) fun c hc => hall c (List.mem_cons_of_mem _ hc)⟩
    rcases List.mem_cons.1 hc with rfl | hc
    · omega
    · exact h2 c hc
theorem foldMax (f : Int → Int) : ∀ (l : List Int) (a : Int), a ≤ l.foldl (fun h c => max h (f c)) a ∧ (∀ c ∈ l, f c ≤ l.foldl (fun h c => max h (f c)) a) ∧ ∀ m, a ≤ m → (∀ c ∈ l, f c ≤ m) → l.foldl (fun h c => max h (f c)) a ≤ m
  | [], a => ⟨Int.le_refl _, fun c h => (by cases h), fun m h _ => h⟩
  | d :: r, a => by
    obtain ⟨h1, h2, h3⟩ := foldMax f r (max a (f d))
    simp only [List.foldl_cons]
    refine ⟨by omega, fun c hc => ?_, fun m hm hall => h3 m (by have := hall d List.mem_cons_self; omega) fun c hc => hall c (List.mem_cons_of_mem _ hc)⟩
    rcases List.mem_cons.1 hc with rfl | hc
    · omega
    · exact h2 c hc

theorem valid_ext {l : List NetAt} {n : Int} {order : List Int} (hE : Bus.bothErr (l.map NetAt.net) n order = 0) (i : Nat) (hi : i < l.length) :
    (Bus.exts (Bus.atUp order order.length) (l.map NetAt.net)).getD i (0, 0) = refExt order ((l.map NetAt.cols).getD i []) ∧ 0 ≤ (refExt order ((l.map NetAt.cols).getD i [])).1 ∧ (refExt order ((l.map NetAt.cols).getD i [])).1 ≤ (refExt order ((l.map NetAt.cols).getD i [])).2 ∧
      (refExt order ((l.map NetAt.cols).getD i [])).2 < order.length := by
  obtain ⟨z1, z2⟩ := both_zero hE
  obtain ⟨n1, n97, l64, hcols⟩ := Bus.netsErr_zero z1
  obtain ⟨on, ond, oin⟩ := Bus.orderErr_zero z2
  have hall : ∀ c, 0 ≤ c → c < n → c ∈ order := fun c h0 h1 => has_all order.length order ond rfl (fun d hd => by have := oin d hd; omega) c h0 (by omega)
  obtain ⟨x, hx⟩ : ∃ x, l[i]? = some x := ⟨_, List.getElem?_eq_getElem hi⟩
  have hxm : x ∈ l := List.mem_of_getElem? hx
  have hc1 : (l.map NetAt.cols).getD i [] = x.cols := by simp only [List.getD_eq_getElem?_getD, List.getElem?_map, hx, Option.map_some, Option.getD_some]
  have hne := (hcols x.net (List.mem_map_of_mem hxm)).1
  have hin := (hcols x.net (List.mem_map_of_mem hxm)).2
  have hxe := ref_ext (order := order) (cols := x.cols) (n := n) ond on hne hin hall n97
  rw [hc1]
  have e1 : refExt order x.cols = Bus.ext (fun c => Bus.atUp order order.length c.toNat) x.cols := hxe
  have hp : ∀ c ∈ x.cols, 0 ≤ Bus.pos order c ∧ Bus.pos order c < order.length := fun c hc => Bus.pos_bd (hall c (hin c hc).1 (hin c hc).2)
  have hlow : Bus.refLow (Bus.pos order) (-1) x.cols = (Bus.ext (Bus.pos order) x.cols).1 := Bus.refLow_ext _ _ hne fun c hc => by have := hp c hc; omega
  obtain ⟨m1, m2, m3⟩ := foldMin (Bus.pos order) x.cols 97
  obtain ⟨k1, k2, k3⟩ := foldMax (Bus.pos order) x.cols (-1)
  obtain ⟨c0, hc0⟩ : ∃ c, c ∈ x.cols := List.exists_mem_of_ne_nil _ hne
  have hlo : (refExt order x.cols).1 = x.cols.foldl (fun l c => min l (Bus.pos order c)) 97 := hlow
  have hhi : (refExt order x.cols).2 = x.cols.foldl (fun h c => max h (Bus.pos order c)) (-1) := rfl
  refine ⟨?_, ?_, ?_, ?_⟩
  · rw [e1]
    simp [Bus.exts, hx, NetAt.net]
  · rw [hlo]; exact m3 0 (by omega) fun c hc => (hp c hc).1
  · rw [hlo, hhi]; exact Int.le_trans (m2 c0 hc0) (k2 c0 hc0)
  · rw [hhi]
    have hpos : (0 : Int) < order.length := by omega
    have := k3 (order.length - 1) (by omega) fun c hc => by have := (hp c hc).2; omega
    omega
theorem valid_meet {l : List NetAt} {n : Int} {order : List Int} (hE : Bus.bothErr (l.map NetAt.net) n order = 0) (i k : Nat) (hi : i < l.length) (hk : k < l.length) :
    meetB (Bus.exts (Bus.atUp order order.length) (l.map NetAt.net)) i k = meetFrom (refExt order ((l.map NetAt.cols).getD i [])) (refExt order ((l.map NetAt.cols).getD k [])) order.length 0 := by
  obtain ⟨a1, a2, a3, a4⟩ := valid_ext hE i hi
  obtain ⟨b1, b2, b3, b4⟩ := valid_ext hE k hk
  rw [meetFrom_eq _ _ _ ⟨a2, a3, a4⟩ ⟨b2, b3, b4⟩]
  unfold meetB
  rw [a1, b1]

theorem allHit_congr {p q : Nat → Nat → Bool} {n : Nat} (h : ∀ i k, k < i → i < n → p i k = q i k) : allHit p n = allHit q n := by
  rw [Bool.eq_iff_iff, allHit_iff, allHit_iff]
  exact ⟨fun ⟨i, k, h1, h2, h3⟩ => ⟨i, k, h1, h2, by rw [← h i k h1 h2]; exact h3⟩, fun ⟨i, k, h1, h2, h3⟩ => ⟨i, k, h1, h2, by rw [h i k h1 h2]; exact h3⟩⟩
theorem confRow_hit (xs : List (Int × Int)) (ts : List Int) (i : Nat) : ∀ k, confRow xs ts i k = rowHit (fun k => ts.getD i 0 == ts.getD k 0 && meetB xs i k) k
  | 0 => rfl
  | k + 1 => by rw [confRow, rowHit, confRow_hit xs ts i k]
theorem conf_hit (xs : List (Int × Int)) (ts : List Int) : ∀ n, conf xs ts n = allHit (fun i k => ts.getD i 0 == ts.getD k 0 && meetB xs i k) n
  | 0 => rfl
  | n + 1 => by rw [conf, allHit, conf_hit xs ts n, confRow_hit]

theorem lay_same (l : List NetAt) (n : Int) (order ts : List Int) : layErr (l.map NetAt.net) n order ts = layErrR l n order ts := by
  unfold layErr layErrR
  by_cases hE : Bus.bothErr (l.map NetAt.net) n order = 0
  · have h0 : ¬ Bus.bothErr (l.map NetAt.net) n order ≠ 0 := fun h => h hE
    rw [if_neg h0, if_neg h0, List.length_map, conf_hit]
    rw [allHit_congr (q := clashR l order ts) fun i k h1 h2 => by unfold clashR; rw [valid_meet hE i k h2 (by omega)]]
  · rw [if_pos hE, if_pos hE]
end Go.Proofs.YtbldpojkpmafpaaGreatDoor

/- The reference of package bus: Extent, Meet, covers as contracts on plain data; Clique. -/
namespace Go.Proofs.YtbldpojkpmafpaaGreatDoor
open Go.RowKit Sv
set_option maxRecDepth 100000
set_option linter.unusedVariables false
noncomputable section
abbrev tN : Ty := .pair (.int .i64) (.list false (.int .i64))
noncomputable def cCovers : Ctr := { f := 99, ps := [tN, .list false (.int .i64), .int .i64], rs := [.bool], fresh := true, pre := fun d => decide (List.length (α := Int) d.2.1 ≤ 1000) && decide (List.length (α := Int) d.1.2 ≤ 140737488355328), fn := fun d => ((covR (refExt d.2.1 d.1.2) d.2.2.1 : Bool), ()) }
--{
theorem den_net {F : Env} {w : World} {x : Int × List Int} {v : Value} (hF : OkF w F) (h : Den F (valV tN x) v) : ∃ A c, v = netV ⟨x.1, x.2, A, c⟩ ∧ Row w w.heap.size A (x.2.map (Value.int .i64)) := by
  obtain ⟨xs, h1, rfl⟩ := Den.agg_inv (cs := [.raw (.int .i64 x.1), .lst false tInt x.2]) h
  cases h1 with
  | cons h1 h2 =>
    cases h2 with
    | cons h2 h3 =>
      cases h3
      obtain ⟨A, c, rfl, _, hR⟩ := den_ints hF h2
      rw [h1.raw_eq]
      exact ⟨A, c, rfl, hR⟩
theorem cCovers_ok : cCovers.Ok Tryz.prog := fun ⟨x, order, p, _⟩ h => holds_raw fun w F xs hF hd => by
  obtain ⟨h1, h2⟩ := Bool.and_eq_true_iff.1 h
  cases hd with
  | cons d1 d2 =>
    cases d2 with
    | cons d2 d3 =>
      cases d3 with
      | cons d3 d4 =>
        cases d4
        obtain ⟨A, c, rfl, hx⟩ := den_net hF d1
        obtain ⟨A2, c2, rfl, _, hR⟩ := den_ints hF d2
        rw [d3.raw_eq]
        exact refCovers_any ⟨x.1, x.2, A, c⟩ A2 c2 w.heap.size order p w hx hR (Nat.le_refl _) (of_decide_eq_true h1) (of_decide_eq_true h2)
--}

abbrev ob (j : Nat) (l : List Int) : AV := .osl 3 (.int .i64) j 0 l.length (capOf l.length)
abbrev oe (l : List Int) : Ent := .opt 3 (.int .i64) l
--{
theorem goalL_blk {P : Program} {w0 : World} {F : Env} {n : Nat} {T : Tr AV} {H : AHeap} {Q : Exit → Tr AV → AHeap → Prop} {l rest : List Code} {id : Nat} {c : Code} (hl : l = .block id c :: rest)
    (h : GoalL P w0 F n (flatC c) T H (inB id (onN (fun T H => GoalL P w0 F n rest T H Q) Q))) : GoalL P w0 F n l T H Q := by
  subst hl
  exact Goal.block (x := c) rfl (goal_flat h)
theorem cap_snoc (l : List Int) (x : Int) : Cap.full = capOf (l ++ [x]).length := by simp [capOf]
theorem lst_back (l : List Int) : l = List.take l.length (List.drop 0 l) := by simp
theorem own_back (e : TypeId) (l : List Int) : l.length = 0 ∨ ownHas e (.int .i64) (optOwn e (.int .i64) l) (0 + l.length - 1) = true := by
  by_cases h : l.length = 0
  · exact .inl h
  · exact .inr (by rw [ownHas_optOwn]; exact decide_eq_true (show 0 + l.length - 1 < l.length by omega))
--}
end
end Go.Proofs.YtbldpojkpmafpaaGreatDoor

/- Package bus, with no program in sight: the tracks of the left ends in their order are the tracks that the reference finds. -/
namespace Go.Proofs.YtbldpojkpmafpaaGreatDoor
open Go.RowKit

def Lo (K : Nat → Int) (a b : Nat) : Prop := K a < K b ∨ K a = K b ∧ a < b
theorem Lo.trans {K : Nat → Int} {a b c : Nat} (h1 : Lo K a b) (h2 : Lo K b c) : Lo K a c := by
  unfold Lo at *; omega
def hit (meet : Nat → Nat → Bool) (out : List Int) (dn : List Nat) (i : Nat) : Bool := dn.any fun j => out.getD j 0 == out.getD i 0 && meet j i
def place (meet : Nat → Nat → Bool) (dn : List Nat) (i : Nat) : Nat → List Int → List Int
  | 0, out => out
  | m + 1, out => if hit meet out dn i = true then place meet dn i m (out.set i (out.getD i 0 + 1)) else out
theorem getD_set_ne {l : List Int} {i j : Nat} {x : Int} (h : i ≠ j) : (l.set i x).getD j 0 = l.getD j 0 := by simp [List.getD_eq_getElem?_getD, List.getElem?_set_ne h]
theorem cnt_spec (l : List Int) : ∀ k, k ≤ l.length → ∃ D : List Int, D.Nodup ∧ D.length = cntUp l k ∧ ∀ v, v ∈ D ↔ v ∈ l.take k
  | 0, _ => ⟨[], List.nodup_nil, rfl, fun v => by simp⟩
  | k + 1, hk => by
    obtain ⟨D, h1, h2, h3⟩ := cnt_spec l k (by omega)
    unfold cntUp
    split
    · rename_i h
      refine ⟨D, h1, h2, fun v => ?_⟩
      rw [h3, take_next hk, List.mem_append, List.mem_singleton]
      exact ⟨.inl, fun g => g.elim id fun e => e ▸ h⟩
    · rename_i h
      refine ⟨l.getD k 0 :: D, List.nodup_cons.2 ⟨fun g => h ((h3 _).1 g), h1⟩, by simp [h2], fun v => ?_⟩
      rw [take_next hk, List.mem_append, List.mem_singleton, List.mem_cons, h3]
      exact ⟨fun g => g.elim .inr .inl, fun g => g.elim .inr .inl⟩
theorem nodup_map_cast (m : Nat) : ((List.range m).map fun (x : Nat) => (x : Int)).Nodup := by
  unfold List.Nodup
  rw [List.pairwise_map]
  exact (List.nodup_range (n := m)).imp fun h e => h (Int.ofNat.inj e)
end Go.Proofs.YtbldpojkpmafpaaGreatDoor

/- The reference of package bus: Tracks. -/
namespace Go.Proofs.YtbldpojkpmafpaaGreatDoor
open Go.RowKit Sv
set_option maxRecDepth 100000
set_option linter.unusedVariables false
noncomputable section
def lowR (nets : List (Int × List Int)) (order : List Int) (i : Nat) : Int := Bus.refLow (Bus.pos order) (-1) (nets.getD i (0, [])).2
structure Far (nets : List (Int × List Int)) (order : List Int) (p i : Nat) (out : List Int) (dn : List Nat) : Prop where
  len : out.length = nets.length
  few : dn.length ≤ p * nets.length + i
  mem : ∀ j ∈ dn, j < nets.length ∧ 0 ≤ out.getD j 0 ∧ out.getD j 0 < dn.length ∧ (lowR nets order j < p ∨ lowR nets order j = p ∧ j < i)
  rest : ∀ j, j ∉ dn → out.getD j 0 = 0
theorem Far.next {nets : List (Int × List Int)} {order : List Int} {p : Nat} {out : List Int} {dn : List Nat} (h : Far nets order p nets.length out dn) : Far nets order (p + 1) 0 out dn :=
  ⟨h.len, by have := h.few; rw [Nat.add_mul]; omega, fun j hj => by obtain ⟨g1, g2, g3, g4⟩ := h.mem j hj; exact ⟨g1, g2, g3, by omega⟩, h.rest⟩
theorem goalL_nil {P : Program} {w0 : World} {F : Env} {n : Nat} {T : Tr AV} {H : AHeap} {Q : Exit → Tr AV → AHeap → Prop} {l : List Code} (e : l = []) (h : Q .normal T H) : GoalL P w0 F n l T H Q := by
  rw [e]; exact h
end
end Go.Proofs.YtbldpojkpmafpaaGreatDoor
