/- The reference of package bus: Tracks whole; Tracks and Clique as contracts. -/
import Derived.Test.YtbldpojkpmafpaaGreatDoorZaVRef4
import Derived.Test.YtbldpojkpmafpaaGreatDoorZaBusRefNets
import Derived.Test.YtbldpojkpmafpaaGreatDoorZaBusOwn
import Derived.Test.YtbldpojkpmafpaaGreatDoorZaBusTap1
import Derived.Deep.RegionWith
import Derived.Test.YtbldpojkpmafpaaGreatDoorZaLayKit
import Derived.BigQuiet
namespace Go.Proofs.YtbldpojkpmafpaaGreatDoor
open Go.RowKit Sv
set_option maxRecDepth 100000
set_option linter.unusedVariables false
noncomputable section
def okNets (nets : List (Int × List Int)) (order : List Int) : Bool := decide (nets.length ≤ 500) && (decide (order.length ≤ 1000) && nets.all fun x => decide (x.2.length ≤ 140737488355328))
theorem okNets_iff {nets : List (Int × List Int)} {order : List Int} (h : okNets nets order = true) : nets.length ≤ 500 ∧ order.length ≤ 1000 ∧ ∀ x ∈ nets, x.2.length ≤ 140737488355328 := by
  unfold okNets at h
  simp only [Bool.and_eq_true, decide_eq_true_eq, List.all_eq_true] at h
  exact ⟨h.1, h.2.1, h.2.2⟩
end
end Go.Proofs.YtbldpojkpmafpaaGreatDoor

/- Package bus: Tracks, Clique as contracts on plain data. -/
namespace Go.Proofs.YtbldpojkpmafpaaGreatDoor
open Go.RowKit Sv
set_option maxRecDepth 100000
set_option linter.unusedVariables false
noncomputable section
abbrev extsOf (nets : List (Int × List Int)) (order : List Int) : List (Int × Int) := Bus.exts (Bus.atUp order order.length) nets
end
end Go.Proofs.YtbldpojkpmafpaaGreatDoor

/- integraphlaw07.awake: it returns true in every world, and leaves what lay there: the kernel runs it. -/
namespace Go.Proofs.YtbldpojkpmafpaaGreatDoor
open Go.RowKit Sv

set_option maxRecDepth 1000000
theorem awake_runs : okv (acall Tryz.prog (acode Tryz.prog (sdraw Tryz.prog noS) 400) 8 [] H64) = true := by kernel_rfl
theorem awake_calls (w : World) : Calls Tryz.prog 8 #[] w fun e w' => e = .returned (.bool true) ∧ Below w.heap.size w w' := opened known mixed 400 awake_runs w
end Go.Proofs.YtbldpojkpmafpaaGreatDoor

/- Of integraphlaw07: what the laws share: awake; facts on plain data. -/
namespace Go.Proofs.YtbldpojkpmafpaaGreatDoor
open Go.RowKit Sv
set_option maxRecDepth 100000
set_option linter.unusedVariables false
noncomputable section
noncomputable def cAwake : Ctr := { f := 8, ps := [], rs := [.bool], fresh := true, pre := fun _ => true, fn := fun _ => (true, ()) }
--{
theorem cAwake_ok : cAwake.Ok Tryz.prog := fun _ _ => holds_raw fun w F xs hF hd => by
  cases hd
  exact awake_calls w
def mkNets (nets : List (Int × List Int)) : List NetAt := nets.map fun x => ⟨x.1, x.2, none, 0⟩
theorem mkNets_net (nets : List (Int × List Int)) : (mkNets nets).map NetAt.net = nets := by
  unfold mkNets
  rw [List.map_map]
  exact List.map_id _
theorem ext_at {nets : List (Int × List Int)} {n : Int} {order : List Int} (hE : Bus.bothErr nets n order = 0) (i : Nat) (hi : i < nets.length) :
    (extsOf nets order).getD i (0, 0) = refExt order (nets.getD i (0, [])).2 ∧ 0 ≤ (refExt order (nets.getD i (0, [])).2).1 ∧ (refExt order (nets.getD i (0, [])).2).1 ≤ (refExt order (nets.getD i (0, [])).2).2 ∧ (refExt order (nets.getD i (0, [])).2).2 < order.length := by
  have h := valid_ext (l := mkNets nets) (n := n) (order := order) (by rw [mkNets_net]; exact hE) i (by unfold mkNets; simpa using hi)
  have e : ((mkNets nets).map NetAt.cols).getD i [] = (nets.getD i (0, [])).2 := by
    unfold mkNets
    simp only [List.getD_eq_getElem?_getD, List.getElem?_map, List.getElem?_eq_getElem hi, Option.map_some, Option.getD_some]
  rw [mkNets_net, e] at h
  exact h
theorem extsOf_len (nets : List (Int × List Int)) (order : List Int) : (extsOf nets order).length = nets.length := by simp [Bus.exts]
theorem both_iff {nets : List (Int × List Int)} {n : Int} {order : List Int} : Bus.bothErr nets n order = 0 ↔ Bus.netsErr nets n = 0 ∧ Bus.orderErr order n = 0 := by
  unfold Bus.bothErr
  split
  · rename_i h; exact ⟨fun e => absurd e h, fun e => absurd e.1 h⟩
  · rename_i h; exact ⟨fun e => ⟨Classical.not_not.1 h, e⟩, fun e => e.2⟩
--}
end
end Go.Proofs.YtbldpojkpmafpaaGreatDoor

/- Package bus, plain: the tracks are a layout, as many as the nets of the clique; any layout has at least so many. -/
namespace Go.Proofs.YtbldpojkpmafpaaGreatDoor
open Go.RowKit Sv
set_option linter.unusedVariables false

section
variable {nets : List (Int × List Int)} {n : Int} {order : List Int}
theorem lay_zero {ts : List Int} (hE : Bus.bothErr nets n order = 0) (h : layErr nets n order ts = 0) : ts.length = nets.length ∧ (∀ t ∈ ts, 0 ≤ t ∧ t < 64) ∧ conf (extsOf nets order) ts nets.length = false := by
  unfold layErr at h
  rw [if_neg (fun g => g hE)] at h
  by_cases h1 : ts.length ≠ nets.length
  · rw [if_pos h1] at h; cases h
  · rw [if_neg h1] at h
    by_cases h2 : farB ts = true
    · rw [if_pos h2] at h; cases h
    · rw [if_neg h2] at h
      by_cases h3 : conf (extsOf nets order) ts nets.length = true
      · rw [if_pos h3] at h; cases h
      · refine ⟨Classical.not_not.1 h1, fun t ht => ?_, by simpa using h3⟩
        unfold farB at h2
        rw [List.any_eq_true] at h2
        by_cases hh : 0 ≤ t ∧ t < 64
        · exact hh
        · exact absurd ⟨t, ht, by rw [Bool.or_eq_true, decide_eq_true_eq, decide_eq_true_eq]; omega⟩ h2
end
end Go.Proofs.YtbldpojkpmafpaaGreatDoor

/- Package bus and its reference: CheckLayout, CheckClique, Width as contracts on plain data. -/
namespace Go.Proofs.YtbldpojkpmafpaaGreatDoor
open Go.RowKit Sv
set_option maxRecDepth 100000
set_option linter.unusedVariables false
theorem refCheckLayout_any (A A2 A3 : Option Addr) (c c2 c3 B : Nat) (l : List NetAt) (order ts : List Int) (n : Int) (w : World) (h : NetsIn w B A l) (h2 : Row w B A2 (order.map (Value.int .i64))) (h3 : Row w B A3 (ts.map (Value.int .i64))) (hB : B ≤ w.heap.size) (hl : l.length ≤ 140737488355328) (hl2 : order.length ≤ 1000000) (hl3 : ts.length ≤ 1000000) (hc2 : order.length ≤ c2) :
    Calls Tryz.prog 18 #[.slice A l.length c, .int .i64 n, .agg #[.slice A2 order.length c2, .slice A3 ts.length c3]] w fun e w' => e = .returned (.int .i64 (layErrR l n order ts)) ∧ Below w.heap.size w w' := by
  by_cases hE : Bus.bothErr (l.map NetAt.net) n order = 0
  · exact refCheckLayout_ok A A2 A3 c c2 c3 B l order ts n w h h2 h3 hB hl hl2 hl3 hc2 hE
  · have := refCheckLayout_bad A A2 A3 c c2 c3 B l order ts n w h h2 hB hl hl2 hc2 _ rfl hE
    unfold layErrR
    rw [if_pos hE]
    exact this
noncomputable section
abbrev yv (a b : List Int) : AV := .agg [lv a, lv b]
def okLay (nets : List (Int × List Int)) (order ts : List Int) : Bool := goodB nets && (decide (nets.length ≤ 1000) && (decide (order.length ≤ 1000) && (order.all (fun c => decide (I64 c)) && decide (ts.length ≤ 1000))))
theorem okLay_iff {nets : List (Int × List Int)} {order ts : List Int} (h : okLay nets order ts = true) : GoodNets nets ∧ nets.length ≤ 1000 ∧ order.length ≤ 1000 ∧ (∀ c ∈ order, I64 c) ∧ ts.length ≤ 1000 := by
  unfold okLay at h
  simp only [Bool.and_eq_true, decide_eq_true_eq, List.all_eq_true] at h
  obtain ⟨h1, h2, h3, h4, h5⟩ := h
  exact ⟨goodB_iff.1 h1, h2, h3, h4, h5⟩
noncomputable def cLayB : Ctr := { f := 51, ps := [.list false tN, .int .i64, .pair (.list false (.int .i64)) (.list false (.int .i64))], rs := [.int .i64], fresh := true, pre := fun d => okLay d.1 d.2.2.1.1 d.2.2.1.2, fn := fun d => (layErr d.1 d.2.1 d.2.2.1.1 d.2.2.1.2, ()) }
noncomputable def cLayR : Ctr := { f := 18, ps := [.list false tN, .int .i64, .pair (.list false (.int .i64)) (.list false (.int .i64))], rs := [.int .i64], fresh := true, pre := fun d => okLay d.1 d.2.2.1.1 d.2.2.1.2, fn := fun d => (layErr d.1 d.2.1 d.2.2.1.1 d.2.2.1.2, ()) }
theorem dens_lay {F : Env} {w : World} {nets : List (Int × List Int)} {n : Int} {order ts : List Int} {xs : List Value} (hF : OkF w F) (hg : GoodNets nets) (hd : Dens F [nv nets, iv n, yv order ts] xs) :
    ∃ (A A2 A3 : Option Addr) (c c2 c3 : Nat) (l : List NetAt), xs = [.slice A l.length c, .int .i64 n, .agg #[.slice A2 order.length c2, .slice A3 ts.length c3]] ∧ l.map NetAt.net = nets ∧ NetsIn w w.heap.size A l ∧ Row w w.heap.size A2 (order.map (Value.int .i64)) ∧ Row w w.heap.size A3 (ts.map (Value.int .i64)) ∧ order.length ≤ c2 ∧ ts.length ≤ c3 := by
  cases hd with
  | cons d1 d2 =>
    cases d2 with
    | cons d2 d3 =>
      cases d3 with
      | cons d3 d4 =>
        cases d4
        obtain ⟨A, c, l, rfl, h1, h2⟩ := den_nets hF hg d1
        obtain ⟨ys, e1, rfl⟩ := Den.agg_inv (cs := [lv order, lv ts]) d3
        cases e1 with
        | cons e1 e2 =>
          cases e2 with
          | cons e2 e3 =>
            cases e3
            obtain ⟨A2, c2, rfl, hc2, h3⟩ := den_ints hF e1
            obtain ⟨A3, c3, rfl, hc3, h4⟩ := den_ints hF e2
            exact ⟨A, A2, A3, c, c2, c3, l, by rw [d2.raw_eq], h1, h2, h3, h4, hc2, hc3⟩
theorem cLayB_holds (nets : List (Int × List Int)) (n : Int) (order ts : List Int) (h : okLay nets order ts = true) : Holds Tryz.prog true 51 [nv nets, iv n, yv order ts] (iv (layErr nets n order ts)) := holds_raw fun w F xs hF hd => by
  obtain ⟨h1, h2, h3, h4, h5⟩ := okLay_iff h
  obtain ⟨A, A2, A3, c, c2, c3, l, rfl, hl, hN, hR, hS, q2, q3⟩ := dens_lay hF h1 hd
  have hll : l.length = nets.length := by rw [← hl, List.length_map]
  have := CheckLayout_any A A2 A3 c c2 c3 w.heap.size l order ts n w hN hR hS h4 (Nat.le_refl _) (by omega) (by omega) (by omega)
  rw [hl] at this
  exact this
theorem cLayB_ok : cLayB.Ok Tryz.prog := fun ⟨nets, n, ⟨order, ts⟩, _⟩ h => cLayB_holds nets n order ts h
theorem cLayR_holds (nets : List (Int × List Int)) (n : Int) (order ts : List Int) (h : okLay nets order ts = true) : Holds Tryz.prog true 18 [nv nets, iv n, yv order ts] (iv (layErr nets n order ts)) := holds_raw fun w F xs hF hd => by
  obtain ⟨h1, h2, h3, h4, h5⟩ := okLay_iff h
  obtain ⟨A, A2, A3, c, c2, c3, l, rfl, hl, hN, hR, hS, q2, q3⟩ := dens_lay hF h1 hd
  have hll : l.length = nets.length := by rw [← hl, List.length_map]
  have := refCheckLayout_any A A2 A3 c c2 c3 w.heap.size l order ts n w hN hR hS (Nat.le_refl _) (by omega) (by omega) (by omega) (by omega)
  rw [← lay_same, hl] at this
  exact this
theorem cLayR_ok : cLayR.Ok Tryz.prog := fun ⟨nets, n, ⟨order, ts⟩, _⟩ h => cLayR_holds nets n order ts h
def BWidth : Code := (Tryz.f27.body).getD .skip
theorem width_any (order ts : List Int) (h1 : List.length ts ≤ (1000000 : Nat)) :
    Tst.path (vrun0 Tryz.prog (ctrs [cCount]) (fl BWidth []) 10 6 [yv order ts]) [] (toRet Tryz.prog Tryz.f27 true (iv (cntUp ts ts.length))) := by
  have eTst : (Tst.path (vrun0 Tryz.prog (ctrs [cCount]) (fl BWidth []) 10 6 [yv order ts]) [] (toRet Tryz.prog Tryz.f27 true (iv (cntUp ts ts.length)))) = (((decide (List.length ts ≤ (1000000 : Nat))) = true) ∧ ((↑(cntUp ts (List.length ts)) : Int)) = ((↑(cntUp ts (List.length ts)) : Int))) := by kernel_rfl
  exact eTst.mpr ⟨decide_eq_true h1, rfl⟩
theorem width_holds (order ts : List Int) (hl : ts.length ≤ 1000000) : Holds Tryz.prog true 27 [yv order ts] (iv (cntUp ts ts.length)) := by
  refine holds_fl (c := BWidth) Tryz.func27 rfl rfl fun w F => ?_
  exact GoalL.ret known mixed (one_ok cCount_ok) 10 _ (width_any order ts hl) fun T H h => h
noncomputable def cWidth : Ctr := { f := 27, ps := [.pair (.list false (.int .i64)) (.list false (.int .i64))], rs := [.int .i64], fresh := true, pre := fun d => decide (List.length (α := Int) d.1.2 ≤ 1000000), fn := fun d => (((cntUp d.1.2 (List.length (α := Int) d.1.2) : Nat) : Int), ()) }
theorem cWidth_ok : cWidth.Ok Tryz.prog := fun ⟨⟨order, ts⟩, _⟩ h => width_holds order ts (of_decide_eq_true h)
end
end Go.Proofs.YtbldpojkpmafpaaGreatDoor

/- Package bus: Crossings of a layout that the check passes. -/
namespace Go.Proofs.YtbldpojkpmafpaaGreatDoor
open Go.RowKit

theorem col_few (n : Int) : ∀ (cs : List Int) (last : Int), last < n → Bus.colErr n last cs = 0 → (cs.length : Int) ≤ n - 1 - last
  | [], last, h, _ => by simp; omega
  | c :: r, last, h, he => by
    unfold Bus.colErr at he
    split at he
    · cases he
    · split at he
      · cases he
      · rename_i h1 h2
        have := col_few n r c (by omega) he
        simp; omega
theorem nets_few (n : Int) (hn : 1 ≤ n) : ∀ (l : List Bus.Net) (seen : List Int), Bus.netsFrom n seen l = 0 → ∀ x ∈ l, (x.2.length : Int) ≤ n
  | [], _, _ => by intro x hx; cases hx
  | x :: r, seen, h => by
    unfold Bus.netsFrom at h
    split at h
    · cases h
    · split at h
      · cases h
      · split at h
        · cases h
        · split at h
          · exact absurd h (by assumption)
          · intro y hy
            rcases List.mem_cons.1 hy with rfl | hy
            · have := col_few n y.2 (-1) (by omega) (by rename_i h4; exact Classical.not_not.1 h4)
              omega
            · exact nets_few n hn r _ h y hy
theorem cnt_bd (M : Nat) : ∀ (ls : List (List Int)), (∀ x ∈ ls, x.length ≤ M) → cntTo ls ls.length ≤ ls.length * M
  | [], _ => by simp [cntTo]
  | c :: r, h => by
    have h1 := h c List.mem_cons_self
    have h2 := cnt_bd M r fun x hx => h x (List.mem_cons_of_mem _ hx)
    show c.length + cntTo r r.length ≤ (r.length + 1) * M
    rw [Nat.add_mul, Nat.one_mul]; omega
theorem taps_few {l : List NetAt} {n : Int} (h : Bus.netsErr (l.map NetAt.net) n = 0) (Fp : Nat → Int) : (tapFrom Fp 0 (l.map NetAt.cols)).length ≤ 6208 := by
  obtain ⟨n1, n97, l64, _⟩ := Bus.netsErr_zero h
  have hf : Bus.netsFrom n [] (l.map NetAt.net) = 0 := by
    unfold Bus.netsErr at h
    rw [if_neg (by omega), if_neg (by omega)] at h
    exact h
  have hc : ∀ x ∈ l.map NetAt.cols, x.length ≤ 97 := fun x hx => by
    obtain ⟨y, hy, rfl⟩ := List.mem_map.1 hx
    have := nets_few n n1 _ [] hf y.net (List.mem_map_of_mem hy)
    have e : y.net.2 = y.cols := rfl
    rw [e] at this
    omega
  have := cnt_bd 97 (l.map NetAt.cols) hc
  rw [tap_len]
  rw [List.length_map] at this l64 ⊢
  omega

def crossOf (nets : List Bus.Net) (order ts : List Int) (most : Int) : Int :=
  (crossRun (tapF (Bus.exts (Bus.atUp order order.length) nets) ts (tapFrom (Bus.atUp order order.length) 0 (nets.map Prod.snd))) most 0 (List.range (tapFrom (Bus.atUp order order.length) 0 (nets.map Prod.snd)).length)).1

end Go.Proofs.YtbldpojkpmafpaaGreatDoor

/- Package bus: Crossings and Extents as contracts on plain data. -/
namespace Go.Proofs.YtbldpojkpmafpaaGreatDoor
open Go.RowKit Sv
set_option maxRecDepth 100000
set_option linter.unusedVariables false
noncomputable section
theorem both_of_lay {nets : List (Int × List Int)} {n : Int} {order ts : List Int} (h : layErr nets n order ts = 0) : Bus.bothErr nets n order = 0 := by
  unfold layErr at h
  by_cases hE : Bus.bothErr nets n order = 0
  · exact hE
  · rw [if_pos hE] at h; exact absurd h hE
theorem fresh_den {w' : World} {n0 : Nat} {at' : Nat → Option (Nat × Nat)} {t : Ty} {xs : List t.den} {ys : List Value} {A : Option Addr} {c : Nat} (h : Row w' w'.heap.size A ys) (hd : Dens ⟨at', fun b => if n0 ≤ b then cellsOf? w' b else none⟩ (t.flat xs) ys) (hs : 1 ≤ t.size) (hf : xs = [] ∨ FreshA n0 A) (hc : xs.length ≤ c) :
    Den ⟨at', fun b => if n0 ≤ b then cellsOf? w' b else none⟩ (.lst false t xs) (.slice A xs.length c) := by
  by_cases hx : xs = []
  · subst hx; exact .lstNil fun e => by cases e
  · have hf := hf.resolve_left hx
    have hlen := hd.length
    rw [t.flat_len] at hlen
    have hxl : 0 < xs.length := List.length_pos_iff.2 hx
    have hpos : 0 < ys.length := by rw [hlen]; exact Nat.mul_pos hxl hs
    rcases h with h | ⟨b, off, rfl, hlt, hcs⟩
    · subst h; exact absurd hpos (Nat.lt_irrefl 0)
    · have hb := hf b off rfl
      have h0 := hcs 0 hpos
      cases ho : w'.heap[b]? with
      | none => simp [World.cell?, ho] at h0
      | some o =>
        cases o with
        | cells Arr e fr =>
          have hall : ∀ i (hi : i < ys.length), Arr[off + i]? = some ys[i] := fun i hi => by
            have := hcs i hi
            rw [cell_of ho] at this
            rw [this]
            simp [List.getD_eq_getElem?_getD, List.getElem?_eq_getElem hi]
          have hsz : off + ys.length ≤ Arr.size := by
            have := hall (ys.length - 1) (by omega)
            have := (Array.getElem?_eq_some_iff.1 this).1
            omega
          have hfl : (t.flat xs).length = ys.length := hd.length.symm
          have hys : (Arr.toList.drop off).take (t.flat xs).length = ys := by
            rw [hfl]
            apply List.ext_getElem?
            intro i
            rw [List.getElem?_take]
            by_cases hi : i < ys.length
            · rw [if_pos hi, List.getElem?_drop, Array.getElem?_toList, hall i hi, List.getElem?_eq_getElem hi]
            · rw [if_neg hi, List.getElem?_eq_none (by omega)]
          refine .lst (A := Arr) (b := b) (off := off) ?_ (by rw [hfl]; exact hsz) hys hd hc fun e => by cases e
          show (if n0 ≤ b then cellsOf? w' b else none) = some Arr
          rw [if_pos hb]; exact cellsOf?_some.2 ⟨e, fr, ho⟩
        | _ => simp [World.cell?, ho] at h0
end
noncomputable section
end
end Go.Proofs.YtbldpojkpmafpaaGreatDoor

/- All orders of the numbers below n, in plain Lean: by prefixes, by levels; what is the least of them. -/
namespace Go.Proofs.YtbldpojkpmafpaaGreatDoor
def ext (m : Nat) : Nat → List Int → List (List Int)
  | 0, ch => [ch]
  | d + 1, ch => (List.range m).flatMap fun k : Nat => if (k : Int) ∈ ch then [] else ext m d (ch ++ [(k : Int)])
def extTo (m d : Nat) (ch : List Int) (k : Nat) : List (List Int) := (List.range k).flatMap fun k : Nat => if (k : Int) ∈ ch then [] else ext m d (ch ++ [(k : Int)])
theorem extTo_next (m d : Nat) (ch : List Int) (k : Nat) : extTo m d ch (k + 1) = extTo m d ch k ++ if (k : Int) ∈ ch then [] else ext m d (ch ++ [(k : Int)]) := by
  unfold extTo
  rw [List.range_succ, List.flatMap_append]
  simp
theorem extTo_all (m d : Nat) (ch : List Int) : extTo m d ch m = ext m (d + 1) ch := rfl
def moreTo (l : List Int) (k : Nat) : List (List Int) := (List.range k).flatMap fun k : Nat => if (k : Int) ∈ l then [] else [l ++ [(k : Int)]]
theorem moreTo_next (l : List Int) (k : Nat) : moreTo l (k + 1) = moreTo l k ++ if (k : Int) ∈ l then [] else [l ++ [(k : Int)]] := by
  unfold moreTo
  rw [List.range_succ, List.flatMap_append]
  simp
def nextTo (n : Nat) (ls : List (List Int)) (i : Nat) : List (List Int) := (ls.take i).flatMap fun l => moreTo l n
def level (n : Nat) : Nat → List (List Int)
  | 0 => [[]]
  | k + 1 => nextTo n (level n k) (level n k).length
theorem nextTo_next (n : Nat) (ls : List (List Int)) (i : Nat) (l : List Int) (h : ls[i]? = some l) : nextTo n ls (i + 1) = nextTo n ls i ++ moreTo l n := by
  unfold nextTo
  rw [List.take_add_one, h, List.flatMap_append]
  simp
theorem level_ext (n : Nat) : ∀ (k d : Nat), (level n k).flatMap (ext n d) = ext n (k + d) []
  | 0, d => by simp [level]
  | k + 1, d => by
    have e : (level n (k + 1)).flatMap (ext n d) = (level n k).flatMap (ext n (d + 1)) := by
      show ((nextTo n (level n k) (level n k).length)).flatMap (ext n d) = _
      unfold nextTo
      rw [List.take_length, List.flatMap_assoc]
      congr 1
      funext l
      unfold moreTo
      rw [List.flatMap_assoc]
      show _ = (List.range n).flatMap _
      congr 1
      funext k
      by_cases h : (k : Int) ∈ l <;> simp [h]
    rw [e, level_ext n k (d + 1)]
    congr 1
    omega
theorem level_all (n : Nat) : level n n = ext n n [] := by
  have h := level_ext n n 0
  have e : (level n n).flatMap (ext n 0) = level n n := by
    show (level n n).flatMap (fun ch => [ch]) = _
    simp
  rw [e, Nat.add_zero] at h
  exact h
structure IsOrd (m : Nat) (p : List Int) : Prop where
  len : p.length = m
  bd : ∀ x ∈ p, 0 ≤ x ∧ x < m
  nd : p.Nodup
theorem ext_mem (m : Nat) : ∀ (d : Nat) (ch p : List Int), p ∈ ext m d ch ↔ ∃ t, p = ch ++ t ∧ t.length = d ∧ (∀ x ∈ t, 0 ≤ x ∧ x < m ∧ x ∉ ch) ∧ t.Nodup
  | 0, ch, p => by
    show p ∈ [ch] ↔ _
    rw [List.mem_singleton]
    constructor
    · rintro rfl
      exact ⟨[], by simp, rfl, (fun x hx => by cases hx), List.nodup_nil⟩
    · rintro ⟨t, rfl, h, _⟩
      rw [List.eq_nil_of_length_eq_zero h, List.append_nil]
  | d + 1, ch, p => by
    show p ∈ (List.range m).flatMap _ ↔ _
    rw [List.mem_flatMap]
    constructor
    · rintro ⟨k, hk, hp⟩
      have hk := List.mem_range.1 hk
      by_cases hc : (k : Int) ∈ ch
      · rw [if_pos hc] at hp; cases hp
      · rw [if_neg hc, ext_mem m d] at hp
        obtain ⟨t, rfl, h1, h2, h3⟩ := hp
        refine ⟨(k : Int) :: t, by simp, by simp [h1], fun x hx => ?_, ?_⟩
        · rcases List.mem_cons.1 hx with rfl | hx
          · exact ⟨by omega, by omega, hc⟩
          · obtain ⟨a, b, c⟩ := h2 x hx
            exact ⟨a, b, fun h => c (List.mem_append_left _ h)⟩
        · refine List.nodup_cons.2 ⟨fun h => ?_, h3⟩
          exact (h2 _ h).2.2 (by simp)
    · rintro ⟨t, rfl, h1, h2, h3⟩
      cases t with
      | nil => cases h1
      | cons x t =>
        obtain ⟨a, b, c⟩ := h2 x List.mem_cons_self
        refine ⟨x.toNat, List.mem_range.2 (by omega), ?_⟩
        have e : ((x.toNat : Nat) : Int) = x := by omega
        rw [e, if_neg c, ext_mem m d]
        obtain ⟨n1, n2⟩ := List.nodup_cons.1 h3
        refine ⟨t, by simp, by simpa using h1, fun y hy => ?_, n2⟩
        obtain ⟨a', b', c'⟩ := h2 y (List.mem_cons_of_mem _ hy)
        refine ⟨a', b', fun h => ?_⟩
        rcases List.mem_append.1 h with h | h
        · exact c' h
        · rw [List.mem_singleton] at h
          subst h
          exact n1 hy
theorem ord_mem (m : Nat) (p : List Int) : p ∈ ext m m [] ↔ IsOrd m p := by
  rw [ext_mem]
  constructor
  · rintro ⟨t, rfl, h1, h2, h3⟩
    exact ⟨by simpa using h1, fun x hx => by have := h2 x (by simpa using hx); exact ⟨this.1, this.2.1⟩, by simpa using h3⟩
  · rintro ⟨h1, h2, h3⟩
    exact ⟨p, by simp, h1, fun x hx => ⟨(h2 x hx).1, (h2 x hx).2, by simp⟩, h3⟩

section
variable {α κ : Type} (key : α → κ) (lt : κ → κ → Bool)
def bestStep (st : Option α) (x : α) : Option α := match st with
  | none => some x
  | some b => if lt (key x) (key b) = true then some x else some b
def bestOf (l : List α) : Option α := l.foldl (bestStep key lt) none
theorem bestOf_snoc (l : List α) (x : α) : bestOf key lt (l ++ [x]) = bestStep key lt (bestOf key lt l) x := by
  unfold bestOf; rw [List.foldl_append]; rfl
theorem bestOf_mem : ∀ (l : List α), (l = [] ∧ bestOf key lt l = none) ∨ ∃ b, bestOf key lt l = some b ∧ b ∈ l := by
  intro l
  suffices h : ∀ (r : List α) (st : Option α), (r = [] ∧ r.foldl (bestStep key lt) st = st) ∨ ∃ b, r.foldl (bestStep key lt) st = some b ∧ (b ∈ r ∨ st = some b) by
    rcases h l none with h | ⟨b, h1, h2 | h2⟩
    · exact .inl h
    · exact .inr ⟨b, h1, h2⟩
    · cases h2
  intro r
  induction r with
  | nil => intro st; exact .inl ⟨rfl, rfl⟩
  | cons x r ih =>
    intro st
    right
    show ∃ b, r.foldl (bestStep key lt) (bestStep key lt st x) = some b ∧ _
    have hx : ∃ y, bestStep key lt st x = some y ∧ (y = x ∨ st = some y) := by
      cases st with
      | none => exact ⟨x, rfl, .inl rfl⟩
      | some b =>
        by_cases hl : lt (key x) (key b) = true
        · exact ⟨x, by simp [bestStep, hl], .inl rfl⟩
        · exact ⟨b, by simp [bestStep, hl], .inr rfl⟩
    obtain ⟨y, hy, hy2⟩ := hx
    rcases ih (bestStep key lt st x) with ⟨rfl, h⟩ | ⟨b, h1, h2⟩
    · rw [hy] at h ⊢
      refine ⟨y, rfl, ?_⟩
      rcases hy2 with rfl | h2
      · exact .inl List.mem_cons_self
      · exact .inr h2
    · refine ⟨b, h1, ?_⟩
      rcases h2 with h2 | h2
      · exact .inl (List.mem_cons_of_mem _ h2)
      · rw [hy] at h2
        cases h2
        rcases hy2 with rfl | h2
        · exact .inl List.mem_cons_self
        · exact .inr h2
end
def lexB : List Int → List Int → Bool
  | a :: l, b :: m => if a = b then lexB l m else decide (a < b)
  | [], _ :: _ => true
  | _, [] => false
end Go.Proofs.YtbldpojkpmafpaaGreatDoor

/- Lists of integers compared, by the library and by the reference. -/
namespace Go.Proofs.YtbldpojkpmafpaaGreatDoor
open Go.RowKit Sv
set_option maxRecDepth 100000
set_option linter.unusedVariables false
noncomputable section
def cmpI (a b : List Int) : Int := if lexB a b = true then -1 else if lexB b a = true then 1 else 0
def BCmp : Code := (Tryz.f46.body).getD .skip
def BLess : Code := (Tryz.f50.body).getD .skip
def SCmp (a b : List Int) (i : Nat) : St := { n := 36, sl := [(0, lv a), (1, lv b), (9, lv a), (10, iv a.length), (11, iv i)], en := [], next := 64 }
def SLess (a b : List Int) (i : Nat) : St := { n := 30, sl := [(0, lv a), (1, lv b), (5, iv i)], en := [], next := 64 }
theorem cmp_start (a b : List Int)  :
    Tst.path (vrun0 Tryz.prog (ctrs []) (fl BCmp []) 2 36 [lv a, lv b]) [] (toSt Tryz.prog 36 .normal [] (SCmp a b 0)) := by
  have eTst : (Tst.path (vrun0 Tryz.prog (ctrs []) (fl BCmp []) 2 36 [lv a, lv b]) [] (toSt Tryz.prog 36 .normal [] (SCmp a b 0))) = (((a) = (a)) ∧ ((b) = (b)) ∧ ((a) = (a)) ∧ (((↑(List.length a) : Int)) = ((↑(List.length a) : Int))) ∧ (((0 : Int)) = ((↑(0 : Nat) : Int))) ∧ True) := by kernel_rfl
  exact eTst.mpr ⟨rfl, ⟨rfl, ⟨rfl, ⟨rfl, ⟨rfl, trivial⟩⟩⟩⟩⟩
theorem cmp_far (a b : List Int) (i : Nat) (h1 : (↑i : Int) < (↑(List.length a) : Int)) (h2 : i < List.length a) (h3 : (↑i : Int) ≥ (↑(List.length b) : Int)) :
    Tst.path (vall Tryz.prog (ctrs []) (fl BCmp [1,0,1,0,0]) (SCmp a b i)) [true, true] (toRet Tryz.prog Tryz.f46 true (iv 1)) := by
  have eTst : (Tst.path (vall Tryz.prog (ctrs []) (fl BCmp [1,0,1,0,0]) (SCmp a b i)) [true, true] (toRet Tryz.prog Tryz.f46 true (iv 1))) = (((decide ((↑i : Int) < (↑(List.length a) : Int))) = true) ∧ ((decide ((0 : Int) ≤ (↑i : Int))) = true) ∧ ((decide (i < List.length a)) = true) ∧ ((decide ((↑i : Int) ≥ (↑(List.length b) : Int))) = true) ∧ ((1 : Int)) = ((1 : Int))) := by kernel_rfl
  exact eTst.mpr ⟨decide_eq_true h1, ⟨decide_eq_true (by omega), ⟨decide_eq_true h2, ⟨decide_eq_true h3, rfl⟩⟩⟩⟩
theorem cmp_lt (a b : List Int) (i : Nat) (h1 : (↑i : Int) < (↑(List.length a) : Int)) (h2 : i < List.length a) (h3 : ¬(↑i : Int) ≥ (↑(List.length b) : Int)) (h4 : i < List.length b) (h5 : List.getD a i (0 : Int) = List.getD a i (0 : Int)) (h6 : List.getD b i (0 : Int) = List.getD b i (0 : Int)) (h7 : List.getD a i (0 : Int) < List.getD b i (0 : Int)) :
    Tst.path (vall Tryz.prog (ctrs []) (fl BCmp [1,0,1,0,0]) (SCmp a b i)) [true, false, false, false, true, true] (toRet Tryz.prog Tryz.f46 true (iv (-1))) := by
  have eTst : (Tst.path (vall Tryz.prog (ctrs []) (fl BCmp [1,0,1,0,0]) (SCmp a b i)) [true, false, false, false, true, true] (toRet Tryz.prog Tryz.f46 true (iv (-1)))) = (((decide ((↑i : Int) < (↑(List.length a) : Int))) = true) ∧ ((decide ((0 : Int) ≤ (↑i : Int))) = true) ∧ ((decide (i < List.length a)) = true) ∧ ((decide ((↑i : Int) ≥ (↑(List.length b) : Int))) = false) ∧ ((decide ((0 : Int) ≤ (↑i : Int))) = true) ∧ ((decide (i < List.length b)) = true) ∧ ((List.getD a i (0 : Int) != List.getD a i (0 : Int)) = false) ∧ ((List.getD b i (0 : Int) != List.getD b i (0 : Int)) = false) ∧ ((decide (List.getD a i (0 : Int) < List.getD b i (0 : Int))) = true) ∧ (((-1 : Int) != (0 : Int)) = true) ∧ ((-1 : Int)) = ((-1 : Int))) := by kernel_rfl
  exact eTst.mpr ⟨decide_eq_true h1, ⟨decide_eq_true (by omega), ⟨decide_eq_true h2, ⟨decide_eq_false h3, ⟨decide_eq_true (by omega), ⟨decide_eq_true h4, ⟨bne_eq_false_iff_eq.mpr h5, ⟨bne_eq_false_iff_eq.mpr h6, ⟨decide_eq_true h7, ⟨rfl, rfl⟩⟩⟩⟩⟩⟩⟩⟩⟩⟩
theorem cmp_gt (a b : List Int) (i : Nat) (h1 : (↑i : Int) < (↑(List.length a) : Int)) (h2 : i < List.length a) (h3 : ¬(↑i : Int) ≥ (↑(List.length b) : Int)) (h4 : i < List.length b) (h5 : List.getD a i (0 : Int) = List.getD a i (0 : Int)) (h6 : List.getD b i (0 : Int) = List.getD b i (0 : Int)) (h7 : ¬List.getD a i (0 : Int) < List.getD b i (0 : Int)) (h8 : List.getD a i (0 : Int) > List.getD b i (0 : Int)) :
    Tst.path (vall Tryz.prog (ctrs []) (fl BCmp [1,0,1,0,0]) (SCmp a b i)) [true, false, false, false, false, true, true] (toRet Tryz.prog Tryz.f46 true (iv 1)) := by
  have eTst : (Tst.path (vall Tryz.prog (ctrs []) (fl BCmp [1,0,1,0,0]) (SCmp a b i)) [true, false, false, false, false, true, true] (toRet Tryz.prog Tryz.f46 true (iv 1))) = (((decide ((↑i : Int) < (↑(List.length a) : Int))) = true) ∧ ((decide ((0 : Int) ≤ (↑i : Int))) = true) ∧ ((decide (i < List.length a)) = true) ∧ ((decide ((↑i : Int) ≥ (↑(List.length b) : Int))) = false) ∧ ((decide ((0 : Int) ≤ (↑i : Int))) = true) ∧ ((decide (i < List.length b)) = true) ∧ ((List.getD a i (0 : Int) != List.getD a i (0 : Int)) = false) ∧ ((List.getD b i (0 : Int) != List.getD b i (0 : Int)) = false) ∧ ((decide (List.getD a i (0 : Int) < List.getD b i (0 : Int))) = false) ∧ ((decide (List.getD a i (0 : Int) > List.getD b i (0 : Int))) = true) ∧ (((1 : Int) != (0 : Int)) = true) ∧ ((1 : Int)) = ((1 : Int))) := by kernel_rfl
  exact eTst.mpr ⟨decide_eq_true h1, ⟨decide_eq_true (by omega), ⟨decide_eq_true h2, ⟨decide_eq_false h3, ⟨decide_eq_true (by omega), ⟨decide_eq_true h4, ⟨bne_eq_false_iff_eq.mpr h5, ⟨bne_eq_false_iff_eq.mpr h6, ⟨decide_eq_false h7, ⟨decide_eq_true h8, ⟨rfl, rfl⟩⟩⟩⟩⟩⟩⟩⟩⟩⟩⟩
theorem cmp_go (a b : List Int) (i : Nat) (h1 : (↑i : Int) < (↑(List.length a) : Int)) (h2 : i < List.length a) (h3 : ¬(↑i : Int) ≥ (↑(List.length b) : Int)) (h4 : i < List.length b) (h5 : List.getD a i (0 : Int) = List.getD a i (0 : Int)) (h6 : List.getD b i (0 : Int) = List.getD b i (0 : Int)) (h7 : ¬List.getD a i (0 : Int) < List.getD b i (0 : Int)) (h8 : ¬List.getD a i (0 : Int) > List.getD b i (0 : Int)) (h9 : -9223372036854775808 ≤ (↑i : Int) + (1 : Int) ∧ (↑i : Int) + (1 : Int) ≤ 9223372036854775807) :
    Tst.path (vall Tryz.prog (ctrs []) (fl BCmp [1,0,1,0,0]) (SCmp a b i)) [true, false, false, false, false, false, false] (toSt Tryz.prog 36 .normal [] (SCmp a b (i + 1))) := by
  have eTst : (Tst.path (vall Tryz.prog (ctrs []) (fl BCmp [1,0,1,0,0]) (SCmp a b i)) [true, false, false, false, false, false, false] (toSt Tryz.prog 36 .normal [] (SCmp a b (i + 1)))) = (((decide ((↑i : Int) < (↑(List.length a) : Int))) = true) ∧ ((decide ((0 : Int) ≤ (↑i : Int))) = true) ∧ ((decide (i < List.length a)) = true) ∧ ((decide ((↑i : Int) ≥ (↑(List.length b) : Int))) = false) ∧ ((decide ((0 : Int) ≤ (↑i : Int))) = true) ∧ ((decide (i < List.length b)) = true) ∧ ((List.getD a i (0 : Int) != List.getD a i (0 : Int)) = false) ∧ ((List.getD b i (0 : Int) != List.getD b i (0 : Int)) = false) ∧ ((decide (List.getD a i (0 : Int) < List.getD b i (0 : Int))) = false) ∧ ((decide (List.getD a i (0 : Int) > List.getD b i (0 : Int))) = false) ∧ (((0 : Int) != (0 : Int)) = false) ∧ ((fits IntKind.i64 ((↑i : Int) + (1 : Int))) = true) ∧ ((a) = (a)) ∧ ((b) = (b)) ∧ ((a) = (a)) ∧ (((↑(List.length a) : Int)) = ((↑(List.length a) : Int))) ∧ (((↑i : Int) + (1 : Int)) = ((↑(i + (1 : Nat)) : Int))) ∧ True) := by kernel_rfl
  exact eTst.mpr ⟨decide_eq_true h1, ⟨decide_eq_true (by omega), ⟨decide_eq_true h2, ⟨decide_eq_false h3, ⟨decide_eq_true (by omega), ⟨decide_eq_true h4, ⟨bne_eq_false_iff_eq.mpr h5, ⟨bne_eq_false_iff_eq.mpr h6, ⟨decide_eq_false h7, ⟨decide_eq_false h8, ⟨rfl, ⟨fits_i64 h9, ⟨rfl, ⟨rfl, ⟨rfl, ⟨rfl, ⟨(by omega), trivial⟩⟩⟩⟩⟩⟩⟩⟩⟩⟩⟩⟩⟩⟩⟩⟩⟩
theorem cmp_end (a b : List Int) (i : Nat) (h1 : ¬(↑i : Int) < (↑(List.length a) : Int)) :
    Tst.path (vall Tryz.prog (ctrs []) (fl BCmp [1,0,1,0,0]) (SCmp a b i)) [false] (toSt Tryz.prog 36 (.exit 0) [] (SCmp a b i)) := by
  have eTst : (Tst.path (vall Tryz.prog (ctrs []) (fl BCmp [1,0,1,0,0]) (SCmp a b i)) [false] (toSt Tryz.prog 36 (.exit 0) [] (SCmp a b i))) = (((decide ((↑i : Int) < (↑(List.length a) : Int))) = false) ∧ ((a) = (a)) ∧ ((b) = (b)) ∧ ((a) = (a)) ∧ (((↑(List.length a) : Int)) = ((↑(List.length a) : Int))) ∧ (((↑i : Int)) = ((↑i : Int))) ∧ True) := by kernel_rfl
  exact eTst.mpr ⟨decide_eq_false h1, ⟨rfl, ⟨rfl, ⟨rfl, ⟨rfl, ⟨rfl, trivial⟩⟩⟩⟩⟩⟩
theorem cmp_short (a b : List Int) (i : Nat) (h1 : (↑(List.length a) : Int) < (↑(List.length b) : Int)) :
    Tst.path (vall Tryz.prog (ctrs []) (List.drop 3 (fl BCmp [])) (SCmp a b i)) [true] (toRet Tryz.prog Tryz.f46 true (iv (-1))) := by
  have eTst : (Tst.path (vall Tryz.prog (ctrs []) (List.drop 3 (fl BCmp [])) (SCmp a b i)) [true] (toRet Tryz.prog Tryz.f46 true (iv (-1)))) = (((decide ((↑(List.length a) : Int) < (↑(List.length b) : Int))) = true) ∧ ((-1 : Int)) = ((-1 : Int))) := by kernel_rfl
  exact eTst.mpr ⟨decide_eq_true h1, rfl⟩
theorem cmp_same (a b : List Int) (i : Nat) (h1 : ¬(↑(List.length a) : Int) < (↑(List.length b) : Int)) :
    Tst.path (vall Tryz.prog (ctrs []) (List.drop 3 (fl BCmp [])) (SCmp a b i)) [false] (toRet Tryz.prog Tryz.f46 true (iv 0)) := by
  have eTst : (Tst.path (vall Tryz.prog (ctrs []) (List.drop 3 (fl BCmp [])) (SCmp a b i)) [false] (toRet Tryz.prog Tryz.f46 true (iv 0))) = (((decide ((↑(List.length a) : Int) < (↑(List.length b) : Int))) = false) ∧ ((0 : Int)) = ((0 : Int))) := by kernel_rfl
  exact eTst.mpr ⟨decide_eq_false h1, rfl⟩
theorem less_start (a b : List Int)  :
    Tst.path (vrun0 Tryz.prog (ctrs []) (fl BLess []) 2 30 [lv a, lv b]) [] (toSt Tryz.prog 30 .normal [] (SLess a b 0)) := by
  have eTst : (Tst.path (vrun0 Tryz.prog (ctrs []) (fl BLess []) 2 30 [lv a, lv b]) [] (toSt Tryz.prog 30 .normal [] (SLess a b 0))) = (((a) = (a)) ∧ ((b) = (b)) ∧ (((0 : Int)) = ((↑(0 : Nat) : Int))) ∧ True) := by kernel_rfl
  exact eTst.mpr ⟨rfl, ⟨rfl, ⟨rfl, trivial⟩⟩⟩
theorem less_ne (a b : List Int) (i : Nat) (h1 : (↑i : Int) < (↑(List.length a) : Int)) (h2 : i < List.length a) (h3 : i < List.length b) (h4 : ¬List.getD a i (0 : Int) = List.getD b i (0 : Int)) (h5 : (decide (List.getD a i (0 : Int) < List.getD b i (0 : Int))) = (decide (List.getD a i (0 : Int) < List.getD b i (0 : Int)))) :
    Tst.path (vall Tryz.prog (ctrs []) (fl BLess [1,0,1,0,0]) (SLess a b i)) [true, true] (toRet Tryz.prog Tryz.f50 true (bv (decide (a.getD i 0 < b.getD i 0)))) := by
  have eTst : (Tst.path (vall Tryz.prog (ctrs []) (fl BLess [1,0,1,0,0]) (SLess a b i)) [true, true] (toRet Tryz.prog Tryz.f50 true (bv (decide (a.getD i 0 < b.getD i 0))))) = (((decide ((↑i : Int) < (↑(List.length a) : Int))) = true) ∧ ((decide ((0 : Int) ≤ (↑i : Int))) = true) ∧ ((decide (i < List.length a)) = true) ∧ ((AV.same (AV.raw (Value.int IntKind.i64 (List.getD a i (0 : Int)))) (AV.raw (Value.int IntKind.i64 (List.getD a i (0 : Int))))) = true) ∧ ((decide ((0 : Int) ≤ (↑i : Int))) = true) ∧ ((decide (i < List.length b)) = true) ∧ ((AV.same (AV.raw (Value.int IntKind.i64 (List.getD b i (0 : Int)))) (AV.raw (Value.int IntKind.i64 (List.getD b i (0 : Int))))) = true) ∧ ((List.getD a i (0 : Int) != List.getD b i (0 : Int)) = true) ∧ ((decide ((0 : Int) ≤ (↑i : Int))) = true) ∧ ((decide (i < List.length a)) = true) ∧ ((AV.same (AV.raw (Value.int IntKind.i64 (List.getD a i (0 : Int)))) (AV.raw (Value.int IntKind.i64 (List.getD a i (0 : Int))))) = true) ∧ ((decide ((0 : Int) ≤ (↑i : Int))) = true) ∧ ((decide (i < List.length b)) = true) ∧ ((AV.same (AV.raw (Value.int IntKind.i64 (List.getD b i (0 : Int)))) (AV.raw (Value.int IntKind.i64 (List.getD b i (0 : Int))))) = true) ∧ (decide (List.getD a i (0 : Int) < List.getD b i (0 : Int))) = (decide (List.getD a i (0 : Int) < List.getD b i (0 : Int)))) := by kernel_rfl
  exact eTst.mpr ⟨decide_eq_true h1, ⟨decide_eq_true (by omega), ⟨decide_eq_true h2, ⟨same_refl (by kernel_rfl), ⟨decide_eq_true (by omega), ⟨decide_eq_true h3, ⟨same_refl (by kernel_rfl), ⟨bne_iff_ne.mpr h4, ⟨decide_eq_true (by omega), ⟨decide_eq_true h2, ⟨same_refl (by kernel_rfl), ⟨decide_eq_true (by omega), ⟨decide_eq_true h3, ⟨same_refl (by kernel_rfl), h5⟩⟩⟩⟩⟩⟩⟩⟩⟩⟩⟩⟩⟩⟩
theorem less_go (a b : List Int) (i : Nat) (h1 : (↑i : Int) < (↑(List.length a) : Int)) (h2 : i < List.length a) (h3 : i < List.length b) (h4 : List.getD a i (0 : Int) = List.getD b i (0 : Int)) (h5 : -9223372036854775808 ≤ (↑i : Int) + (1 : Int) ∧ (↑i : Int) + (1 : Int) ≤ 9223372036854775807) :
    Tst.path (vall Tryz.prog (ctrs []) (fl BLess [1,0,1,0,0]) (SLess a b i)) [true, false] (toSt Tryz.prog 30 .normal [] (SLess a b (i + 1))) := by
  have eTst : (Tst.path (vall Tryz.prog (ctrs []) (fl BLess [1,0,1,0,0]) (SLess a b i)) [true, false] (toSt Tryz.prog 30 .normal [] (SLess a b (i + 1)))) = (((decide ((↑i : Int) < (↑(List.length a) : Int))) = true) ∧ ((decide ((0 : Int) ≤ (↑i : Int))) = true) ∧ ((decide (i < List.length a)) = true) ∧ ((AV.same (AV.raw (Value.int IntKind.i64 (List.getD a i (0 : Int)))) (AV.raw (Value.int IntKind.i64 (List.getD a i (0 : Int))))) = true) ∧ ((decide ((0 : Int) ≤ (↑i : Int))) = true) ∧ ((decide (i < List.length b)) = true) ∧ ((AV.same (AV.raw (Value.int IntKind.i64 (List.getD b i (0 : Int)))) (AV.raw (Value.int IntKind.i64 (List.getD b i (0 : Int))))) = true) ∧ ((List.getD a i (0 : Int) != List.getD b i (0 : Int)) = false) ∧ ((fits IntKind.i64 ((↑i : Int) + (1 : Int))) = true) ∧ ((a) = (a)) ∧ ((b) = (b)) ∧ (((↑i : Int) + (1 : Int)) = ((↑(i + (1 : Nat)) : Int))) ∧ True) := by kernel_rfl
  exact eTst.mpr ⟨decide_eq_true h1, ⟨decide_eq_true (by omega), ⟨decide_eq_true h2, ⟨same_refl (by kernel_rfl), ⟨decide_eq_true (by omega), ⟨decide_eq_true h3, ⟨same_refl (by kernel_rfl), ⟨bne_eq_false_iff_eq.mpr h4, ⟨fits_i64 h5, ⟨rfl, ⟨rfl, ⟨(by omega), trivial⟩⟩⟩⟩⟩⟩⟩⟩⟩⟩⟩⟩
theorem less_end (a b : List Int) (i : Nat) (h1 : ¬(↑i : Int) < (↑(List.length a) : Int)) :
    Tst.path (vall Tryz.prog (ctrs []) (fl BLess [1,0,1,0,0]) (SLess a b i)) [false] (toSt Tryz.prog 30 (.exit 0) [] (SLess a b i)) := by
  have eTst : (Tst.path (vall Tryz.prog (ctrs []) (fl BLess [1,0,1,0,0]) (SLess a b i)) [false] (toSt Tryz.prog 30 (.exit 0) [] (SLess a b i))) = (((decide ((↑i : Int) < (↑(List.length a) : Int))) = false) ∧ ((a) = (a)) ∧ ((b) = (b)) ∧ (((↑i : Int)) = ((↑i : Int))) ∧ True) := by kernel_rfl
  exact eTst.mpr ⟨decide_eq_false h1, ⟨rfl, ⟨rfl, ⟨rfl, trivial⟩⟩⟩⟩
theorem less_ret (a b : List Int) (i : Nat)  :
    Tst.path (vall Tryz.prog (ctrs []) (List.drop 3 (fl BLess [])) (SLess a b i)) [] (toRet Tryz.prog Tryz.f50 true (bv false)) := by
  have eTst : (Tst.path (vall Tryz.prog (ctrs []) (List.drop 3 (fl BLess [])) (SLess a b i)) [] (toRet Tryz.prog Tryz.f50 true (bv false))) = ((false) = false) := by kernel_rfl
  exact eTst.mpr rfl
noncomputable def cCmp : Ctr := { f := 46, ps := [.list false (.int .i64), .list false (.int .i64)], rs := [.int .i64], fresh := true, pre := fun d => decide (List.length (α := Int) d.1 ≤ 1000000), fn := fun d => (cmpI d.1 d.2.1, ()) }
noncomputable def cLess : Ctr := { f := 50, ps := [.list false (.int .i64), .list false (.int .i64)], rs := [.bool], fresh := true, pre := fun d => decide (List.length (α := Int) d.1 ≤ 1000000) && decide (List.length (α := Int) d.1 = List.length (α := Int) d.2.1), fn := fun d => ((lexB d.1 d.2.1 : Bool), ()) }
theorem drop_at {l : List Int} {i : Nat} (h : i < l.length) : l.drop i = l.getD i 0 :: l.drop (i + 1) := by
  rw [getD_lt h]; exact List.drop_eq_getElem_cons h
theorem lexB_pre : ∀ (i : Nat) (a b : List Int), a.take i = b.take i → i ≤ a.length → i ≤ b.length → lexB a b = lexB (a.drop i) (b.drop i)
  | 0, _, _, _, _, _ => rfl
  | i + 1, [], _, _, h, _ => by simp at h
  | i + 1, _ :: _, [], _, _, h => by simp at h
  | i + 1, x :: a, y :: b, e, h1, h2 => by
    rw [List.take_succ_cons, List.take_succ_cons] at e
    have e1 := (List.cons.inj e).1
    have e2 := (List.cons.inj e).2
    subst e1
    show (if x = x then lexB a b else _) = _
    rw [if_pos rfl]
    exact lexB_pre i a b e2 (by simpa using h1) (by simpa using h2)
theorem lexB_lt {x y : Int} {l m : List Int} (h : x < y) : lexB (x :: l) (y :: m) = true := by
  show (if x = y then lexB l m else decide (x < y)) = true
  rw [if_neg (by omega)]; exact decide_eq_true h
theorem lexB_gt {x y : Int} {l m : List Int} (h : y < x) : lexB (x :: l) (y :: m) = false := by
  show (if x = y then lexB l m else decide (x < y)) = false
  rw [if_neg (by omega)]; exact decide_eq_false (by omega)
theorem cmp_holds (a b : List Int) (hl : a.length ≤ 1000000) : Holds Tryz.prog true 46 [lv a, lv b] (iv (cmpI a b)) := by
  have hS := none_ok
  refine holds_fl (c := BCmp) Tryz.func46 rfl rfl fun w F => ?_
  refine GoalL.to known mixed hS 2 _ (cmp_start a b) (by kernel_rfl) ?_
  refine GoalL.loop (ι := { i : Nat // i ≤ a.length ∧ i ≤ b.length ∧ a.take i = b.take i }) (id := 0) (b := cat BCmp [1,0,1,0,0]) (rest := List.drop 3 (fl BCmp [])) (by kernel_rfl) (fun i => SCmp a b i.1) (fun i => a.length - i.1) ⟨0, Nat.zero_le _, Nat.zero_le _, rfl⟩ (fun _ => rfl) ?_
  rintro ⟨i, h1, h2, h3⟩
  have hp := lexB_pre i a b h3 h1 h2
  have hq := lexB_pre i b a h3.symm h2 h1
  by_cases hlt : i < a.length
  · by_cases hb : i < b.length
    · rw [drop_at hlt, drop_at hb] at hp hq
      rcases Int.lt_trichotomy (a.getD i 0) (b.getD i 0) with h | h | h
      · refine GoalL.allRet (s := SCmp a b i) known mixed hS _ (cmp_lt a b i (by omega) hlt (by omega) hb rfl rfl h) fun T H g => ?_
        rw [show cmpI a b = -1 by unfold cmpI; rw [hp, lexB_lt h, if_pos rfl]]
        exact g
      · refine GoalL.all (s := SCmp a b i) known mixed hS _ (cmp_go a b i (by omega) hlt (by omega) hb rfl rfl (by omega) (by omega) (by omega)) (by kernel_rfl) ?_
        exact ⟨⟨i + 1, by omega, by omega, by rw [take_next hlt, take_next hb, h3, h]⟩, by simp; omega, rfl, rfl⟩
      · refine GoalL.allRet (s := SCmp a b i) known mixed hS _ (cmp_gt a b i (by omega) hlt (by omega) hb rfl rfl (by omega) (by omega)) fun T H g => ?_
        rw [show cmpI a b = 1 by unfold cmpI; rw [hp, hq, lexB_gt h, lexB_lt h, if_neg (by decide), if_pos rfl]]
        exact g
    · refine GoalL.allRet (s := SCmp a b i) known mixed hS _ (cmp_far a b i (by omega) hlt (by omega)) fun T H g => ?_
      rw [drop_at hlt, List.drop_of_length_le (show b.length ≤ i by omega)] at hp hq
      rw [show cmpI a b = 1 by unfold cmpI; rw [hp, hq]; rfl]
      exact g
  · refine GoalL.all (s := SCmp a b i) known mixed hS _ (cmp_end a b i (by omega)) (by kernel_rfl) ?_
    refine onN_exit (inB_exit ?_)
    obtain rfl : i = a.length := by omega
    rw [List.drop_of_length_le (Nat.le_refl _)] at hp hq
    by_cases hb : a.length < b.length
    · refine GoalL.allRet (s := SCmp a b a.length) known mixed hS _ (cmp_short a b _ (by omega)) fun T H g => ?_
      rw [drop_at hb] at hp
      rw [show cmpI a b = -1 by unfold cmpI; rw [hp]; rfl]
      exact g
    · refine GoalL.allRet (s := SCmp a b a.length) known mixed hS _ (cmp_same a b _ (by omega)) fun T H g => ?_
      rw [List.drop_of_length_le (show b.length ≤ a.length by omega)] at hp hq
      rw [show cmpI a b = 0 by unfold cmpI; rw [hp, hq]; rfl]
      exact g
theorem cCmp_ok : cCmp.Ok Tryz.prog := fun ⟨a, b, _⟩ h => cmp_holds a b (of_decide_eq_true h)
theorem less_holds (a b : List Int) (hl : a.length ≤ 1000000) (he : a.length = b.length) : Holds Tryz.prog true 50 [lv a, lv b] (bv (lexB a b)) := by
  have hS := none_ok
  refine holds_fl (c := BLess) Tryz.func50 rfl rfl fun w F => ?_
  refine GoalL.to known mixed hS 2 _ (less_start a b) (by kernel_rfl) ?_
  refine GoalL.loop (ι := { i : Nat // i ≤ a.length ∧ a.take i = b.take i }) (id := 0) (b := cat BLess [1,0,1,0,0]) (rest := List.drop 3 (fl BLess [])) (by kernel_rfl) (fun i => SLess a b i.1) (fun i => a.length - i.1) ⟨0, Nat.zero_le _, rfl⟩ (fun _ => rfl) ?_
  rintro ⟨i, h1, h3⟩
  have hp := lexB_pre i a b h3 h1 (by omega)
  by_cases hlt : i < a.length
  · have hb : i < b.length := by omega
    rw [drop_at hlt, drop_at hb] at hp
    by_cases h : a.getD i 0 = b.getD i 0
    · refine GoalL.all (s := SLess a b i) known mixed hS _ (less_go a b i (by omega) hlt hb h (by omega)) (by kernel_rfl) ?_
      exact ⟨⟨i + 1, by omega, by rw [take_next hlt, take_next hb, h3, h]⟩, by simp; omega, rfl, rfl⟩
    · refine GoalL.allRet (s := SLess a b i) known mixed hS _ (less_ne a b i (by omega) hlt hb h rfl) fun T H g => ?_
      have e : lexB a b = decide (a.getD i 0 < b.getD i 0) := by
        rw [hp]
        show (if a.getD i 0 = b.getD i 0 then _ else decide (a.getD i 0 < b.getD i 0)) = _
        rw [if_neg h]
      rw [e]; exact g
  · refine GoalL.all (s := SLess a b i) known mixed hS _ (less_end a b i (by omega)) (by kernel_rfl) ?_
    refine onN_exit (inB_exit ?_)
    obtain rfl : i = a.length := by omega
    refine GoalL.allRet (s := SLess a b a.length) known mixed hS _ (less_ret a b _) fun T H g => ?_
    rw [List.drop_of_length_le (Nat.le_refl _), List.drop_of_length_le (show b.length ≤ a.length by omega)] at hp
    rw [show lexB a b = false by rw [hp]; rfl]
    exact g
theorem cLess_ok : cLess.Ok Tryz.prog := fun ⟨a, b, _⟩ h => by
  obtain ⟨h1, h2⟩ := Bool.and_eq_true_iff.1 h
  exact less_holds a b (of_decide_eq_true h1) (of_decide_eq_true h2)
end
end Go.Proofs.YtbldpojkpmafpaaGreatDoor

/- Package bus and its reference: small functions as contracts: CheckNets, Length, the place of a number in a list, lists compared. -/
namespace Go.Proofs.YtbldpojkpmafpaaGreatDoor
open Go.RowKit Sv
set_option maxRecDepth 100000
set_option linter.unusedVariables false
noncomputable section
noncomputable def cIdx : Ctr := { f := 61, ps := [.list false (.int .i64), .int .i64], rs := [.int .i64], fresh := true, pre := fun d => decide (List.length (α := Int) d.1 ≤ 1000000), fn := fun d => (Lib.idxOf d.1 d.2.1, ()) }
theorem cIdx_ok : cIdx.Ok Tryz.prog := fun ⟨l, x, _⟩ h => holds_raw fun w F xs hF hd => by
  have hl := of_decide_eq_true h
  cases hd with
  | cons d1 d2 =>
    cases d2 with
    | cons d2 d3 =>
      cases d3
      obtain ⟨A, c, rfl, hc, hR⟩ := den_ints hF d1
      rw [d2.raw_eq]
      exact (index_any A c w.heap.size l x w hR hl).mono fun e w' ⟨h1, h2⟩ => ⟨h1, by subst h2; exact Below.refl _ _⟩
end
end Go.Proofs.YtbldpojkpmafpaaGreatDoor

/- Package bus: the number of a net's track among the tracks that are used. -/
namespace Go.Proofs.YtbldpojkpmafpaaGreatDoor
open Go.RowKit

set_option maxRecDepth 100000 in
set_option maxHeartbeats 2000000 in
theorem number_any (ub lb B B2 : Nat) (U A3 : Option Addr) (cu c3 : Nat) (o : Value) (us ts : List Int) (w : World) (d6 : Blk w ub 24 #[.slice U us.length cu]) (d3 : Blk w lb 29 #[o, .slice A3 ts.length c3])
    (hU : Row w B U (ic us)) (ht : Row w B2 A3 (ic ts)) (net : Nat) (hn : net < ts.length) (hul : us.length ≤ 1000000) :
    Calls Tryz.prog 98 #[.int .i64 (net : Int), .pointer (some ⟨ub, 0, none⟩), .pointer (some ⟨lb, 0, none⟩)] w fun e w' => e = .returned (.int .i64 (Lib.idxOf us (ts.getD net 0))) ∧ ∃ m, w' = w.drewN m := by
  obtain ⟨b, off, x, rfl, hbB, hx, hc⟩ := ht.int net hn
  have e : ts.getD net 0 = x := by rw [List.getD_eq_getElem?_getD, hx]; rfl
  rw [e]
  have HI := Lib.hid (fun k => index_any U cu B us x (w.drewN k) (hU.drewN k) hul)
  have x6 := d6.cell 0
  have x3 := d3.cell 1
  have hnn : (net : Int) < (ts.length : Int) := by omega
  clear hU ht hx e d6 d3
  go_enter Tryz.func98, Tryz.ntmps98
  go_wp2_with fail
  go_quiet ((go_at_call 61; exact (HI.out _).mono fun e w' ⟨h1, h2⟩ => ⟨h1, _, h2⟩))
  go_wp2_with fail
  go_ret
  exact ⟨rfl, _, rfl⟩
end Go.Proofs.YtbldpojkpmafpaaGreatDoor

/- Package bus, plain: columns under other numbers leave the extents and the crossings as they were. -/
namespace Go.Proofs.YtbldpojkpmafpaaGreatDoor
open Go.RowKit Sv
set_option linter.unusedVariables false
def isum : List Int → Int
  | [] => 0
  | x :: r => x + isum r
theorem isum_app : ∀ (a b : List Int), isum (a ++ b) = isum a + isum b
  | [], b => by simp [isum]
  | x :: r, b => by
    show x + isum (r ++ b) = x + isum r + isum b
    rw [isum_app r b]; omega
def nameOf (names : List Int) (x : Int) : Int := names.getD x.toNat 0
section
variable {nets : List (Int × List Int)} {n : Int} {order names : List Int}
theorem name_in (hN : Bus.orderErr names n = 0) {x : Int} (hx : 0 ≤ x ∧ x < n) : 0 ≤ nameOf names x ∧ nameOf names x < n := by
  obtain ⟨h1, h2, h3⟩ := Bus.orderErr_zero hN
  unfold nameOf
  rw [getD_lt (by omega)]
  exact h3 _ (List.getElem_mem _)
theorem name_inj (hN : Bus.orderErr names n = 0) {x y : Int} (hx : 0 ≤ x ∧ x < n) (hy : 0 ≤ y ∧ y < n) (h : nameOf names x = nameOf names y) : x = y := by
  obtain ⟨h1, h2, h3⟩ := Bus.orderErr_zero hN
  unfold nameOf at h
  rw [getD_lt (by omega), getD_lt (by omega)] at h
  have := (List.getElem_inj h2).1 h
  omega
def renOrd (names order : List Int) : List Int := order.map (nameOf names)
theorem ren_at (hO : Bus.orderErr order n = 0) (hN : Bus.orderErr names n = 0) {c : Int} (hc : 0 ≤ c ∧ c < n) : ∀ k, k ≤ order.length → Bus.atUp (renOrd names order) k (nameOf names c).toNat = Bus.atUp order k c.toNat
  | 0, _ => rfl
  | k + 1, hk => by
    obtain ⟨o1, o2, o3⟩ := Bus.orderErr_zero hO
    have ih := ren_at hO hN hc k (by omega)
    have hk' : k < order.length := by omega
    have hm := o3 _ (List.getElem_mem hk')
    have hn := name_in hN hc
    have e1 : (renOrd names order).getD k (-1) = nameOf names order[k] := by
      unfold renOrd
      simp [List.getD_eq_getElem?_getD, hk']
    have e2 : order.getD k (-1) = order[k] := by simp [List.getD_eq_getElem?_getD, hk']
    unfold Bus.atUp
    rw [ih, e1, e2]
    by_cases h : c = order[k]
    · rw [if_pos (by rw [← h]; omega), if_pos (by omega)]
    · rw [if_neg (fun e => h (name_inj hN hc hm (by omega))), if_neg (by omega)]
theorem run_free (f : Nat → Int) (most : Int) (L : Nat) (hf : ∀ x, 0 ≤ f x ∧ f x ≤ L) : ∀ (pre : List Nat) (s0 : Int), 0 ≤ s0 → s0 + (pre.length * L : Nat) ≤ most → crossRun f most s0 pre = (s0 + isum (pre.map f), false)
  | [], s0, _, _ => by simp [crossRun, isum]
  | x :: r, s0, h0, h => by
    have h1 := hf x
    have e : ((x :: r).length * L : Nat) = r.length * L + L := by rw [List.length_cons, Nat.add_mul, Nat.one_mul]
    rw [e] at h
    unfold crossRun
    rw [if_neg (by omega), run_free f most L hf r (s0 + f x) (by omega) (by omega)]
    show (s0 + f x + isum (r.map f), false) = (s0 + (f x + isum (r.map f)), false)
    rw [Int.add_assoc]
theorem range_getD (taps : List (Nat × Int)) (h : Nat × Int → Int) : (List.range taps.length).map (fun x => h (taps.getD x (0, 0))) = taps.map h := by
  apply List.ext_getElem
  · simp
  · intro i h1 h2
    have hi : i < taps.length := by simpa using h1
    simp [List.getD_eq_getElem?_getD, hi]
def crossSum (xs : List (Int × Int)) (ts : List Int) (taps : List (Nat × Int)) : Int := isum (taps.map fun t => crossUp xs ts t.1 t.2 xs.length)
theorem cross_sum (hE : Bus.bothErr nets n order = 0) (ts : List Int) : crossOf nets order ts 1099511627776 = crossSum (extsOf nets order) ts (tapFrom (Bus.atUp order order.length) 0 (nets.map Prod.snd)) := by
  obtain ⟨e1, e2⟩ := both_iff.1 hE
  obtain ⟨n1, n97, l64, _⟩ := Bus.netsErr_zero e1
  have hT := taps_few (l := mkNets nets) (n := n) (by rw [mkNets_net]; exact e1) (Bus.atUp order order.length)
  have e : (mkNets nets).map NetAt.cols = nets.map Prod.snd := by
    have : (mkNets nets).map NetAt.cols = ((mkNets nets).map NetAt.net).map Prod.snd := by rw [List.map_map]; rfl
    rw [this, mkNets_net]
  rw [e] at hT
  have hxl := extsOf_len nets order
  unfold crossOf
  have hf : ∀ x, 0 ≤ tapF (extsOf nets order) ts (tapFrom (Bus.atUp order order.length) 0 (nets.map Prod.snd)) x ∧ tapF (extsOf nets order) ts (tapFrom (Bus.atUp order order.length) 0 (nets.map Prod.snd)) x ≤ (64 : Nat) := fun x => by
    unfold tapF
    have := crossUp_lo (extsOf nets order) ts ((tapFrom (Bus.atUp order order.length) 0 (nets.map Prod.snd)).getD x (0, 0)).1 ((tapFrom (Bus.atUp order order.length) 0 (nets.map Prod.snd)).getD x (0, 0)).2 (extsOf nets order).length
    omega
  have hb : (List.range (tapFrom (Bus.atUp order order.length) 0 (nets.map Prod.snd)).length).length * 64 ≤ 6208 * 64 := Nat.mul_le_mul_right _ (by rw [List.length_range]; exact hT)
  have hr := run_free _ 1099511627776 64 hf (List.range (tapFrom (Bus.atUp order order.length) 0 (nets.map Prod.snd)).length) 0 (Int.le_refl _) (by omega)
  have hr2 := congrArg Prod.fst hr
  refine hr2.trans ?_
  show 0 + isum _ = crossSum _ _ _
  rw [Int.zero_add]
  unfold crossSum
  rw [← range_getD]
  rfl
end
end Go.Proofs.YtbldpojkpmafpaaGreatDoor
