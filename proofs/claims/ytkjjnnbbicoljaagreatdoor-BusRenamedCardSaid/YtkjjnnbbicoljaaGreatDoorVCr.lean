/- Package bus: Crossings and Extents as contracts on plain data. -/
import Derived.Test.YtkjjnnbbicoljaaGreatDoorVLay
import Derived.Test.YtkjjnnbbicoljaaGreatDoorBusCr2
namespace Go.Proofs.YtkjjnnbbicoljaaGreatDoor
open Go.RowKit Sv
set_option maxRecDepth 100000
set_option linter.unusedVariables false
theorem holds_pair {f : FuncId} {args : List AV} {a b : Int} {fresh : Bool} (h : ∀ (w : World) (F : Env) (xs : List Value), OkF w F → Dens F args xs → Calls Tryz.prog f xs.toArray w fun e w' => e = .returned (.tuple #[.int .i64 a, .int .i64 b]) ∧ Below w.heap.size w w') :
    Holds Tryz.prog fresh f args (.tuple [iv a, iv b]) := fun w F xs hF hd =>
  (h w F xs hF hd).mono fun e w' ⟨g1, g2⟩ => ⟨_, ⟨F.at', fun _ => none⟩, g1, .tuple (.cons (.raw _) (.cons (.raw _) .nil)), ⟨hF.glob, hF.all, fun b A h => by cases h⟩, (fun b A h => by cases h), g2⟩
noncomputable section
def crsB (nets : List (Int × List Int)) (n : Int) (order ts : List Int) : Int × Int := if layErr nets n order ts = 0 then (crossOf nets order ts 1099511627776, 0) else (0, layErr nets n order ts)
noncomputable def cCrossB : Ctr := { f := 20, ps := [.list false tN, .int .i64, .pair (.list false (.int .i64)) (.list false (.int .i64))], rs := [.int .i64, .int .i64], fresh := true, pre := fun d => okLay d.1 d.2.2.1.1 d.2.2.1.2, fn := fun d => ((crsB d.1 d.2.1 d.2.2.1.1 d.2.2.1.2).1, ((crsB d.1 d.2.1 d.2.2.1.1 d.2.2.1.2).2, ())) }
theorem both_of_lay {nets : List (Int × List Int)} {n : Int} {order ts : List Int} (h : layErr nets n order ts = 0) : Bus.bothErr nets n order = 0 := by
  unfold layErr at h
  by_cases hE : Bus.bothErr nets n order = 0
  · exact hE
  · rw [if_pos hE] at h; exact absurd h hE
theorem cross_holds (nets : List (Int × List Int)) (n : Int) (order ts : List Int) (h : okLay nets order ts = true) : Holds Tryz.prog true 20 [nv nets, iv n, yv order ts] (.tuple [iv (crsB nets n order ts).1, iv (crsB nets n order ts).2]) := by
  obtain ⟨h1, h2, h3, h4, h5⟩ := okLay_iff h
  refine holds_pair fun w F xs hF hd => ?_
  obtain ⟨A, A2, A3, c, c2, c3, l, rfl, hl, hN, hR, hS, q2, q3⟩ := dens_lay hF h1 hd
  have hll : l.length = nets.length := by rw [← hl, List.length_map]
  by_cases hE : layErr nets n order ts = 0
  · have e : crsB nets n order ts = (crossOf nets order ts 1099511627776, 0) := by unfold crsB; rw [if_pos hE]
    rw [e]
    have := Crossings_ok A A2 A3 c c2 c3 w.heap.size l order ts n w hN hR hS h4 (Nat.le_refl _) (by omega) (by omega) (by omega) (by rw [hl]; exact both_of_lay hE) (by rw [hl]; exact hE)
    rw [hl] at this
    exact this
  · have e : crsB nets n order ts = (0, layErr nets n order ts) := by unfold crsB; rw [if_neg hE]
    rw [e]
    exact Crossings_bad A A2 A3 c c2 c3 w.heap.size l order ts n w hN hR hS h4 (Nat.le_refl _) (by omega) (by omega) (by omega) (layErr nets n order ts) (by rw [hl]) hE
theorem cCrossB_ok : cCrossB.Ok Tryz.prog := fun ⟨nets, n, ⟨order, ts⟩, _⟩ h => cross_holds nets n order ts h

/-! ### Extents -/
theorem fresh_den {w' : World} {n0 : Nat} {at' : Nat → Option (Nat × Nat)} {t : Ty} {xs : List t.den} {ys : List Value} {A : Option Addr} {c : Nat} (h : Row w' w'.heap.size A ys) (hd : Dens ⟨at', fun b => if n0 ≤ b then cellsOf? w' b else none⟩ (t.flat xs) ys) (hs : 1 ≤ t.size) (hf : xs = [] ∨ FreshA n0 A) (hc : xs.length ≤ c) :
    Den ⟨at', fun b => if n0 ≤ b then cellsOf? w' b else none⟩ (.lst false t xs) (.slice A xs.length c) := by
  by_cases hx : xs = []
  · subst hx; exact .lstNil fun e => by cases e
  · have hf := hf.resolve_left hx
    have hlen := hd.length
    rw [t.flat_len] at hlen
    have hxl : 0 < xs.length := List.length_pos_iff.2 hx
    have hpos : 0 < ys.length := by rw [hlen]; exact Nat.mul_pos hxl hs
    rcases h with h | ⟨b, off, rfl, hlt, hcs⟩
    · subst h; exact absurd hpos (Nat.lt_irrefl 0)
    · have hb := hf b off rfl
      have h0 := hcs 0 hpos
      cases ho : w'.heap[b]? with
      | none => simp [World.cell?, ho] at h0
      | some o =>
        cases o with
        | cells Arr e fr =>
          have hall : ∀ i (hi : i < ys.length), Arr[off + i]? = some ys[i] := fun i hi => by
            have := hcs i hi
            rw [cell_of ho] at this
            rw [this]
            simp [List.getD_eq_getElem?_getD, List.getElem?_eq_getElem hi]
          have hsz : off + ys.length ≤ Arr.size := by
            have := hall (ys.length - 1) (by omega)
            have := (Array.getElem?_eq_some_iff.1 this).1
            omega
          have hfl : (t.flat xs).length = ys.length := hd.length.symm
          have hys : (Arr.toList.drop off).take (t.flat xs).length = ys := by
            rw [hfl]
            apply List.ext_getElem?
            intro i
            rw [List.getElem?_take]
            by_cases hi : i < ys.length
            · rw [if_pos hi, List.getElem?_drop, Array.getElem?_toList, hall i hi, List.getElem?_eq_getElem hi]
            · rw [if_neg hi, List.getElem?_eq_none (by omega)]
          refine .lst (A := Arr) (b := b) (off := off) ?_ (by rw [hfl]; exact hsz) hys hd hc fun e => by cases e
          show (if n0 ≤ b then cellsOf? w' b else none) = some Arr
          rw [if_pos hb]; exact cellsOf?_some.2 ⟨e, fr, ho⟩
        | _ => simp [World.cell?, ho] at h0
abbrev tP : Ty := .pair (.int .i64) (.int .i64)
abbrev pv (l : List (Int × Int)) : AV := .lst false tP l
theorem pairs_den {ρ : Env} : ∀ (xs : List (Int × Int)), Dens ρ (Ty.flat tP xs) (xcells xs)
  | [] => .nil
  | x :: r => by
    have e : Ty.flat tP (x :: r) = .raw (.int .i64 x.1) :: .raw (.int .i64 x.2) :: Ty.flat tP r := rfl
    rw [e]
    exact .cons (.raw _) (.cons (.raw _) (pairs_den r))
def RetExts2 (w0 : World) (xs : List (Int × Int)) (e : Ending) (w' : World) : Prop :=
  ∃ A c, e = .returned (.tuple #[.slice A xs.length c, .int .i64 0]) ∧ Row w' w'.heap.size A (xcells xs) ∧ Below w0.heap.size w0 w' ∧ FreshA w0.heap.size A ∧ xs.length ≤ c
end
set_option maxHeartbeats 4000000 in
theorem Extents_ok2 (A A2 : Option Addr) (c c2 B : Nat) (l : List NetAt) (order : List Int) (n : Int) (w : World) (h : NetsIn w B A l) (h2 : Row w B A2 (order.map (Value.int .i64))) (hi : ∀ c ∈ order, I64 c) (hB : B ≤ w.heap.size) (hl : l.length ≤ 140737488355328) (hl2 : order.length ≤ 1000000)
    (hE : Bus.bothErr (l.map NetAt.net) n order = 0) :
    Calls Tryz.prog 21 #[.slice A l.length c, .int .i64 n, .slice A2 order.length c2] w (RetExts2 w (Bus.exts (Bus.atUp order order.length) (l.map NetAt.net))) := by
  have HC := Lib.hid (checked_any A A2 c c2 B l order n w h h2 hi hB hl hl2)
  rw [hE] at HC
  obtain ⟨z1, z2⟩ := both_zero hE
  have HST := Lib.hid (fun w' (hb : Below w.heap.size w w') => stand_any A A2 c c2 B l order n w' (h.below hb hB) (h2.below hb hB) (by have := hb.size; omega) z2 z1)
  obtain ⟨F, hF⟩ : ∃ F, Bus.atUp order order.length = F := ⟨_, rfl⟩
  rw [hF] at HST ⊢
  clear h h2 hi hE hF z1 z2
  go_enter Tryz.func21, Tryz.ntmps21
  go_wp2_with fail
  refine HC.out.mono ?_
  rintro e w1 ⟨rfl, hb1⟩
  go_wp2_with fail
  refine (HST.out _ hb1).mono ?_
  rintro e w2 ⟨g, v, rfl, hg, hrow, hown, hb2⟩
  have x98 := hrow.ext
  obtain ⟨Av, cv, rfl, hcv, hr⟩ := own_cap hown
  have hfr := own_fresh hown
  have e2 := below_after hb1 hb2 (Nat.le_refl _)
  have hs1 := hb1.size
  go_wp2_with fail
  go_ret2
  exact ⟨Av, cv, by rw [exts_len]; rfl, hr, e2, (fun b off h => by have := hfr b off h; omega), by rw [exts_len]; exact hcv⟩
noncomputable section
def extB (nets : List (Int × List Int)) (n : Int) (order : List Int) : List (Int × Int) × Int := if Bus.bothErr nets n order = 0 then (extsOf nets order, 0) else ([], Bus.bothErr nets n order)
def okChk (nets : List (Int × List Int)) (order : List Int) : Bool := goodB nets && (decide (nets.length ≤ 1000) && (decide (order.length ≤ 1000) && order.all (fun c => decide (I64 c))))
noncomputable def cExtsB : Ctr := { f := 21, ps := [.list false tN, .int .i64, .list false (.int .i64)], rs := [.list false (.pair (.int .i64) (.int .i64)), .int .i64], fresh := true, pre := fun d => okChk d.1 d.2.2.1, fn := fun d => ((extB d.1 d.2.1 d.2.2.1).1, ((extB d.1 d.2.1 d.2.2.1).2, ())) }
theorem exts_holds (nets : List (Int × List Int)) (n : Int) (order : List Int) (h : okChk nets order = true) : Holds Tryz.prog true 21 [nv nets, iv n, lv order] (.tuple [pv (extB nets n order).1, iv (extB nets n order).2]) := by
  unfold okChk at h
  simp only [Bool.and_eq_true, decide_eq_true_eq, List.all_eq_true] at h
  obtain ⟨h1, h2, h3, h4⟩ := h
  intro w F xs hF hd
  obtain ⟨A, A2, c, c2, l, rfl, hl, hN, hR⟩ := dens_bus hF (goodB_iff.1 h1) hd
  have hll : l.length = nets.length := by rw [← hl, List.length_map]
  by_cases hE : Bus.bothErr nets n order = 0
  · have e : extB nets n order = (extsOf nets order, 0) := by unfold extB; rw [if_pos hE]
    rw [e]
    refine (Extents_ok2 A A2 c c2 w.heap.size l order n w hN hR h4 (Nat.le_refl _) (by omega) (by omega) (by rw [hl]; exact hE)).mono fun e w' ⟨Ao, co, g1, g2, g3, g4, g5⟩ => ?_
    rw [hl] at g1 g2 g5
    refine ⟨_, ⟨F.at', fun b => if w.heap.size ≤ b then cellsOf? w' b else none⟩, g1, .tuple (.cons (fresh_den g2 (pairs_den _) (by decide) (.inr g4) g5) (.cons (.raw _) .nil)), ⟨hF.glob, hF.all, fun b A hb => ?_⟩, fun b A hb => .inr ?_, g3⟩
    · have hb : (if w.heap.size ≤ b then cellsOf? w' b else none) = some A := hb
      split at hb
      · exact cellsOf?_some.1 hb
      · cases hb
    · have hb : (if w.heap.size ≤ b then cellsOf? w' b else none) = some A := hb
      split at hb
      · assumption
      · cases hb
  · have e : extB nets n order = ([], Bus.bothErr nets n order) := by unfold extB; rw [if_neg hE]
    rw [e]
    refine (Extents_bad A A2 c c2 w.heap.size l order n w hN hR h4 (Nat.le_refl _) (by omega) (by omega) (Bus.bothErr nets n order) (by rw [hl]) hE).mono fun e w' ⟨g1, g2⟩ => ?_
    exact ⟨_, ⟨F.at', fun _ => none⟩, g1, .tuple (.cons (.lstNil fun e => by cases e) (.cons (.raw _) .nil)), ⟨hF.glob, hF.all, fun b A h => by cases h⟩, (fun b A h => by cases h), g2⟩
theorem cExtsB_ok : cExtsB.Ok Tryz.prog := fun ⟨nets, n, order, _⟩ h => exts_holds nets n order h
end
end Go.Proofs.YtkjjnnbbicoljaaGreatDoor
