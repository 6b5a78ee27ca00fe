/- Package bus: the clique of an order. -/
import Derived.Test.YtkjjnnbbicoljaaGreatDoorBusExt
namespace Go.Proofs.YtkjjnnbbicoljaaGreatDoor
open Go.RowKit

/-- does the extent of a net contain a position? -/
def covB (xs : List (Int × Int)) (i : Nat) (p : Int) : Bool := decide ((xs.getD i (0, 0)).1 ≤ p) && decide (p ≤ (xs.getD i (0, 0)).2)
def coverUp (xs : List (Int × Int)) (p : Int) : Nat → List Int
  | 0 => []
  | k + 1 => if covB xs k p then coverUp xs p k ++ [(k : Int)] else coverUp xs p k
theorem coverUp_len (xs : List (Int × Int)) (p : Int) : ∀ k, (coverUp xs p k).length ≤ k
  | 0 => by simp [coverUp]
  | k + 1 => by
      have := coverUp_len xs p k
      unfold coverUp
      split <;> simp <;> omega
/-- the fullest position so far, and its nets -/
def cliqueUp (xs : List (Int × Int)) : Nat → List Int × Int
  | 0 => ([], 0)
  | p + 1 => if (cliqueUp xs p).1.length < (coverUp xs p xs.length).length then (coverUp xs p xs.length, (p : Int)) else cliqueUp xs p

set_option maxRecDepth 100000 in
theorem covers_any (g : Nat) (V : Value) (F : Nat → Int) (A : Option Addr) (c B i : Nat) (p : Int) (xs : List (Int × Int)) (w : World) (h : RowAt w g V F (.slice A xs.length c)) (hr : Row w B A (xcells xs)) (hi : i < xs.length) (_ : xs.length ≤ 1000) :
    Calls Tryz.prog 51 #[.pointer (some ⟨g, 0, none⟩), .int .i64 (i : Int), .int .i64 p] w fun e w' => e = .returned (.bool (covB xs i p)) ∧ w = w' := by
  obtain ⟨b, off, x, y, rfl, hbB, hx, hc1, hc2⟩ := hr.extent i hi
  have e : covB xs i p = (decide (x ≤ p) && decide (p ≤ y)) := by unfold covB; rw [List.getD_eq_getElem?_getD, hx]; rfl
  rw [e]
  have x98 := h.ext
  have hii : (i : Int) < (xs.length : Int) := by omega
  clear hx e h hr
  by_cases hxp : x ≤ p
  · go_enter Tryz.func51, Tryz.ntmps51
    go_wp2_with fail
    go_ret
    exact ⟨by rw [decide_eq_true hxp]; rfl, rfl⟩
  · go_enter Tryz.func51, Tryz.ntmps51
    go_wp2_with fail
    go_ret
    exact ⟨by rw [decide_eq_false (show ¬ x ≤ p by omega)]; rfl, rfl⟩

theorem Tryz.info3 : (Tryz.prog.info? 3).map (fun i => (i.zero, i.size, i.bytes)) = some (some (.int .i64 0), 1, 8) := by kernel_rfl

/-- an address of a block from B on -/
def FreshA (B : Nat) (A : Option Addr) : Prop := ∀ b off, A = some ⟨b, off, none⟩ → B ≤ b
/-- what Clique returns -/
def RetClique (w0 : World) (best : List Int) (p : Int) (e : Ending) (w' : World) : Prop :=
  ∃ A c, e = .returned (.tuple #[.slice A best.length c, .int .i64 p, .int .i64 0]) ∧ Row w' w'.heap.size A (best.map (Value.int .i64)) ∧ Below w0.heap.size w0 w' ∧ FreshA w0.heap.size A ∧ best.length ≤ c
theorem own_fresh {w : World} {base size n : Nat} {e : TypeId} {A : Option Addr} {c : Nat} {vs : List Value} (h : w.ownsRow base e size (.slice A n c) n vs) : FreshA base A := fun b off hA => by
  subst hA
  exact (h.lt b rfl).1
theorem Clique_bad (A A2 : Option Addr) (c c2 B : Nat) (l : List NetAt) (order : List Int) (n : Int) (w : World) (h : NetsIn w B A l) (h2 : Row w B A2 (order.map (Value.int .i64))) (hi : ∀ c ∈ order, I64 c) (hB : B ≤ w.heap.size) (hl : l.length ≤ 140737488355328) (hl2 : order.length ≤ 1000000)
    (E : Int) (hE : Bus.bothErr (l.map NetAt.net) n order = E) (h0 : E ≠ 0) :
    Calls Tryz.prog 14 #[.slice A l.length c, .int .i64 n, .slice A2 order.length c2] w fun e w' => e = .returned (.tuple #[.slice none 0 0, .int .i64 0, .int .i64 E]) ∧ Below w.heap.size w w' := by
  have HC := Lib.hid (checked_any A A2 c c2 B l order n w h h2 hi hB hl hl2)
  rw [hE] at HC
  have hne : (E != 0) = true := by rw [bne_iff_ne]; exact h0
  clear h h2 hi hE
  go_enter Tryz.func14, Tryz.ntmps14
  go_wp2_with fail
  refine HC.out.mono ?_
  rintro e w1 ⟨rfl, hb1⟩
  go_wp2_with fail
  go_ret3
  exact ⟨rfl, hb1⟩

set_option maxHeartbeats 4000000 in
set_option maxRecDepth 100000 in
theorem Clique_ok (A A2 : Option Addr) (c c2 B : Nat) (l : List NetAt) (order : List Int) (n : Int) (w : World) (h : NetsIn w B A l) (h2 : Row w B A2 (order.map (Value.int .i64))) (hi : ∀ c ∈ order, I64 c) (hB : B ≤ w.heap.size) (hl : l.length ≤ 140737488355328) (hl2 : order.length ≤ 1000000)
    (hE : Bus.bothErr (l.map NetAt.net) n order = 0) :
    Calls Tryz.prog 14 #[.slice A l.length c, .int .i64 n, .slice A2 order.length c2] w (RetClique w (cliqueUp (Bus.exts (Bus.atUp order order.length) (l.map NetAt.net)) n.toNat).1 (cliqueUp (Bus.exts (Bus.atUp order order.length) (l.map NetAt.net)) n.toNat).2) := by
  have HC := Lib.hid (checked_any A A2 c c2 B l order n w h h2 hi hB hl hl2)
  rw [hE] at HC
  obtain ⟨z1, z2⟩ := both_zero hE
  have l64 := (Bus.netsErr_zero z1).2.2.1
  rw [List.length_map] at l64
  have hn97 := (Bus.netsErr_zero z1).2.1
  have hn1 := (Bus.netsErr_zero z1).1
  have HST := Lib.hid (fun w' (hb : Below w.heap.size w w') => stand_any A A2 c c2 B l order n w' (h.below hb hB) (h2.below hb hB) (by have := hb.size; omega) z2 z1)
  obtain ⟨F, hF⟩ : ∃ F, Bus.atUp order order.length = F := ⟨_, rfl⟩
  rw [hF] at HST ⊢
  have hlen := exts_len F l
  obtain ⟨xs, hxs⟩ : ∃ xs, Bus.exts F (l.map NetAt.net) = xs := ⟨_, rfl⟩
  rw [hxs] at hlen ⊢
  have HXS := Lib.hid hxs
  obtain ⟨N, rfl⟩ : ∃ N : Nat, n = (N : Int) := ⟨n.toNat, by omega⟩
  rw [Int.toNat_natCast]
  obtain ⟨CL, hCL⟩ : ∃ CL, cliqueUp xs N = CL := ⟨_, rfl⟩
  rw [hCL]
  have HCL := Lib.hid hCL
  obtain ⟨i0, hi0, iz0, iz1, iz2⟩ := info_parts Tryz.info3
  clear h h2 hi hE hF z1 z2 hxs hCL
  go_enter Tryz.func14, Tryz.ntmps14
  go_wp2_with fail
  refine HC.out.mono ?_
  rintro e w1 ⟨rfl, hb1⟩
  go_wp2_with fail
  refine (HST.out _ hb1).mono ?_
  rintro e w2 ⟨g, v, rfl, hg, hrow, hown, hb2⟩
  rw [HXS.out] at hown
  obtain ⟨Av, cv, rfl, _, hr⟩ := own_cap hown
  rw [← hlen] at hrow
  have e2 := below_after hb1 hb2 (Nat.le_refl _)
  have s2 := e2.size
  have HCV := Lib.hid (fun (i : Nat) (p : Int) w' (hb : Below w2.heap.size w2 w') (hi : i < xs.length) => covers_any g _ F Av cv w2.heap.size i p xs w' (hrow.below hb) (hr.below hb (Nat.le_refl _)) hi (by omega))
  clear hown hb1 hb2 hr hrow HC HST HXS
  go_wp2_with fail
  go_loopw [11, 12, 27] (fun bv pv i wr => ∃ (p : Nat) (Ab : Option Addr) (cb : Nat), p ≤ N ∧ i = .int .i64 p ∧ bv = .slice Ab (cliqueUp xs p).1.length cb ∧ pv = .int .i64 (cliqueUp xs p).2 ∧ Row wr wr.heap.size Ab ((cliqueUp xs p).1.map (Value.int .i64)) ∧ Below w2.heap.size w2 wr ∧ FreshA w2.heap.size Ab ∧ (cliqueUp xs p).1.length ≤ cb) (fun _ _ i _ => N - (intOf i).toNat)
  case atStart => exact ⟨0, none, 0, Nat.zero_le _, rfl, rfl, rfl, .inl rfl, Below.refl _ _, (fun _ _ h => by cases h), Nat.le_refl _⟩
  case round =>
    obtain ⟨p, Ab, cb, hp, rfl, rfl, rfl, hrb, eb, hfa, hcp⟩ := hrel
    have hsz := eb.size
    have HB := Lib.hid hrb
    clear hrb
    by_cases hlt : p < N
    · obtain ⟨W, hW⟩ : ∃ W, wr = W := ⟨_, rfl⟩
      rw [hW] at HB eb hsz ⊢
      clear hW
      have HSP := Lib.hid (show cliqueUp xs (p + 1) = if (cliqueUp xs p).1.length < (coverUp xs p xs.length).length then (coverUp xs p xs.length, (p : Int)) else cliqueUp xs p from rfl)
      generalize cliqueUp xs p = bp at *
      obtain ⟨bl, bpl⟩ := bp
      simp only at HB HSP ⊢
      go_wp2_with fail
      go_loopw [14, 32] (fun lv i wz => ∃ j : Nat, j ≤ xs.length ∧ i = .int .i64 j ∧ wz.ownsRow W.heap.size 3 1 lv (coverUp xs p j).length ((coverUp xs p j).map (Value.int .i64)) ∧ Below W.heap.size W wz) (fun _ i _ => xs.length - (intOf i).toNat)
      case atStart => exact ⟨0, Nat.zero_le _, rfl, World.ownsRow_nil _ _ _ _, Below.refl _ _⟩
      case round =>
        obtain ⟨j, hj, rfl, hown, ez⟩ := hrel
        have hszz := ez.size
        have ebz := below_after eb ez (Nat.le_refl _)
        have hcl := coverUp_len xs p j
        by_cases hlj : j < xs.length
        · have hcv := HCV.out j p wr ebz hlj
          have hjl : (j : Int) < (l.length : Int) := by omega
          have HJ := Lib.hid (show coverUp xs p (j + 1) = if covB xs j p then coverUp xs p j ++ [(j : Int)] else coverUp xs p j from rfl)
          generalize coverUp xs p j = cu at *
          generalize hcb : covB xs j p = cb2 at *
          clear hcb
          cases cb2
          · rw [if_neg (by decide)] at HJ
            go_wp2_with (first | (go_at_call 51; refine hcv.mono ?_; rintro e w3 ⟨rfl, rfl⟩))
            go_roundw
            case rel => exact ⟨j + 1, by omega, by go_num, by rw [HJ.out]; exact hown, ez⟩
            case measure => simp [intOf]; omega
          · rw [if_pos rfl] at HJ
            go_wp2_with (first
              | (go_at_call 51; refine hcv.mono ?_; rintro e w3 ⟨rfl, rfl⟩)
              | (at_builtin; refine wpList_append_own_at _ rfl (.tmp 39) (.tmp 41) 23 rfl W.heap.size 3 i0 (.int .i64 0) 1 8 Tryz.underlying23 hi0 iz0 iz1 iz2 rfl (by decide) _ _ _ rfl (hown.alloc _) ⟨_, 0, none⟩ 1 1 [.int .i64 (j : Int)] rfl rfl (cell_one_new _ _ _) ?hone ?c3 ?c4 ?c5 ?_))
            case hone => intro u hu; simp at hu; subst hu; rfl
            case c3 => unfold maxLen; omega
            case c4 => omega
            case c5 => simp; omega
            intro v' w4 hown4 hgrow4 _ hat
            have ez4 := below_grown ez hszz hown hgrow4
            clear hgrow4 hat hown ez ebz hcv
            go_wp2_with fail
            go_roundw
            case rel => exact ⟨j + 1, by omega, by go_num, by rw [HJ.out, List.length_append, List.map_append]; exact hown4, ez4⟩
            case measure => simp [intOf]; omega
        · obtain rfl : j = xs.length := by omega
          have hll : ¬ ((xs.length : Int) < (l.length : Int)) := by omega
          obtain ⟨Al, cl, rfl, hcl3, hrl⟩ := own_cap hown
          have hfl := own_fresh hown
          have hcl2 := coverUp_len xs p xs.length
          generalize coverUp xs p xs.length = cu at *
          clear hown
          by_cases hbig : bl.length < cu.length
          · rw [if_pos hbig] at HSP
            have hbi : (bl.length : Int) < (cu.length : Int) := by omega
            go_wp2_with fail
            go_roundw
            case rel => exact ⟨p + 1, Al, cl, by omega, by go_num, by rw [HSP.out], by rw [HSP.out], by rw [HSP.out]; exact hrl, ebz, (fun b o h => Nat.le_trans hsz (hfl b o h)), by rw [HSP.out]; exact hcl3⟩
            case measure => simp [intOf]; omega
          · rw [if_neg hbig] at HSP
            have hbi : ¬ (bl.length : Int) < (cu.length : Int) := by omega
            go_wp2_with fail
            go_roundw
            case rel => exact ⟨p + 1, Ab, cb, by omega, by go_num, by rw [HSP.out], by rw [HSP.out], by rw [HSP.out]; exact (HB.out.below ez (Nat.le_refl _)).more ez.size, ebz, hfa, by rw [HSP.out]; exact hcp⟩
            case measure => simp [intOf]; omega
    · obtain rfl : p = N := by omega
      rw [HCL.out] at HB hcp ⊢
      go_wp2_with fail
      go_ret3
      exact ⟨Ab, cb, rfl, HB.out, below_after e2 eb (Nat.le_refl _), (fun b o h => Nat.le_trans e2.size (hfa b o h)), hcp⟩
end Go.Proofs.YtkjjnnbbicoljaaGreatDoor
