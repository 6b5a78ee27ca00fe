/- Package bus: orders: all orders of the numbers below m, each handed over as a row of its own. -/
import Derived.Test.YtbldpojkpmafpaaGreatDoorZdOrdLaw
import Derived.Test.YtbldpojkpmafpaaGreatDoorZdVPairLaw
import Derived.Test.YtbldpojkpmafpaaGreatDoorZdSvUse
import Derived.RegionIn
import Derived.RangeFuncCalls
import Derived.Shelf.RegionOpen
import Derived.OwnWalkIn
import Derived.Maps.OwnIn
namespace Go.Proofs.YtbldpojkpmafpaaGreatDoor
open Go.RowKit Go.Shelf Sv
attribute [local go_sem] Oper.semAt_some
theorem run_store_func {P : Program} {w : World} {a : Addr} {m : Mode} (f : Fn) (x y : Array Value) : (store a (.func f x y) m).run P w = stored P w a (.func f x y) m := run_store P w a _ m rfl
attribute [local go_sem] run_store_func

structure OrdSt (O0 : Nat → Prop) (bn B lp m : Nat) (W : World) (O : Nat → Prop) (ch : List Int) : Prop where
  n : Blk W bn 3 #[.int .i64 (m : Int)]
  y : Blk W B 134 #[.func (.yield lp) #[] #[]]
  c : ∃ v, Blk W (B + 1) 24 #[v] ∧ W.ownsRow (B + 3) 3 1 v ch.length (ic ch) ∧ ∀ b, some b = v.ownBlock → O b
  h : Blk W (B + 2) 23 #[.func (.func 87) #[] #[.pointer (some ⟨B + 1, 0, none⟩), .pointer (some ⟨bn, 0, none⟩), .pointer (some ⟨B, 0, none⟩), .pointer (some ⟨B + 2, 0, none⟩)]]
  on : O bn
  o0 : O B
  o1 : O (B + 1)
  o2 : O (B + 2)
  lo : ∀ b, O b → O0 b ∨ B ≤ b
  hi : ∀ b, O b → b < W.heap.size
theorem OrdSt.step {O0 O T : Nat → Prop} {bn B lp m : Nat} {W W' : World} {ch : List Int} (h : OrdSt O0 bn B lp m W O ch) (t : Turns T W W') (ht : ∀ b, O b → ¬ T b) : OrdSt O0 bn B lp m W' O ch := by
  obtain ⟨v, h1, h2, h3⟩ := h.c
  exact ⟨t.blk h.n (ht _ h.on), t.blk h.y (ht _ h.o0), ⟨v, t.blk h1 (ht _ h.o1), t.own h2 fun b hb => ht b (h3 b hb), h3⟩, t.blk h.h (ht _ h.o2), h.on, h.o0, h.o1, h.o2, h.lo, fun b hb => Nat.lt_of_lt_of_le (h.hi b hb) t.size⟩
def RetCh (J : List Lst → (Nat → Prop) → World → Prop) (pre : List Lst) (O0 : Nat → Prop) (bn B lp m : Nat) (ps : List (List Int)) (ch : List Int) (W' : World) : Prop :=
  ∃ xs O', xs.map (fun x : Lst => x.2.2) = ps ∧ J (pre ++ xs) O' W' ∧ OrdSt O0 bn B lp m W' O' ch
theorem own_cut {w : World} {base n c : Nat} {e : TypeId} {A : Option Addr} {vs : List Value} (h : w.ownsRow base e 1 (.slice A (n + 1) c) (n + 1) vs) : w.ownsRow base e 1 (.slice A n c) n (vs.take n) := by
  obtain ⟨h1, h2⟩ := h
  refine ⟨by rw [List.length_take]; omega, ?_⟩
  rcases h2 with ⟨_, h⟩ | ⟨g, cap, cur, hv, hb, hg, hc, hm, hs, ht⟩
  · omega
  · cases hv
    exact .inr ⟨g, _, cur, rfl, hb, hg, by omega, hm, hs, by rw [← ht, List.take_take]; congr 1; omega⟩

theorem OrdSt.push {O0 O : Nat → Prop} {bn B lp m c c5 : Nat} {wr w5 : World} {ch : List Int} {A A5 : Option Addr} {k : Int} (h : OrdSt O0 bn B lp m wr O ch) (hbn : bn < B) (hcB : Blk wr (B + 1) 24 #[.slice A ch.length c])
    (hown : wr.ownsRow (B + 3) 3 1 (.slice A ch.length c) ch.length (ic ch)) (hvO : ∀ b, some b = (Value.slice A ch.length c).ownBlock → O b) (ht : Turns (fun b => some b = (Value.slice A ch.length c).ownBlock) wr w5)
    (hown5 : w5.ownsRow (B + 3) 3 1 (.slice A5 (ch.length + 1) c5) (ch.length + 1) (ic ch ++ [.int .i64 k])) (hat : (Value.slice A5 (ch.length + 1) c5).ownBlock = (Value.slice A ch.length c).ownBlock ∨ ∃ q, (Value.slice A5 (ch.length + 1) c5).ownBlock = some q ∧ wr.heap.size ≤ q) :
    OrdSt O0 bn B lp m (w5.setCell ⟨B + 1, 0, none⟩ (.slice A5 (ch.length + 1) c5)) (fun b => O b ∨ some b = (Value.slice A5 (ch.length + 1) c5).ownBlock) (ch ++ [k]) ∧ Turns O wr (w5.setCell ⟨B + 1, 0, none⟩ (.slice A5 (ch.length + 1) c5)) ∧
      ∀ b, (O b ∨ some b = (Value.slice A5 (ch.length + 1) c5).ownBlock) → O b ∨ wr.heap.size ≤ b := by
  have hlow : ∀ b, some b = (Value.slice A ch.length c).ownBlock → B + 3 ≤ b ∧ b < wr.heap.size := fun b hb => own_low hown hb
  have hlow5 : ∀ b, some b = (Value.slice A5 (ch.length + 1) c5).ownBlock → B + 3 ≤ b ∧ b < w5.heap.size := fun b hb => own_low hown5 hb
  have hT : Turns (fun b => some b = (Value.slice A ch.length c).ownBlock ∨ b = B + 1) wr (w5.setCell ⟨B + 1, 0, none⟩ (.slice A5 (ch.length + 1) c5)) := (ht.mono fun _ h => .inl h).setCell (p := ⟨B + 1, 0, none⟩) (.inr rfl) _
  have hno : ∀ b, b < B + 3 → b ≠ B + 1 → ¬ (some b = (Value.slice A ch.length c).ownBlock ∨ b = B + 1) := fun b h1 h2 h3 => h3.elim (fun e => by have := (hlow b e).1; omega) h2
  refine ⟨⟨hT.blk h.n (hno _ (by omega) (by omega)), hT.blk h.y (hno _ (by omega) (by omega)), ⟨_, (ht.blk hcB fun e => by have := (hlow _ e).1; omega).set 0 _, ?_, fun b hb => .inr hb⟩, hT.blk h.h (hno _ (by omega) (by omega)), .inl h.on, .inl h.o0, .inl h.o1, .inl h.o2, fun b hb => ?_, fun b hb => ?_⟩, hT.mono fun b hb => hb.elim (hvO b) fun e => e ▸ h.o1, fun b hb => ?_⟩
  · have e1 : (ch ++ [k]).length = ch.length + 1 := by simp
    have e2 : ic (ch ++ [k]) = ic ch ++ [.int .i64 k] := by simp [ic]
    rw [e1, e2]
    exact own_keep hown5 fun b hb => Below.heap_setCell _ _ _ b fun e => by
      have := (hlow5 b hb).1
      have e : b = B + 1 := e
      omega
  · rcases hb with hb | hb
    · exact h.lo b hb
    · have := (hlow5 b hb).1
      right; omega
  · rcases hb with hb | hb
    · exact Nat.lt_of_lt_of_le (h.hi b hb) hT.size
    · have := (hlow5 b hb).2
      simpa [World.setCell] using this
  · rcases hb with hb | hb
    · exact .inl hb
    · rcases hat with hat | ⟨q, hat, hq⟩
      · rw [hat] at hb
        exact .inl (hvO b hb)
      · rw [hat] at hb
        injection hb with hb
        right; omega
theorem OrdSt.pop {O0 O : Nat → Prop} {bn B lp m c : Nat} {W : World} {ch : List Int} {A : Option Addr} {k : Int} (h : OrdSt O0 bn B lp m W O (ch ++ [k])) (hbn : bn < B) (hcB : Blk W (B + 1) 24 #[.slice A (ch.length + 1) c])
    (hown : W.ownsRow (B + 3) 3 1 (.slice A (ch.length + 1) c) (ch.length + 1) (ic (ch ++ [k]))) (hvO : ∀ b, some b = (Value.slice A (ch.length + 1) c).ownBlock → O b) :
    OrdSt O0 bn B lp m (W.setCell ⟨B + 1, 0, none⟩ (.slice A ch.length c)) O ch ∧ Turns O W (W.setCell ⟨B + 1, 0, none⟩ (.slice A ch.length c)) := by
  have hT : Turns (fun b => b = B + 1) W (W.setCell ⟨B + 1, 0, none⟩ (.slice A ch.length c)) := (Turns.refl (fun b => b = B + 1) W).setCell (p := ⟨B + 1, 0, none⟩) rfl _
  have hcut := own_cut hown
  have e2 : (ic (ch ++ [k])).take ch.length = ic ch := by simp [ic]
  rw [e2] at hcut
  refine ⟨⟨hT.blk h.n (by omega), hT.blk h.y (by omega), ⟨_, hcB.set 0 _, own_keep hcut fun b hb => Below.heap_setCell _ _ _ b fun e => ?_, fun b hb => hvO b (by rw [hb]; cases A <;> rfl)⟩, hT.blk h.h (by omega), h.on, h.o0, h.o1, h.o2, h.lo, fun b hb => Nat.lt_of_lt_of_le (h.hi b hb) hT.size⟩, hT.mono fun b hb => hb ▸ h.o1⟩
  have := (own_low hcut hb).1
  have e : b = B + 1 := e
  omega
theorem noGoto_ret {Q : Exit → Act → World → Prop} {a : Act} {w : World} (h : Q .ret a w) : Exit.noGoto Q .ret a w := h

set_option maxRecDepth 100000 in
set_option maxHeartbeats 4000000 in
theorem choose_in (O0 : Nat → Prop) (G : List Int → Prop) (bn B lp m : Nat) (hm : m ≤ 8) (hbn : bn < B) (J : List Lst → (Nat → Prop) → World → Prop) (hJ : AbidesSet J)
    (hY : ∀ pre x O W1, J pre O W1 → (∀ b, O b → O0 b ∨ B ≤ b) → (∀ b, O b → b < W1.heap.size) → AtRow B O G x W1 → YieldAt Fence.wide 0 Tryz.prog lp #[ordV x] W1 fun e W' => e = .returned (.bool true) ∧ J (pre ++ [x]) (Less O x) W' ∧ Turns (fun b => ¬ Less O x b) W1 W') :
    ∀ (d : Nat) (ch : List Int) (O : Nat → Prop) (pre : List Lst) (W : World), ch.length + d = m → (∀ p ∈ ext m d ch, G p) → OrdSt O0 bn B lp m W O ch → J pre O W →
      CallsIn Fence.wide 0 Tryz.prog 87 #[.pointer (some ⟨B + 1, 0, none⟩), .pointer (some ⟨bn, 0, none⟩), .pointer (some ⟨B, 0, none⟩), .pointer (some ⟨B + 2, 0, none⟩)] W fun e W' => e = .returned (.bool true) ∧ RetCh J pre O0 bn B lp m (ext m d ch) ch W' := by
  have HJ := Lib.hid hJ
  have HY := Lib.hid hY
  have hmix : Tryz.prog.follows .mixedOrders = true := by kernel_rfl
  obtain ⟨i0, hi0, iz0, iz1, iz2⟩ := info_parts Tryz.info3
  clear hJ hY
  intro d
  induction d with
  | zero =>
    intro ch O pre W hd hG hst hJW
    obtain rfl : ch.length = m := by omega
    have HG := Lib.hid (hG ch (by simp [ext]))
    clear hd hG
    obtain ⟨v, hcB, hown, hvO⟩ := hst.c
    obtain ⟨A, c, rfl, hc, hrow⟩ := own_cap hown
    have HCL := Lib.hid (fun w' (hb : Below W.heap.size W w') => clone_any A c W.heap.size ch w' (hrow.below hb (Nat.le_refl _)) (by omega))
    have hdr : Below W.heap.size W W.drew := (Below.refl _ W).drew
    have x0 := hcB.cell 0
    have x1 := hst.n.cell 0
    have x2 := hst.y.cell 0
    have HO := Lib.hid (⟨hvO, hc, hrow⟩ : (∀ b, some b = (Value.slice A ch.length c).ownBlock → O b) ∧ ch.length ≤ c ∧ Row W W.heap.size A (ic ch))
    have HST := Lib.hid hst
    clear hvO hc hrow hown hcB hst
    refine callsIn_of_wp Tryz.func87 rfl trivial ?_ rfl
    simp only [Tryz.ntmps87, List.size_toArray, List.length_cons, List.length_nil, Nat.reduceAdd, Nat.reduceSub, Array.replicate_succ, Array.replicate_zero, List.push_toArray, List.append_toArray, List.nil_append, List.cons_append]
    gi_wp2
    refine Sv.wpIn_scope_straight ?_
    gi_wp2
    gi_region_with_o (first
      | ((first | refine ⟨trivial, rfl, ?_⟩ | refine ⟨trivial, ?_⟩ | skip); gi_at_call 53; refine (callsIn_wide.2 (HCL.out _ (by with_reducible assumption))).mono ?_; rintro e w2 ⟨v2, rfl, hown2, hb2⟩; obtain ⟨A2, c2, rfl, hc2, hr2⟩ := own_cap hown2; have hT : Turns (fun _ => False) W w2 := ((Turns.refl _ W).drew).after hb2; have st2 := HST.out.step hT (fun b _ h => h.elim); have y2 := st2.y.cell 0; have hlow : ∀ b, some b = (ordV (A2, c2, ch)).ownBlock → W.heap.size ≤ b ∧ b < w2.heap.size := (fun b hb => own_low hown2 hb); have hJ2 := HJ.out pre O (fun b => O b ∨ some b = (ordV (A2, c2, ch)).ownBlock) W w2 hJW (hT.mono fun _ h => h.elim) (fun b hb => hb.imp id fun h => (hlow b h).1); have hBW := HST.out.hi _ HST.out.o0; obtain ⟨fn, tmps, assign, body, hy, hR⟩ := HY.out pre (A2, c2, ch) (fun b => O b ∨ some b = (ordV (A2, c2, ch)).ownBlock) w2 hJ2 (fun b hb => hb.elim (st2.lo b) fun h => .inr (Nat.le_trans (Nat.le_of_lt hBW) (hlow b h).1)) (fun b hb => hb.elim (st2.hi b) fun h => (hlow b h).2) ⟨own_base hown2 (Nat.le_of_lt hBW), fun b hb => .inr hb, HG.out⟩; dsimp only [ordV] at hy)
      | ((first | refine ⟨rfl, ?_⟩ | skip); refine (roundIn_any hR).mono ?_; rintro e W3 ⟨rfl, hJ3, hk3⟩))
    all_goals gi_wp2
    all_goals refine noGoto_ret ?_
    all_goals go_ret
    all_goals
      have hne : ∀ b, O b → some b ≠ (ordV (A2, c2, ch)).ownBlock := fun b hb e => by have h1 := (hlow b e).1; have h2 := HST.out.hi b hb; omega
      exact ⟨rfl, [(A2, c2, ch)], O, rfl, HJ.out _ _ O W3 W3 hJ3 (Turns.refl _ _) (fun b hb => .inl ⟨.inl hb, hne b hb⟩), st2.step hk3 fun b hb h => h ⟨.inl hb, hne b hb⟩⟩
  | succ d ih =>
    intro ch O pre W hd hG hst hJW
    have IH := Lib.hid ih
    have HG := Lib.hid hG
    clear ih hG
    have hne : ¬ ch.length = m := by omega
    have hne2 : ¬ (ch.length : Int) = (m : Int) := by omega
    have hb0 : ((ch.length : Int) == (m : Int)) = false := by rw [beq_eq_false_iff_ne]; exact hne2
    obtain ⟨v, hcB, hown, hvO⟩ := hst.c
    obtain ⟨A, c, rfl, hc, hrow⟩ := own_cap hown
    have x0 := hcB.cell 0
    have x1 := hst.n.cell 0
    clear hvO hc hrow hown hcB
    refine callsIn_of_wp Tryz.func87 rfl trivial ?_ rfl
    simp only [Tryz.ntmps87, List.size_toArray, List.length_cons, List.length_nil, Nat.reduceAdd, Nat.reduceSub, Array.replicate_succ, Array.replicate_zero, List.push_toArray, List.append_toArray, List.nil_append, List.cons_append]
    gi_wp2
    refine Sv.wpIn_scope_straight ?_
    gi_wp2
    refine wpIn_label ?_
    gi_wp2
    gi_loopw [17] (fun i wr => ∃ k : Nat, k ≤ m ∧ i = .int .i64 k ∧ RetCh J pre O0 bn B lp m (extTo m d ch k) ch wr) (fun i _ => m - (intOf i).toNat)
    case atStart => exact ⟨0, Nat.zero_le _, rfl, [], O, rfl, by rw [List.append_nil]; exact hJW, hst⟩
    case round =>
      clear x0 x1 hst hJW
      obtain ⟨k, hk, rfl, xs, O', hxs, hJr, hsr⟩ := hrel
      have HN := Lib.hid (extTo_next m d ch k)
      by_cases hlt : k < m
      · obtain ⟨v, hcB, hown, hvO⟩ := hsr.c
        obtain ⟨A, c, rfl, hc, hrow⟩ := own_cap hown
        have x0 := hcB.cell 0
        have x0f := hcB.frozen 0
        have HRW := Lib.hid hrow
        have HX := Lib.hid hxs
        have HJR := Lib.hid hJr
        have HSR := Lib.hid hsr
        have HCB := Lib.hid hcB
        have HOWN := Lib.hid (⟨hown, hvO⟩ : wr.ownsRow (B + 3) 3 1 (.slice A ch.length c) ch.length (ic ch) ∧ ∀ b, some b = (Value.slice A ch.length c).ownBlock → O' b)
        have hki : (k : Int) < (m : Int) := by omega
        clear hvO hxs hrow hown hJr hsr hcB
        gi_wp2
        gi_loopw [22] (fun i wz => ∃ j : Nat, j ≤ ch.length ∧ i = .int .i64 j ∧ wz = wr ∧ ∀ j', j' < j → ch[j']? ≠ some (k : Int)) (fun i _ => ch.length - (intOf i).toNat)
        case atStart => exact ⟨0, Nat.zero_le _, rfl, rfl, fun _ h => by omega⟩
        case round =>
          obtain ⟨j, hj, rfl, rfl, hnin⟩ := hrel
          have HNIN := Lib.hid hnin
          clear hnin
          by_cases hlj : j < ch.length
          · obtain ⟨b, off, q, rfl, hbB, hq, hcq⟩ := HRW.out.int j hlj
            have hji : (j : Int) < (ch.length : Int) := by omega
            have HQ := Lib.hid hq
            clear hq
            by_cases hqk : q = (k : Int)
            · have hb1 : decide (q = (k : Int)) = true := decide_eq_true hqk
              gi_wp2
              go_roundw
              case rel =>
                refine ⟨k + 1, by omega, by go_num, xs, O', ?_, HJR.out, HSR.out⟩
                rw [HN.out, if_pos (by rw [← hqk]; exact List.mem_of_getElem? HQ.out), List.append_nil]
                exact HX.out
              case measure => simp [intOf]; omega
            · have hb1 : decide (q = (k : Int)) = false := decide_eq_false hqk
              gi_wp2
              go_roundw
              case rel =>
                refine ⟨j + 1, by omega, by go_num, by first | rfl | trivial, fun j' hj' => ?_⟩
                rcases Nat.lt_or_ge j' j with g | g
                · exact HNIN.out j' g
                · obtain rfl : j' = j := by omega
                  rw [HQ.out]
                  intro e
                  injection e with e
                  exact hqk e
              case measure => simp [intOf]; omega
          · obtain rfl : j = ch.length := by omega
            have hmem : (k : Int) ∉ ch := fun hm => by
              obtain ⟨j', h1, h2⟩ := List.getElem_of_mem hm
              exact HNIN.out j' h1 (by rw [List.getElem?_eq_getElem h1, h2])
            have hown := HOWN.out.1
            have hBs := HSR.out.hi _ HSR.out.o1
            have hlow : ∀ b, some b = (Value.slice A ch.length c).ownBlock → B + 3 ≤ b ∧ b < wr.heap.size := fun b hb => own_low hown hb
            gi_wp2_with (gi_at_builtin; refine wpListIn_append_own_at _ rfl (.tmp 30) (.tmp 32) 24 rfl (B + 3) 3 i0 (.int .i64 0) 1 8 Tryz.underlying24 hi0 iz0 iz1 iz2 rfl (by decide) _ _ _ rfl (hown.alloc _) ⟨_, 0, none⟩ 1 1 [.int .i64 (k : Int)] rfl rfl (cell_one_new _ _ _) ?hone ?c3 ?c4 ?c5 ?_)
            case hone => intro u hu; simp at hu; subst hu; rfl
            case c3 => unfold maxLen; omega
            case c4 => omega
            case c5 => simp; omega
            intro v5 w5 hown5 hgrow5 _ hat5
            obtain ⟨A5, c5, rfl, hc5, _⟩ := own_cap hown5
            have ht5 : Turns (fun b => some b = (Value.slice A ch.length c).ownBlock) wr w5 := ((Turns.refl _ wr).alloc _).grown hgrow5 fun r hr => hr.symm
            have hB5 := ht5.blk HCB.out fun e => by have := (hlow _ e).1; omega
            have HH := Lib.hid (ht5.blk HSR.out.h fun e => by have := (hlow _ e).1; omega)
            have x5 := hB5.cell 0
            have x5f := hB5.frozen 0
            have hat6 : (Value.slice A5 (ch.length + 1) c5).ownBlock = (Value.slice A ch.length c).ownBlock ∨ ∃ q, (Value.slice A5 (ch.length + 1) c5).ownBlock = some q ∧ wr.heap.size ≤ q := hat5.imp id fun e => ⟨_, e, by simp⟩
            obtain ⟨hst7, hT7, hO7⟩ := OrdSt.push HSR.out hbn HCB.out hown HOWN.out.2 ht5 hown5 hat6
            have hJ7 := HJ.out (pre ++ xs) O' _ wr _ HJR.out hT7 hO7
            have HC7 := Lib.hid (IH.out (ch ++ [(k : Int)]) _ (pre ++ xs) _ (by simp; omega) (fun p hp => HG.out p (by
              rw [← extTo_all]
              refine List.mem_flatMap.2 ⟨k, List.mem_range.2 hlt, ?_⟩
              rw [if_neg hmem]; exact hp)) hst7 hJ7)
            have x6 : w5.cell? ⟨B + 2, 0, none⟩ = some (.func (.func 87) #[] #[.pointer (some ⟨B + 1, 0, none⟩), .pointer (some ⟨bn, 0, none⟩), .pointer (some ⟨B, 0, none⟩), .pointer (some ⟨B + 2, 0, none⟩)]) := HH.out.cell 0
            clear hgrow5 hst7 hT7 hO7 hJ7 hat5 hat6 ht5 hown5 hB5
            gi_wp2_with (refine ⟨trivial, rfl, ?_⟩; gi_at_call 87; refine (callsIn_any HC7.out).mono ?_; rintro e w7 ⟨rfl, xs2, O8, hxs2, hJ8, hst8⟩; obtain ⟨v8, hcB8, hown8, hvO8⟩ := hst8.c; rw [show (ch ++ [(k : Int)]).length = ch.length + 1 by simp] at hown8; obtain ⟨A8, c8, rfl, hc8, _⟩ := own_cap hown8; have x8 := hcB8.cell 0; have x8f := hcB8.frozen 0; have hcl8 : ch.length ≤ c8 := (by omega))
            obtain ⟨hst9, hT9⟩ := OrdSt.pop hst8 hbn hcB8 hown8 hvO8
            go_roundw
            case rel =>
              refine ⟨k + 1, by omega, by go_num, xs ++ xs2, O8, ?_, ?_, hst9⟩
              · rw [HN.out, if_neg hmem, List.map_append, HX.out, hxs2]
              · rw [← List.append_assoc]
                exact HJ.out _ _ _ _ _ hJ8 hT9 fun b hb => .inl hb
            case measure => simp [intOf]; omega
      · obtain rfl : k = m := by omega
        gi_wp2
        refine noGoto_ret ?_
        go_ret
        exact ⟨rfl, xs, O', hxs, hJr, hsr⟩

set_option maxRecDepth 100000 in
set_option maxHeartbeats 4000000 in
theorem orders_seq (m : Nat) (hm : m ≤ 8) (bn : Nat) (w0 : World) (hn : Blk w0 bn 3 #[.int .i64 (m : Int)]) : SeqOwn Tryz.prog 86 #[.pointer (some ⟨bn, 0, none⟩)] (fun b => b = bn) (IsOrd m) (fun ps => ps = ext m m []) w0 := by
  intro lp J W hb hJ hY hJ0
  have hbn : bn < W.heap.size := Nat.lt_of_lt_of_le hn.lt hb.size
  have hnW := hn.below hb hn.lt
  obtain ⟨W4, hW4⟩ : ∃ W4, (((W.alloc (.cells #[.func (.yield lp) #[] #[]] 134)).alloc (.cells #[.slice none 0 0] 24)).alloc (.cells #[.func (.func 87) #[] #[.pointer (some ⟨W.heap.size + 1, 0, none⟩), .pointer (some ⟨bn, 0, none⟩), .pointer (some ⟨W.heap.size, 0, none⟩), .pointer (some ⟨W.heap.size + 1 + 1, 0, none⟩)]] 23)) = W4 := ⟨_, rfl⟩
  have hs4 : W4.heap.size = W.heap.size + 3 := by rw [← hW4]; simp
  have hB4 : Below W.heap.size W W4 := by rw [← hW4]; exact (((Below.refl _ W).alloc (Nat.le_refl _) _).alloc (by simp) _).alloc (by simp; omega) _
  have hst : OrdSt (fun b => b = bn) bn W.heap.size lp m W4 (fun b => b = bn ∨ b = W.heap.size ∨ b = W.heap.size + 1 ∨ b = W.heap.size + 2) [] := by
    refine ⟨hnW.below hB4 hbn, ?_, ⟨.slice none 0 0, ?_, World.ownsRow_nil _ _ _ _, fun b hb => by cases hb⟩, ?_, .inl rfl, .inr (.inl rfl), .inr (.inr (.inl rfl)), .inr (.inr (.inr rfl)), fun b hb => ?_, fun b hb => ?_⟩
    · rw [← hW4]; exact ((Blk.new _ _ _).alloc _).alloc _
    · rw [← hW4]; exact (Blk.new' _ _ _ _ (by simp)).alloc _
    · rw [← hW4]; exact Blk.new' _ _ _ _ (by simp)
    · rcases hb with hb | hb | hb | hb
      · exact .inl hb
      all_goals right; omega
    · rcases hb with hb | hb | hb | hb <;> omega
  have hJ4 := hJ [] _ (fun b => b = bn ∨ b = W.heap.size ∨ b = W.heap.size + 1 ∨ b = W.heap.size + 2) W W4 hJ0 ((Turns.refl _ W).after hB4) (fun b hb => by
    rcases hb with hb | hb | hb | hb
    · exact .inl hb
    all_goals right; omega)
  have HC0 := choose_in (fun b => b = bn) (IsOrd m) bn W.heap.size lp m hm hbn J hJ hY m [] _ [] W4 (by simp) (fun p hp => (ord_mem m p).1 hp) hst hJ4
  rw [← hW4] at HC0
  have HC := Lib.hid HC0
  clear hJ hY hJ0 hst hJ4 hnW hB4 hb HC0 hW4 hs4 W4
  refine callsIn_of_wp Tryz.func86 rfl trivial ?_ rfl
  simp only [Tryz.ntmps86, List.size_toArray, List.length_cons, List.length_nil, Nat.reduceAdd, Nat.reduceSub, Array.replicate_succ, Array.replicate_zero, List.push_toArray, List.append_toArray, List.nil_append, List.cons_append]
  gi_wp2_with (refine ⟨trivial, rfl, ?_⟩; gi_at_call 87; refine (callsIn_any HC.out).mono ?_; rintro e w7 ⟨rfl, xs2, O8, hxs2, hJ8, hst8⟩)
  go_end0
  exact ⟨⟨_, rfl⟩, xs2, O8, hxs2, hJ8⟩
end Go.Proofs.YtbldpojkpmafpaaGreatDoor
