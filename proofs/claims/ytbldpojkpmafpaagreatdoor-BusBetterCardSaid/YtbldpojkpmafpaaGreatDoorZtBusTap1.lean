/- Package bus: whether nets meet; tracks that are no numbers of tracks. -/
import Derived.Test.YtbldpojkpmafpaaGreatDoorZtBusTracks
import Derived.RangeFuncNested
import Derived.RangeFuncBound
import Derived.RangeFuncCalls
import Derived.RangeFuncLeaves
import Derived.Shelf.Abstract
import Derived.Shelf.RegionOpen
import Derived.WalkKit
import Derived.OwnWalkIn
import Derived.TacticsInMore
import Derived.LoopNIn
import Derived.LoopIn
namespace Go.Proofs.YtbldpojkpmafpaaGreatDoor
open Go.RowKit

def meetB (xs : List (Int × Int)) (a b : Nat) : Bool := decide ((xs.getD a (0, 0)).1 ≤ (xs.getD b (0, 0)).2) && decide ((xs.getD b (0, 0)).1 ≤ (xs.getD a (0, 0)).2)
set_option maxHeartbeats 4000000 in
set_option maxRecDepth 100000 in
theorem meet_any (g : Nat) (V : Value) (F : Nat → Int) (A : Option Addr) (c B i j : Nat) (xs : List (Int × Int)) (w : World) (h : RowAt w g V F (.slice A xs.length c)) (hr : Row w B A (xcells xs)) (hB : B ≤ w.heap.size) (hi : i < xs.length) (hj : j < xs.length) :
    Calls Tryz.prog 97 #[.pointer (some ⟨g, 0, none⟩), .int .i64 (i : Int), .int .i64 (j : Int)] w fun e w' => e = .returned (.bool (meetB xs i j)) ∧ Below w.heap.size w w' := by
  obtain ⟨b, off, x, y, hA, hbB, hx, hc1, hc2⟩ := hr.extent i hi
  obtain ⟨b', off', x', y', hA', _, hx', hc1', hc2'⟩ := hr.extent j hj
  subst hA
  injection hA' with hA'; injection hA' with h1 h2; subst h1; subst h2
  have e : meetB xs i j = (decide (x ≤ y') && decide (x' ≤ y)) := by unfold meetB; simp only [List.getD_eq_getElem?_getD, hx, hx', Option.getD_some]
  rw [e]
  have x98 := h.ext
  have hii : (i : Int) < (xs.length : Int) := by omega
  have hjj : (j : Int) < (xs.length : Int) := by omega
  have hbl : b < w.heap.size := by omega
  have hgl := h.lt
  clear hx hx' e h hr
  go_enter Tryz.func97, Tryz.ntmps97
  go_wp2_with fail
  go_region
  all_goals
    by_cases hxy : x ≤ y'
    · have hd : decide (x ≤ y') = true := decide_eq_true hxy
      go_wp2_with fail
      go_ret
      exact ⟨by first | rfl | (rw [hd]; rfl), (by repeat (first | with_reducible exact Below.refl _ _ | with_reducible assumption | with_reducible refine Below.setCell ?_ (by first | omega | (simp; done) | (simp; omega)) _ | with_reducible refine below_drewN ?_ _ | with_reducible refine Below.drew ?_ | with_reducible refine Below.alloc ?_ (by first | omega | (simp; done) | (simp; omega)) _ | with_reducible refine below_after ?_ (by assumption) (by first | omega | (simp; done) | (simp; omega))))⟩
    · have hd : decide (x ≤ y') = false := decide_eq_false hxy
      go_wp2_with fail
      go_ret
      exact ⟨by first | rfl | (rw [hd]; rfl), (by repeat (first | with_reducible exact Below.refl _ _ | with_reducible assumption | with_reducible refine Below.setCell ?_ (by first | omega | (simp; done) | (simp; omega)) _ | with_reducible refine below_drewN ?_ _ | with_reducible refine Below.drew ?_ | with_reducible refine Below.alloc ?_ (by first | omega | (simp; done) | (simp; omega)) _ | with_reducible refine below_after ?_ (by assumption) (by first | omega | (simp; done) | (simp; omega))))⟩

def farB (ts : List Int) : Bool := ts.any fun t => decide (t < 0) || decide (64 ≤ t)
theorem farTrack_any (t : Int) (w : World) : Calls Tryz.prog 96 #[.int .i64 t] w fun e w' => e = .returned (.bool (decide (t < 0) || decide (64 ≤ t))) ∧ w = w' := by
  by_cases h : t < 0
  · have hd : decide (t < 0) = true := decide_eq_true h
    go_enter Tryz.func96, Tryz.ntmps96
    go_wp2_with fail
    go_ret
    exact ⟨by first | rfl | (rw [hd]; rfl), rfl⟩
  · have hd : decide (t < 0) = false := decide_eq_false h
    go_enter Tryz.func96, Tryz.ntmps96
    go_wp2_with fail
    go_ret
    exact ⟨by first | rfl | (rw [hd]; rfl), rfl⟩
def farAt (k : Nat) : List Int → Int
  | [] => -1
  | t :: r => if (decide (t < 0) || decide (64 ≤ t)) = true then (k : Int) else farAt (k + 1) r
theorem farAt_sign : ∀ (ts : List Int) (k : Nat), decide (0 ≤ farAt k ts) = farB ts
  | [], k => by simp [farAt, farB]
  | t :: r, k => by
      have := farAt_sign r (k + 1)
      unfold farAt
      unfold farB at this ⊢
      rw [List.any_cons]
      split
      · rename_i h; rw [h]; simp
      · rename_i h; rw [this]; simp only [Bool.not_eq_true] at h; rw [h]; rfl
set_option maxRecDepth 100000 in
theorem farIndex_any (A : Option Addr) (c B : Nat) (es : List Int) (w : World) (hl : es.length ≤ 1000000) (h : Row w B A (es.map (Value.int .i64))) :
    Calls Tryz.prog 91 #[.slice A es.length c, .func (.func 96) #[] #[]] w fun e w' => e = .returned (.int .i64 (farAt 0 es)) ∧ w = w' := by
  have H := Lib.hid h
  clear h
  obtain ⟨r, hr⟩ : ∃ r, farAt 0 es = r := ⟨_, rfl⟩
  rw [hr]
  have HR := Lib.hid hr
  clear hr
  go_enter Tryz.func91, Tryz.ntmps91
  go_wp2_with fail
  go_loop [8] (fun i => ∃ k : Nat, k ≤ es.length ∧ i = .int .i64 k ∧ farAt k (es.drop k) = r) (fun i => es.length - (intOf i).toNat)
  case atStart => exact ⟨0, Nat.zero_le _, rfl, HR.out⟩
  case round =>
    obtain ⟨k, hk, rfl, hpre⟩ := hrel
    have HP := Lib.hid hpre
    clear hpre
    by_cases hlt : k < es.length
    · obtain ⟨b, off, x, rfl, hbB, hx, hc⟩ := H.out.int k hlt
      have hd : es.drop k = x :: es.drop (k + 1) := by
        rw [List.drop_eq_getElem_cons hlt]
        rw [List.getElem?_eq_getElem hlt] at hx
        rw [Option.some.inj hx]
      have hp := HP.out
      rw [hd] at hp
      unfold farAt at hp
      have he := farTrack_any x w
      clear hx hd
      generalize (decide (x < 0) || decide (64 ≤ x)) = bb at *
      have HE := Lib.hid he
      clear he HP
      cases bb
      · rw [if_neg (by decide)] at hp
        have HN := Lib.hid hp
        clear hp
        go_wp2_with (refine HE.out.mono ?_; rintro e w' ⟨rfl, rfl⟩)
        go_round
        case rel => exact ⟨k + 1, by omega, by go_num, HN.out⟩
        case measure => simp [intOf]; omega
      · rw [if_pos rfl] at hp
        have HN := Lib.hid hp
        clear hp
        go_wp2_with (refine HE.out.mono ?_; rintro e w' ⟨rfl, rfl⟩)
        go_ret
        exact ⟨ret_i64 HN.out, rfl⟩
    · obtain rfl : k = es.length := by omega
      have HN := Lib.hid (show (-1 : Int) = r by rw [← HP.out, List.drop_length]; rfl)
      go_wp2_with fail
      go_ret
      exact ⟨ret_i64 HN.out, rfl⟩
set_option maxRecDepth 100000 in
theorem farTracks_any (A : Option Addr) (c B : Nat) (es : List Int) (w : World) (hl : es.length ≤ 1000000) (h : Row w B A (es.map (Value.int .i64))) :
    Calls Tryz.prog 95 #[.slice A es.length c, .func (.func 96) #[] #[]] w fun e w' => e = .returned (.bool (farB es)) ∧ w = w' := by
  have H := Lib.hid (farIndex_any A c B es w hl h)
  have hs := farAt_sign es 0
  generalize farAt 0 es = f at *
  clear h
  go_enter Tryz.func95, Tryz.ntmps95
  go_wp2_with (refine H.out.mono ?_; rintro e w' ⟨rfl, rfl⟩)
  go_ret
  exact ⟨by rw [← hs]; rfl, rfl⟩
end Go.Proofs.YtbldpojkpmafpaaGreatDoor

/- Package bus: the check of a layout. -/
namespace Go.Proofs.YtbldpojkpmafpaaGreatDoor
open Go.RowKit

def confRow (xs : List (Int × Int)) (ts : List Int) (i : Nat) : Nat → Bool
  | 0 => false
  | k + 1 => confRow xs ts i k || (ts.getD i 0 == ts.getD k 0 && meetB xs i k)
def conf (xs : List (Int × Int)) (ts : List Int) : Nat → Bool
  | 0 => false
  | i + 1 => conf xs ts i || confRow xs ts i i
theorem confRow_up (xs : List (Int × Int)) (ts : List Int) (i : Nat) : ∀ (k m : Nat), k ≤ m → confRow xs ts i k = true → confRow xs ts i m = true := by
  intro k m h hk
  induction m with
  | zero => rw [show k = 0 by omega] at hk; exact hk
  | succ m ih =>
    by_cases he : k = m + 1
    · rw [← he]; exact hk
    · unfold confRow; rw [ih (by omega)]; rfl
theorem conf_up (xs : List (Int × Int)) (ts : List Int) : ∀ (k m : Nat), k ≤ m → conf xs ts k = true → conf xs ts m = true := by
  intro k m h hk
  induction m with
  | zero => rw [show k = 0 by omega] at hk; exact hk
  | succ m ih =>
    by_cases he : k = m + 1
    · rw [← he]; exact hk
    · unfold conf; rw [ih (by omega)]; rfl
def layErr (l : List Bus.Net) (n : Int) (order ts : List Int) : Int :=
  if Bus.bothErr l n order ≠ 0 then Bus.bothErr l n order else if ts.length ≠ l.length then 2 else if farB ts = true then 3 else if conf (Bus.exts (Bus.atUp order order.length) l) ts l.length = true then 30 else 0

set_option maxHeartbeats 8000000 in
set_option maxRecDepth 100000 in
theorem CheckLayout_any (A A2 A3 : Option Addr) (c c2 c3 B : Nat) (l : List NetAt) (order ts : List Int) (n : Int) (w : World) (h : NetsIn w B A l) (h2 : Row w B A2 (order.map (Value.int .i64))) (h3 : Row w B A3 (ts.map (Value.int .i64))) (hi : ∀ c ∈ order, I64 c) (hB : B ≤ w.heap.size) (hl : l.length ≤ 140737488355328) (hl2 : order.length ≤ 1000000) (hl3 : ts.length ≤ 1000000) :
    Calls Tryz.prog 51 #[.slice A l.length c, .int .i64 n, .agg #[.slice A2 order.length c2, .slice A3 ts.length c3]] w fun e w' => e = .returned (.int .i64 (layErr (l.map NetAt.net) n order ts)) ∧ Below w.heap.size w w' := by
  have HC := Lib.hid (fun w' (hb : Below w.heap.size w w') => checked_any A A2 c c2 B l order n w' (h.below hb hB) (h2.below hb hB) hi (by have := hb.size; omega) hl hl2)
  have HF := Lib.hid (fun w' (hb : Below w.heap.size w w') => farTracks_any A3 c3 B ts w' hl3 (h3.below hb hB))
  have H3 := Lib.hid h3
  obtain ⟨E, hE⟩ : ∃ E, Bus.bothErr (l.map NetAt.net) n order = E := ⟨_, rfl⟩
  obtain ⟨r, hr⟩ : ∃ r, layErr (l.map NetAt.net) n order ts = r := ⟨_, rfl⟩
  rw [hr]
  have hr2 := hr
  unfold layErr at hr2
  rw [hE, List.length_map] at hr2
  rw [hE] at HC
  have hstand := fun (hz : E = 0) w' (hb : Below w.heap.size w w') => stand_any A A2 c c2 B l order n w' (h.below hb hB) (h2.below hb hB) (by have := hb.size; omega) (both_zero (by rw [hE]; exact hz)).2 (both_zero (by rw [hE]; exact hz)).1
  have hl64 : E = 0 → l.length ≤ 64 := fun hz => by
    have := (Bus.netsErr_zero (both_zero (show Bus.bothErr (l.map NetAt.net) n order = 0 by rw [hE]; exact hz)).1).2.2.1
    rwa [List.length_map] at this
  clear h h2 h3 hi hr hE
  by_cases h0 : E = 0
  · subst h0
    rw [if_neg (by decide)] at hr2
    have HST := Lib.hid (hstand rfl)
    have h64 := hl64 rfl
    clear hstand hl64
    by_cases htl : ts.length = l.length
    · rw [if_neg (by omega)] at hr2
      by_cases hfar : farB ts = true
      · rw [if_pos hfar] at hr2
        have HR := Lib.hid hr2
        have hln : ((ts.length : Int) != (l.length : Int)) = false := by simp; omega
        rw [hfar] at HF
        have HTL := Lib.hid htl
        clear hr2 hfar htl
        go_enter Tryz.func51, Tryz.ntmps51
        go_wp2_with fail
        generalize hW0 : World.alloc w _ = W0
        obtain ⟨G, hG⟩ : ∃ G, w.heap.size = G := ⟨_, rfl⟩
        have d0 : Blk W0 G 29 #[.slice A2 order.length c2, .slice A3 ts.length c3] := by rw [← hW0, ← hG]; exact Blk.new _ _ _
        have e0 : Below w.heap.size w W0 := by rw [← hW0]; exact (Below.refl _ w).alloc (Nat.le_refl _) _
        try rw [hG]
        clear hW0
        refine (HC.out _ e0).mono ?_
        rintro e w1 ⟨rfl, hb1⟩
        have e1 := below_after e0 hb1 (Nat.le_refl _)
        have d1 := keep_blk d0 hb1
        have p0 : w1.cell? ⟨G, 0, none⟩ = some (.slice A2 order.length c2) := d1.cell 0
        have p1 : w1.cell? ⟨G, 1, none⟩ = some (.slice A3 ts.length c3) := d1.cell 1
        have hGl := d1.lt
        have HF1 := Lib.hid (HF.out _ e1)
        clear hb1 e0 d0 HC HF
        go_wp2_with (first
          | (go_at_call 95; refine HF1.out.mono ?_; rintro e w2 ⟨rfl, rfl⟩)
          | (go_at_call 40; refine (when_any _ _ _).mono ?_; rintro e w2 ⟨rfl, rfl⟩)
          | (go_at_call 38; refine (first_hit22 3 w1 _).mono ?_; rintro e w2 ⟨rfl, rfl⟩))
        all_goals (go_ret; exact ⟨ret_i64 HR.out, by first | exact (by repeat (first | with_reducible exact Below.refl _ _ | with_reducible assumption | with_reducible refine Below.setCell ?_ (by first | omega | (simp; done) | (simp; omega)) _ | with_reducible refine below_drewN ?_ _ | with_reducible refine Below.drew ?_ | with_reducible refine Below.alloc ?_ (by first | omega | (simp; done) | (simp; omega)) _ | with_reducible refine below_after ?_ (by assumption) (by first | omega | (simp; done) | (simp; omega)))) | (rw [← hG]; exact (by repeat (first | with_reducible exact Below.refl _ _ | with_reducible assumption | with_reducible refine Below.setCell ?_ (by first | omega | (simp; done) | (simp; omega)) _ | with_reducible refine below_drewN ?_ _ | with_reducible refine Below.drew ?_ | with_reducible refine Below.alloc ?_ (by first | omega | (simp; done) | (simp; omega)) _ | with_reducible refine below_after ?_ (by assumption) (by first | omega | (simp; done) | (simp; omega)))))⟩)
      · have hfar' : farB ts = false := by simpa using hfar
        rw [if_neg hfar] at hr2
        rw [hfar'] at HF
        have HR := Lib.hid hr2
        have hln : ((ts.length : Int) != (l.length : Int)) = false := by simp; omega
        have HTL := Lib.hid htl
        clear hr2 hfar hfar' htl
        go_enter Tryz.func51, Tryz.ntmps51
        go_wp2_with fail
        generalize hW0 : World.alloc w _ = W0
        obtain ⟨G, hG⟩ : ∃ G, w.heap.size = G := ⟨_, rfl⟩
        have d0 : Blk W0 G 29 #[.slice A2 order.length c2, .slice A3 ts.length c3] := by rw [← hW0, ← hG]; exact Blk.new _ _ _
        have e0 : Below w.heap.size w W0 := by rw [← hW0]; exact (Below.refl _ w).alloc (Nat.le_refl _) _
        try rw [hG]
        clear hW0
        refine (HC.out _ e0).mono ?_
        rintro e w1 ⟨rfl, hb1⟩
        have e1 := below_after e0 hb1 (Nat.le_refl _)
        have d1 := keep_blk d0 hb1
        have p0 : w1.cell? ⟨G, 0, none⟩ = some (.slice A2 order.length c2) := d1.cell 0
        have p1 : w1.cell? ⟨G, 1, none⟩ = some (.slice A3 ts.length c3) := d1.cell 1
        have hGl := d1.lt
        have HF1 := Lib.hid (HF.out _ e1)
        clear hb1 e0 d0 HC HF
        go_wp2_with (first
          | (go_at_call 95; refine HF1.out.mono ?_; rintro e w2 ⟨rfl, rfl⟩)
          | (go_at_call 40; refine (when_any _ _ _).mono ?_; rintro e w2 ⟨rfl, rfl⟩)
          | (go_at_call 38; refine (first_hit22 0 w1 _).mono ?_; rintro e w2 ⟨rfl, rfl⟩))
        have e1a := e1.alloc e1.size (.cells #[.int .i64 0, .int .i64 0] 30)
        have d1a := d1.alloc (.cells #[.int .i64 0, .int .i64 0] 30)
        refine (HST.out _ e1a).mono ?_
        rintro e w2 ⟨g, v, rfl, hg, hrow, hown, hb2⟩
        have e2 := below_after e1a hb2 (Nat.le_refl _)
        have d2 := keep_blk d1a hb2
        have hlen := exts_len (Bus.atUp order order.length) l
        obtain ⟨xs, hxs⟩ : ∃ xs, Bus.exts (Bus.atUp order order.length) (l.map NetAt.net) = xs := ⟨_, rfl⟩
        rw [hxs] at hown hlen
        have HRX := HR.out
        rw [hxs] at HRX
        obtain ⟨Av, cv, rfl, _, hr⟩ := own_cap hown
        rw [← hlen] at hrow
        have HMT := Lib.hid (fun (i j : Nat) w' (hb : Below w2.heap.size w2 w') (hi : i < xs.length) (hj : j < xs.length) => meet_any g _ _ Av cv w2.heap.size i j xs w' (hrow.below hb) (hr.below hb (Nat.le_refl _)) hb.size hi hj)
        have q0 : w2.cell? ⟨G, 0, none⟩ = some (.slice A2 order.length c2) := d2.cell 0
        have q1 : w2.cell? ⟨G, 1, none⟩ = some (.slice A3 ts.length c3) := d2.cell 1
        have hG2 := d2.lt
        have s2 := e2.size
        obtain ⟨L, hL⟩ : ∃ L, l.length = L := ⟨_, rfl⟩
        rw [hL] at HRX
        have HLX := Lib.hid (show xs.length = L by rw [hlen, hL])
        have HRR := Lib.hid HRX
        have HTS := Lib.hid (show ts.length = L by rw [HTL.out, hL])
        clear hown hrow hr hb2 e1a d1a e1 d1 p0 p1 HF1 HST HR HRX d2 hlen hxs HTL
        rw [hL]
        go_wp2_with fail
        go_loopw [44] (fun i wr => ∃ k : Nat, k ≤ L ∧ i = .int .i64 k ∧ conf xs ts k = false ∧ Below w2.heap.size w2 wr) (fun i _ => L - (intOf i).toNat)
        case atStart => exact ⟨0, Nat.zero_le _, rfl, rfl, Below.refl _ _⟩
        case round =>
          obtain ⟨k, hk, rfl, hcf, eb⟩ := hrel
          have hsz := eb.size
          by_cases hlt : k < L
          · obtain ⟨W, hW⟩ : ∃ W, wr = W := ⟨_, rfl⟩
            rw [hW] at eb hsz ⊢
            clear hW
            have HCF := Lib.hid hcf
            clear hcf
            go_wp2_with fail
            go_loopw [48] (fun i wz => ∃ j : Nat, j ≤ k ∧ i = .int .i64 j ∧ confRow xs ts k j = false ∧ Below W.heap.size W wz) (fun i _ => k - (intOf i).toNat)
            case atStart => exact ⟨0, Nat.zero_le _, rfl, rfl, Below.refl _ _⟩
            case round =>
              obtain ⟨j, hj, rfl, hcr, ez⟩ := hrel
              have hszz := ez.size
              have ebz := below_after eb ez (Nat.le_refl _)
              have e3 := below_after e2 ebz (Nat.le_refl _)
              have hszw := e3.size
              by_cases hlj : j < k
              · obtain ⟨b, off, x, hA3, hbB, hx, hcx⟩ := H3.out.int k (by rw [HTS.out]; omega)
                obtain ⟨b', off', y, hA3', _, hy, hcy⟩ := H3.out.int j (by rw [HTS.out]; omega)
                subst hA3
                injection hA3' with hA3'; injection hA3' with h1 h2; subst h1; subst h2
                have hcx2 : wr.drew.cell? ⟨b, off + k, none⟩ = some (.int .i64 x) := (e3.cell (p := ⟨b, off + k, none⟩) (by show b < _; omega)).trans hcx
                have hcy2 : wr.drew.cell? ⟨b, off + j, none⟩ = some (.int .i64 y) := (e3.cell (p := ⟨b, off + j, none⟩) (by show b < _; omega)).trans hcy
                have q1d : wr.drew.cell? ⟨G, 1, none⟩ = some (.slice (some ⟨b, off, none⟩) ts.length c3) := (ebz.cell (p := ⟨G, 1, none⟩) hG2).trans q1
                have hcx3 : wr.cell? ⟨b, off + k, none⟩ = some (.int .i64 x) := hcx2
                have hcy3 : wr.cell? ⟨b, off + j, none⟩ = some (.int .i64 y) := hcy2
                have q1e : wr.cell? ⟨G, 1, none⟩ = some (.slice (some ⟨b, off, none⟩) ts.length c3) := q1d
                have HST2 := Lib.hid (show confRow xs ts k (j + 1) = (confRow xs ts k j || (ts.getD k 0 == ts.getD j 0 && meetB xs k j)) from rfl)
                have gx : ts.getD k 0 = x := by rw [List.getD_eq_getElem?_getD, hx]; rfl
                have gy : ts.getD j 0 = y := by rw [List.getD_eq_getElem?_getD, hy]; rfl
                rw [hcr, gx, gy, Bool.false_or] at HST2
                have hkt : (k : Int) < (ts.length : Int) := by rw [HTS.out]; omega
                have hjt : (j : Int) < (ts.length : Int) := by rw [HTS.out]; omega
                clear hx hy hcx hcy gx gy
                by_cases hxy : x = y
                · have hbe : (x == y) = true := by rw [beq_iff_eq]; exact hxy
                  rw [hbe, Bool.true_and] at HST2
                  go_wp2_with fail
                  go_still_tail 15, (by kernel_rfl)
                  have ed := e3.drew
                  have ebd := ebz.drew
                  have ezd := ez.drew
                  change wpList _ _ _ _ _ wr.drew
                  generalize wr.drew = W5 at hcx2 hcy2 q1d ed ebd ezd ⊢
                  clear hcx3 hcy3 q1e e3 ebz
                  go_wp2_with (first
                    | (go_at_call 97; refine (HMT.out k j _ ebd (by rw [HLX.out]; omega) (by rw [HLX.out]; omega)).mono ?_; rintro e w6 ⟨rfl, hb6⟩))
                  · rename_i hmt
                    have e6 := below_after ed hb6 (Nat.le_refl _)
                    have hc1 : conf xs ts L = true := conf_up xs ts (k + 1) L (by omega) (by
                      show (conf xs ts k || confRow xs ts k k) = true
                      rw [confRow_up xs ts k (j + 1) k (by omega) (by rw [HST2.out]; exact hmt)]
                      exact Bool.or_true _)
                    have hq := HRR.out
                    rw [if_pos hc1] at hq
                    have HQ := Lib.hid hq
                    clear hq hc1
                    go_ret
                    exact ⟨ret_i64 HQ.out, by first | exact e6 | (rw [← hG]; exact e6)⟩
                  · rename_i hmt
                    have e6 := below_after ezd hb6 (Nat.le_refl _)
                    exact ⟨⟨j + 1, by omega, by go_num, HST2.out.trans hmt, e6⟩, by simp [intOf]; omega⟩
                · have hbe : (x == y) = false := by rw [beq_eq_false_iff_ne]; exact hxy
                  rw [hbe, Bool.false_and] at HST2
                  clear hcx2 hcy2 q1d
                  go_wp2_with fail
                  go_quiet (fail)
                  go_wp2_with fail
                  go_roundw
                  case rel => exact ⟨j + 1, by omega, by go_num, HST2.out, (by repeat (first | with_reducible exact Below.refl _ _ | with_reducible assumption | with_reducible refine Below.setCell ?_ (by first | omega | (simp; done) | (simp; omega)) _ | with_reducible refine below_drewN ?_ _ | with_reducible refine Below.drew ?_ | with_reducible refine Below.alloc ?_ (by first | omega | (simp; done) | (simp; omega)) _ | with_reducible refine below_after ?_ (by assumption) (by first | omega | (simp; done) | (simp; omega))))⟩
                  case measure => simp [intOf]; omega
              · obtain rfl : k = j := by omega
                have HC2 := Lib.hid (show conf xs ts (k + 1) = false by unfold conf; rw [HCF.out, hcr]; rfl)
                go_wp2_with fail
                go_roundw
                case rel => exact ⟨k + 1, by omega, by go_num, HC2.out, ebz⟩
                case measure => simp [intOf]; omega
          · obtain rfl : k = L := by omega
            have hq := HRR.out
            rw [if_neg (by rw [hcf]; decide)] at hq
            have HQ := Lib.hid hq
            have e3 := below_after e2 eb (Nat.le_refl _)
            clear hq
            go_wp2_with fail
            go_ret
            exact ⟨ret_i64 HQ.out, by first | exact e3 | (rw [← hG]; exact e3)⟩
    · rw [if_pos htl] at hr2
      have HR := Lib.hid hr2
      have hln : ((ts.length : Int) != (l.length : Int)) = true := by rw [bne_iff_ne]; omega
      clear hr2
      go_enter Tryz.func51, Tryz.ntmps51
      go_wp2_with fail
      generalize hW0 : World.alloc w _ = W0
      obtain ⟨G, hG⟩ : ∃ G, w.heap.size = G := ⟨_, rfl⟩
      have d0 : Blk W0 G 29 #[.slice A2 order.length c2, .slice A3 ts.length c3] := by rw [← hW0, ← hG]; exact Blk.new _ _ _
      have e0 : Below w.heap.size w W0 := by rw [← hW0]; exact (Below.refl _ w).alloc (Nat.le_refl _) _
      try rw [hG]
      clear hW0
      refine (HC.out _ e0).mono ?_
      rintro e w1 ⟨rfl, hb1⟩
      have e1 := below_after e0 hb1 (Nat.le_refl _)
      have d1 := keep_blk d0 hb1
      have p0 : w1.cell? ⟨G, 0, none⟩ = some (.slice A2 order.length c2) := d1.cell 0
      have p1 : w1.cell? ⟨G, 1, none⟩ = some (.slice A3 ts.length c3) := d1.cell 1
      have hGl := d1.lt
      have HF1 := Lib.hid (HF.out _ e1)
      clear hb1 e0 d0 HC HF
      go_wp2_with (first
        | (go_at_call 95; refine HF1.out.mono ?_; rintro e w2 ⟨rfl, rfl⟩)
        | (go_at_call 40; refine (when_any _ _ _).mono ?_; rintro e w2 ⟨rfl, rfl⟩)
        | (go_at_call 38; refine (first_hit21 2 _ w1 _ (by decide)).mono ?_; rintro e w2 ⟨rfl, rfl⟩))
      all_goals (go_ret; exact ⟨ret_i64 HR.out, by first | exact (by repeat (first | with_reducible exact Below.refl _ _ | with_reducible assumption | with_reducible refine Below.setCell ?_ (by first | omega | (simp; done) | (simp; omega)) _ | with_reducible refine below_drewN ?_ _ | with_reducible refine Below.drew ?_ | with_reducible refine Below.alloc ?_ (by first | omega | (simp; done) | (simp; omega)) _ | with_reducible refine below_after ?_ (by assumption) (by first | omega | (simp; done) | (simp; omega)))) | (rw [← hG]; exact (by repeat (first | with_reducible exact Below.refl _ _ | with_reducible assumption | with_reducible refine Below.setCell ?_ (by first | omega | (simp; done) | (simp; omega)) _ | with_reducible refine below_drewN ?_ _ | with_reducible refine Below.drew ?_ | with_reducible refine Below.alloc ?_ (by first | omega | (simp; done) | (simp; omega)) _ | with_reducible refine below_after ?_ (by assumption) (by first | omega | (simp; done) | (simp; omega)))))⟩)
  · rw [if_pos h0] at hr2
    have hne : (E != 0) = true := by rw [bne_iff_ne]; exact h0
    have HR := Lib.hid hr2
    clear hstand hl64 hr2 HF H3
    go_enter Tryz.func51, Tryz.ntmps51
    go_wp2_with fail
    generalize hW0 : World.alloc w _ = W0
    have e0 : Below w.heap.size w W0 := by rw [← hW0]; exact (Below.refl _ w).alloc (Nat.le_refl _) _
    clear hW0
    refine (HC.out _ e0).mono ?_
    rintro e w1 ⟨rfl, hb1⟩
    have e1 := below_after e0 hb1 (Nat.le_refl _)
    go_wp2_with fail
    go_ret
    exact ⟨ret_i64 HR.out, e1⟩
end Go.Proofs.YtbldpojkpmafpaaGreatDoor

/- Package bus: what the crossings of a layout are, and the function taps. -/
namespace Go.Proofs.YtbldpojkpmafpaaGreatDoor
open Go.RowKit

def crossUp (xs : List (Int × Int)) (ts : List Int) (i : Nat) (p : Int) : Nat → Int
  | 0 => 0
  | k + 1 => crossUp xs ts i p k + if decide (ts.getD k 0 < ts.getD i 0) && covB xs k p then 1 else 0
theorem crossUp_lo (xs : List (Int × Int)) (ts : List Int) (i : Nat) (p : Int) : ∀ k : Nat, 0 ≤ crossUp xs ts i p k ∧ crossUp xs ts i p k ≤ k := by
  intro k
  induction k with
  | zero => exact ⟨Int.le_refl _, Int.le_refl _⟩
  | succ k ih => unfold crossUp; split <;> omega
set_option maxHeartbeats 8000000 in
theorem taps_any (g : Nat) (w : World) :
    Calls Tryz.prog 93 #[.pointer (some ⟨g, 0, none⟩)] w fun e w' => ∃ bx, e = .returned (.func (.func 133) #[] #[.pointer (some ⟨bx, 0, none⟩)]) ∧ w.heap.size ≤ bx ∧ bx < w'.heap.size ∧ w'.cell? ⟨bx, 0, none⟩ = some (.pointer (some ⟨g, 0, none⟩)) ∧ Below w.heap.size w w' := by
  go_enter Tryz.func93, Tryz.ntmps93
  go_wp2_with fail
  generalize hW0 : World.alloc w _ = W0
  have d0 : Blk W0 w.heap.size 73 #[.pointer (some ⟨g, 0, none⟩)] := by rw [← hW0]; exact Blk.new _ _ _
  have e0 : Below w.heap.size w W0 := by rw [← hW0]; exact (Below.refl _ w).alloc (Nat.le_refl _) _
  go_ret
  exact ⟨w.heap.size, rfl, Nat.le_refl _, d0.lt, d0.cell 0, e0⟩
end Go.Proofs.YtbldpojkpmafpaaGreatDoor

/- Package bus: the function that taps() gives: what it does for every loop body. -/
namespace Go.Proofs.YtbldpojkpmafpaaGreatDoor
open Go.RowKit Go.Shelf
attribute [local go_sem] Oper.semAt_some

def tapFrom (Fp : Nat → Int) : Nat → List (List Int) → List (Nat × Int)
  | _, [] => []
  | i, c :: r => (c.map fun x => (i, Fp x.toNat)) ++ tapFrom Fp (i + 1) r
def cntTo : List (List Int) → Nat → Nat
  | [], _ => 0
  | _ :: _, 0 => 0
  | c :: r, k + 1 => c.length + cntTo r k
theorem cntTo_zero : ∀ (ls : List (List Int)), cntTo ls 0 = 0
  | [] => rfl
  | _ :: _ => rfl
theorem tap_len (Fp : Nat → Int) : ∀ (ls : List (List Int)) (i : Nat), (tapFrom Fp i ls).length = cntTo ls ls.length
  | [], _ => rfl
  | c :: r, i => by
    unfold tapFrom
    rw [List.length_append, List.length_map, tap_len Fp r]
    rfl
theorem cnt_next : ∀ (ls : List (List Int)) (k : Nat), k < ls.length → cntTo ls (k + 1) = cntTo ls k + (ls.getD k []).length
  | [], k, h => by simp at h
  | c :: r, 0, _ => by simp [cntTo, cntTo_zero]
  | c :: r, k + 1, h => by
    have := cnt_next r k (by simpa using h)
    show c.length + cntTo r (k + 1) = c.length + cntTo r k + _
    rw [this]; simp; omega
theorem tap_at (Fp : Nat → Int) : ∀ (ls : List (List Int)) (i k j : Nat), k < ls.length → j < (ls.getD k []).length → (tapFrom Fp i ls).getD (cntTo ls k + j) (0, 0) = (i + k, Fp ((ls.getD k []).getD j 0).toNat)
  | [], i, k, j, h, _ => by simp at h
  | c :: r, i, 0, j, _, hj => by
    have hj : j < c.length := by simpa using hj
    unfold tapFrom
    rw [cntTo_zero, Nat.zero_add, List.getD_eq_getElem?_getD, List.getElem?_append_left (by simpa using hj)]
    simp [List.getElem?_eq_getElem hj]
  | c :: r, i, k + 1, j, h, hj => by
    have ih := tap_at Fp r (i + 1) k j (by simpa using h) (by simpa using hj)
    unfold tapFrom
    have e : cntTo (c :: r) (k + 1) + j = (c.map fun x => (i, Fp x.toNat)).length + (cntTo r k + j) := by simp [cntTo]; omega
    rw [e, List.getD_eq_getElem?_getD, List.getElem?_append_right (Nat.le_add_right _ _), Nat.add_sub_cancel_left, ← List.getD_eq_getElem?_getD, ih]
    simp; omega
theorem range_prefix {a b : Nat} (h : a ≤ b) : List.range a <+: List.range b := by
  obtain ⟨d, rfl⟩ : ∃ d, b = a + d := ⟨b - a, by omega⟩
  rw [List.range_add]
  exact List.prefix_append _ _
theorem cnt_mono (ls : List (List Int)) : ∀ k, k ≤ ls.length → ∀ j, j ≤ k → cntTo ls j ≤ cntTo ls k
  | 0, _, j, hj => by obtain rfl : j = 0 := by omega
                      exact Nat.le_refl _
  | k + 1, hk, j, hj => by
    by_cases e : j = k + 1
    · subst e; exact Nat.le_refl _
    · have := cnt_mono ls k (by omega) j (by omega)
      rw [cnt_next ls k (by omega)]; omega
theorem AbidesFrom.new {β : Type} {B : Nat} {J : β → World → Prop} (h : AbidesFrom B J) {s : β} {W : World} (o : Obj) (hs : J s W) : J s (W.alloc o) :=
  h s W _ none hs (World.grownBy_alloc W o none) (fun r e => by cases e)

def KeepAt (n0 bx : Nat) (W W' : World) : Prop := Below n0 W W' ∧ W'.heap[bx]? = W.heap[bx]?
theorem KeepAt.refl (n0 bx : Nat) (W : World) : KeepAt n0 bx W W := ⟨Below.refl _ _, rfl⟩
theorem KeepAt.trans {n0 bx : Nat} {A B C : World} (h : KeepAt n0 bx A B) (h' : KeepAt n0 bx B C) : KeepAt n0 bx A C := ⟨h.1.trans h'.1, h'.2.trans h.2⟩
theorem KeepAt.new {n0 bx : Nat} {A B : World} (h : KeepAt n0 bx A B) (hn : n0 ≤ A.heap.size) (hb : bx < A.heap.size) (o : Obj) : KeepAt n0 bx A (B.alloc o) :=
  ⟨h.1.alloc (Nat.le_trans hn h.1.size) _, (Below.heap_alloc B o bx (Nat.lt_of_lt_of_le hb h.1.size)).trans h.2⟩

set_option maxRecDepth 100000 in
set_option maxHeartbeats 4000000 in
theorem taps1_in (F : Fence) (n : Nat) (hf : F.fn 133) (hro : F.round = none) (hn : 1 ≤ n) (lp bx n0 g : Nat) (A : Option Addr) (c : Nat) (E : Value) (Fp : Nat → Int) (l : List NetAt) (N : Nat) (J Jx : List Nat → World → Prop) (W : World)
    (hNN : N = cntTo (l.map NetAt.cols) l.length) (hJ : AbidesFrom W.heap.size J)
    (hY : ∀ pre (x : Nat) W1, J pre W1 → pre.length < N → YieldAt F (n - 1) Tryz.prog lp #[.int .i64 (((tapFrom Fp 0 (l.map NetAt.cols)).getD x (0, 0)).1 : Int), .int .i64 ((tapFrom Fp 0 (l.map NetAt.cols)).getD x (0, 0)).2] W1 fun e W' =>
      (e = .returned (.bool true) ∧ J (pre ++ [x]) W' ∧ KeepAt n0 bx W1 W') ∨ (e = .returned (.bool false) ∧ Jx (pre ++ [x]) W'))
    (hbx : W.cell? ⟨bx, 0, none⟩ = some (.pointer (some ⟨g, 0, none⟩))) (hbn : bx < W.heap.size) (hgn : g < n0) (hrow : RowAt W g (.slice A l.length c) Fp E) (hN : NetsIn W n0 A l) (hc97 : ∀ x ∈ l, ∀ c ∈ x.cols, 0 ≤ c ∧ c < 97) (hl : l.length ≤ 1000) (hn0 : n0 ≤ W.heap.size) (h0 : J [] W) :
    CallsIn F n Tryz.prog 133 #[.func (.yield lp) #[] #[], .pointer (some ⟨bx, 0, none⟩)] W fun e W' => (∃ v, e = .returned v) ∧ ((∃ ys, ys = List.range N ∧ J ys W') ∨ (∃ pre, pre <+: List.range N ∧ Jx pre W')) := by
  have HW := Lib.hid (⟨hrow, hN⟩ : RowAt W g (.slice A l.length c) Fp E ∧ NetsIn W n0 A l)
  have HC := Lib.hid hc97
  have HYY := Lib.hid hY
  have HJJ := Lib.hid hJ
  have HNN := Lib.hid hNN
  have x0 := hrow.nets
  clear hY hN hc97 hJ hNN
  refine callsIn_of_wp Tryz.func133 rfl hf ?_ hro
  simp only [Tryz.ntmps133, List.size_toArray, List.length_cons, List.length_nil, Nat.reduceAdd, Nat.reduceSub, Array.replicate_succ, Array.replicate_zero, List.push_toArray, List.append_toArray, List.nil_append, List.cons_append]
  gi_wp2
  gi_loopw [12] (fun i wr => ∃ k : Nat, k ≤ l.length ∧ i = .int .i64 k ∧ J (List.range (cntTo (l.map NetAt.cols) k)) wr ∧ KeepAt n0 bx W wr) (fun i _ => l.length - (intOf i).toNat)
  case atStart => exact ⟨0, Nat.zero_le _, rfl, by rw [cntTo_zero]; exact h0, KeepAt.refl _ _ _⟩
  case round =>
    obtain ⟨k, hk, rfl, hJs, eb⟩ := hrel
    have hsz := eb.1.size
    by_cases hlt : k < l.length
    · obtain ⟨b, off, x, rfl, hbB, hx, hc1, hc2, hrw, hfew, hix, hics⟩ := HW.out.2.net k hlt
      have hk1 := (eb.1.cell (p := ⟨b, off + k * 2, none⟩) (by show b < _; omega)).trans hc1
      have hk2 := (eb.1.cell (p := ⟨b, off + k * 2 + 1, none⟩) (by show b < _; omega)).trans hc2
      have HX := Lib.hid (show (l.map NetAt.cols).getD k [] = x.cols by rw [List.getD_eq_getElem?_getD, List.getElem?_map, hx]; rfl)
      have hin := HC.out x (List.mem_of_getElem? hx)
      clear hx hc1 hc2
      gi_wp2
      generalize hW1 : World.alloc wr _ = W1
      have hJ1 : J (List.range (cntTo (l.map NetAt.cols) k)) W1 := by rw [← hW1]; exact AbidesFrom.new HJJ.out _ hJs
      have eb1 : KeepAt n0 bx W W1 := by rw [← hW1]; exact eb.new hn0 hbn _
      have hsz1 := eb1.1.size
      have hrw1 := Lib.hid hrw
      clear hW1 hJs eb hk1 hk2 hrw
      generalize x.cols = cs at *
      generalize x.loc = loc at *
      generalize x.cap = cap at *
      gi_loopw [20] (fun i wz => ∃ j : Nat, j ≤ cs.length ∧ i = .int .i64 j ∧ J (List.range (cntTo (l.map NetAt.cols) k + j)) wz ∧ KeepAt n0 bx W wz) (fun i _ => cs.length - (intOf i).toNat)
      case atStart => exact ⟨0, Nat.zero_le _, rfl, hJ1, eb1⟩
      case round =>
        obtain ⟨j, hj, rfl, hJz, ez⟩ := hrel
        by_cases hlj : j < cs.length
        · obtain ⟨b2, off2, y, rfl, hbB2, hy, hcy⟩ := hrw1.out.int j hlj
          have hcyw := (ez.1.cell (p := ⟨b2, off2 + j, none⟩) (by show b2 < _; omega)).trans hcy
          obtain ⟨hy0, hy1⟩ := hin y (List.mem_of_getElem? hy)
          obtain ⟨Y, rfl⟩ : ∃ Y : Nat, y = (Y : Int) := ⟨y.toNat, by omega⟩
          have hY : Y < 97 := by omega
          have hY2 : (Y : Int) < 97 := by omega
          have hrowz := HW.out.1.block (ez.1.block g hgn)
          have m1 := hrowz.pos Y hY
          have hbz := (World.cell?_of_block (a := ⟨bx, 0, none⟩) ez.2).trans hbx
          have hcn : cntTo (l.map NetAt.cols) k + j < N := by
            rw [HNN.out]
            have h1 := cnt_mono (l.map NetAt.cols) l.length (by simp) (k + 1) hlt
            rw [cnt_next _ k (by rw [List.length_map]; exact hlt), HX.out] at h1
            omega
          obtain ⟨fn, tmps, assign, body, hy', hR⟩ := HYY.out _ (cntTo (l.map NetAt.cols) k + j) wr hJz (by rw [List.length_range]; exact hcn)
          have ht := tap_at Fp (l.map NetAt.cols) 0 k j (by rw [List.length_map]; exact hlt) (by rw [HX.out]; exact hlj)
          rw [HX.out, List.getD_eq_getElem?_getD (l := cs), hy, Option.getD_some, Int.toNat_natCast, Nat.zero_add] at ht
          rw [ht] at hy'
          dsimp only at hy'
          have e1 : List.range (cntTo (l.map NetAt.cols) k + j) ++ [cntTo (l.map NetAt.cols) k + j] = List.range (cntTo (l.map NetAt.cols) k + (j + 1)) := by rw [← Nat.add_assoc, List.range_succ]
          rw [e1] at hR
          generalize Fp Y = fy at *
          clear ht hy hcy hrowz HYY hY
          gi_wp2
          refine hR.mono ?_
          rintro e W3 (⟨rfl, hJ3, hk3⟩ | ⟨rfl, hJx3⟩)
          · gi_wp2
            go_roundw
            case rel => exact ⟨j + 1, by omega, by go_num, hJ3, ez.trans hk3⟩
            case measure => simp [intOf]; omega
          · gi_wp2
            refine bodyPost_ret (results_none rfl _ _ _) rfl ?_
            exact ⟨⟨_, rfl⟩, .inr ⟨_, range_prefix (by omega), hJx3⟩⟩
        · obtain rfl : j = cs.length := by omega
          gi_wp2
          go_roundw
          case rel => exact ⟨k + 1, by omega, by go_num, by rw [cnt_next _ k (by rw [List.length_map]; exact hlt), HX.out]; exact hJz, ez⟩
          case measure => simp [intOf]; omega
    · obtain rfl : k = l.length := by omega
      gi_wp2
      go_end0
      exact ⟨⟨_, rfl⟩, .inl ⟨_, by rw [HNN.out], hJs⟩⟩
theorem taps_stops (F : Fence) (n : Nat) (hf : F.fn 133) (hro : F.round = none) (hn : 1 ≤ n) (bx n0 g : Nat) (A : Option Addr) (c : Nat) (E : Value) (Fp : Nat → Int) (l : List NetAt) (w : World)
    (hbx : w.cell? ⟨bx, 0, none⟩ = some (.pointer (some ⟨g, 0, none⟩))) (hbn : bx < w.heap.size) (hgn : g < n0) (hrow : RowAt w g (.slice A l.length c) Fp E) (hN : NetsIn w n0 A l) (hc97 : ∀ x ∈ l, ∀ c ∈ x.cols, 0 ≤ c ∧ c < 97) (hl : l.length ≤ 1000) (hn0 : n0 ≤ w.heap.size) :
    SeqStopsK F n Tryz.prog 133 #[.pointer (some ⟨bx, 0, none⟩)] (fun x : Nat => #[.int .i64 (((tapFrom Fp 0 (l.map NetAt.cols)).getD x (0, 0)).1 : Int), .int .i64 ((tapFrom Fp 0 (l.map NetAt.cols)).getD x (0, 0)).2]) (KeepAt n0 bx)
      (fun ys => ys = List.range (tapFrom Fp 0 (l.map NetAt.cols)).length) (fun pre => pre <+: List.range (tapFrom Fp 0 (l.map NetAt.cols)).length) (tapFrom Fp 0 (l.map NetAt.cols)).length w := fun lp J Jx W hW hJ _ hY h0 =>
  taps1_in F n hf hro hn lp bx n0 g A c E Fp l _ J Jx W (by rw [tap_len, List.length_map]) hJ hY ((hW.cell (p := ⟨bx, 0, none⟩) hbn).trans hbx) (Nat.lt_of_lt_of_le hbn hW.size) hgn (hrow.below hW) (hN.below hW hn0) hc97 hl (Nat.le_trans hn0 hW.size) h0
end Go.Proofs.YtbldpojkpmafpaaGreatDoor
