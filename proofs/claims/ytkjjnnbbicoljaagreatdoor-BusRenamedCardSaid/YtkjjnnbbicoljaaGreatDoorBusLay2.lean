/- Package bus: whether nets meet; tracks that are no numbers of tracks. -/
import Derived.Test.YtkjjnnbbicoljaaGreatDoorBusTracks
namespace Go.Proofs.YtkjjnnbbicoljaaGreatDoor
open Go.RowKit

def meetB (xs : List (Int × Int)) (a b : Nat) : Bool := decide ((xs.getD a (0, 0)).1 ≤ (xs.getD b (0, 0)).2) && decide ((xs.getD b (0, 0)).1 ≤ (xs.getD a (0, 0)).2)
set_option maxHeartbeats 4000000 in
set_option maxRecDepth 100000 in
theorem meet_any (g : Nat) (V : Value) (F : Nat → Int) (A : Option Addr) (c B i j : Nat) (xs : List (Int × Int)) (w : World) (h : RowAt w g V F (.slice A xs.length c)) (hr : Row w B A (xcells xs)) (hB : B ≤ w.heap.size) (hi : i < xs.length) (hj : j < xs.length) :
    Calls Tryz.prog 62 #[.pointer (some ⟨g, 0, none⟩), .int .i64 (i : Int), .int .i64 (j : Int)] w fun e w' => e = .returned (.bool (meetB xs i j)) ∧ Below w.heap.size w w' := by
  obtain ⟨b, off, x, y, hA, hbB, hx, hc1, hc2⟩ := hr.extent i hi
  obtain ⟨b', off', x', y', hA', _, hx', hc1', hc2'⟩ := hr.extent j hj
  subst hA
  injection hA' with hA'; injection hA' with h1 h2; subst h1; subst h2
  have e : meetB xs i j = (decide (x ≤ y') && decide (x' ≤ y)) := by unfold meetB; simp only [List.getD_eq_getElem?_getD, hx, hx', Option.getD_some]
  rw [e]
  have x98 := h.ext
  have hii : (i : Int) < (xs.length : Int) := by omega
  have hjj : (j : Int) < (xs.length : Int) := by omega
  have hbl : b < w.heap.size := by omega
  have hgl := h.lt
  clear hx hx' e h hr
  go_enter Tryz.func62, Tryz.ntmps62
  go_wp2_with fail
  go_region
  all_goals
    by_cases hxy : x ≤ y'
    · have hd : decide (x ≤ y') = true := decide_eq_true hxy
      go_wp2_with fail
      go_ret
      exact ⟨by first | rfl | (rw [hd]; rfl), (by repeat (first | with_reducible exact Below.refl _ _ | with_reducible assumption | with_reducible refine Below.setCell ?_ (by first | omega | (simp; done) | (simp; omega)) _ | with_reducible refine below_drewN ?_ _ | with_reducible refine Below.drew ?_ | with_reducible refine Below.alloc ?_ (by first | omega | (simp; done) | (simp; omega)) _ | with_reducible refine below_after ?_ (by assumption) (by first | omega | (simp; done) | (simp; omega))))⟩
    · have hd : decide (x ≤ y') = false := decide_eq_false hxy
      go_wp2_with fail
      go_ret
      exact ⟨by first | rfl | (rw [hd]; rfl), (by repeat (first | with_reducible exact Below.refl _ _ | with_reducible assumption | with_reducible refine Below.setCell ?_ (by first | omega | (simp; done) | (simp; omega)) _ | with_reducible refine below_drewN ?_ _ | with_reducible refine Below.drew ?_ | with_reducible refine Below.alloc ?_ (by first | omega | (simp; done) | (simp; omega)) _ | with_reducible refine below_after ?_ (by assumption) (by first | omega | (simp; done) | (simp; omega))))⟩

/-- is there a track that is no number of a track? -/
def farB (ts : List Int) : Bool := ts.any fun t => decide (t < 0) || decide (64 ≤ t)
theorem farTrack_any (t : Int) (w : World) : Calls Tryz.prog 59 #[.int .i64 t] w fun e w' => e = .returned (.bool (decide (t < 0) || decide (64 ≤ t))) ∧ w = w' := by
  by_cases h : t < 0
  · have hd : decide (t < 0) = true := decide_eq_true h
    go_enter Tryz.func59, Tryz.ntmps59
    go_wp2_with fail
    go_ret
    exact ⟨by first | rfl | (rw [hd]; rfl), rfl⟩
  · have hd : decide (t < 0) = false := decide_eq_false h
    go_enter Tryz.func59, Tryz.ntmps59
    go_wp2_with fail
    go_ret
    exact ⟨by first | rfl | (rw [hd]; rfl), rfl⟩
def farAt (k : Nat) : List Int → Int
  | [] => -1
  | t :: r => if (decide (t < 0) || decide (64 ≤ t)) = true then (k : Int) else farAt (k + 1) r
theorem farAt_sign : ∀ (ts : List Int) (k : Nat), decide (0 ≤ farAt k ts) = farB ts
  | [], k => by simp [farAt, farB]
  | t :: r, k => by
      have := farAt_sign r (k + 1)
      unfold farAt
      unfold farB at this ⊢
      rw [List.any_cons]
      split
      · rename_i h; rw [h]; simp
      · rename_i h; rw [this]; simp only [Bool.not_eq_true] at h; rw [h]; rfl
set_option maxRecDepth 100000 in
theorem farIndex_any (A : Option Addr) (c B : Nat) (es : List Int) (w : World) (hl : es.length ≤ 1000000) (h : Row w B A (es.map (Value.int .i64))) :
    Calls Tryz.prog 104 #[.slice A es.length c, .func (.func 59) #[] #[]] w fun e w' => e = .returned (.int .i64 (farAt 0 es)) ∧ w = w' := by
  have H := Lib.hid h
  clear h
  obtain ⟨r, hr⟩ : ∃ r, farAt 0 es = r := ⟨_, rfl⟩
  rw [hr]
  have HR := Lib.hid hr
  clear hr
  go_enter Tryz.func104, Tryz.ntmps104
  go_wp2_with fail
  go_loop [8] (fun i => ∃ k : Nat, k ≤ es.length ∧ i = .int .i64 k ∧ farAt k (es.drop k) = r) (fun i => es.length - (intOf i).toNat)
  case atStart => exact ⟨0, Nat.zero_le _, rfl, HR.out⟩
  case round =>
    obtain ⟨k, hk, rfl, hpre⟩ := hrel
    have HP := Lib.hid hpre
    clear hpre
    by_cases hlt : k < es.length
    · obtain ⟨b, off, x, rfl, hbB, hx, hc⟩ := H.out.int k hlt
      have hd : es.drop k = x :: es.drop (k + 1) := by
        rw [List.drop_eq_getElem_cons hlt]
        rw [List.getElem?_eq_getElem hlt] at hx
        rw [Option.some.inj hx]
      have hp := HP.out
      rw [hd] at hp
      unfold farAt at hp
      have he := farTrack_any x w
      clear hx hd
      generalize (decide (x < 0) || decide (64 ≤ x)) = bb at *
      have HE := Lib.hid he
      clear he HP
      cases bb
      · rw [if_neg (by decide)] at hp
        have HN := Lib.hid hp
        clear hp
        go_wp2_with (refine HE.out.mono ?_; rintro e w' ⟨rfl, rfl⟩)
        go_round
        case rel => exact ⟨k + 1, by omega, by go_num, HN.out⟩
        case measure => simp [intOf]; omega
      · rw [if_pos rfl] at hp
        have HN := Lib.hid hp
        clear hp
        go_wp2_with (refine HE.out.mono ?_; rintro e w' ⟨rfl, rfl⟩)
        go_ret
        exact ⟨ret_i64 HN.out, rfl⟩
    · obtain rfl : k = es.length := by omega
      have HN := Lib.hid (show (-1 : Int) = r by rw [← HP.out, List.drop_length]; rfl)
      go_wp2_with fail
      go_ret
      exact ⟨ret_i64 HN.out, rfl⟩
set_option maxRecDepth 100000 in
theorem farTracks_any (A : Option Addr) (c B : Nat) (es : List Int) (w : World) (hl : es.length ≤ 1000000) (h : Row w B A (es.map (Value.int .i64))) :
    Calls Tryz.prog 58 #[.slice A es.length c, .func (.func 59) #[] #[]] w fun e w' => e = .returned (.bool (farB es)) ∧ w = w' := by
  have H := Lib.hid (farIndex_any A c B es w hl h)
  have hs := farAt_sign es 0
  generalize farAt 0 es = f at *
  clear h
  go_enter Tryz.func58, Tryz.ntmps58
  go_wp2_with (refine H.out.mono ?_; rintro e w' ⟨rfl, rfl⟩)
  go_ret
  exact ⟨by rw [← hs]; rfl, rfl⟩
end Go.Proofs.YtkjjnnbbicoljaaGreatDoor

/- Package bus: the check of a layout. -/
namespace Go.Proofs.YtkjjnnbbicoljaaGreatDoor
open Go.RowKit

def confRow (xs : List (Int × Int)) (ts : List Int) (i : Nat) : Nat → Bool
  | 0 => false
  | k + 1 => confRow xs ts i k || (ts.getD i 0 == ts.getD k 0 && meetB xs i k)
def conf (xs : List (Int × Int)) (ts : List Int) : Nat → Bool
  | 0 => false
  | i + 1 => conf xs ts i || confRow xs ts i i
theorem confRow_up (xs : List (Int × Int)) (ts : List Int) (i : Nat) : ∀ (k m : Nat), k ≤ m → confRow xs ts i k = true → confRow xs ts i m = true := by
  intro k m h hk
  induction m with
  | zero => rw [show k = 0 by omega] at hk; exact hk
  | succ m ih =>
    by_cases he : k = m + 1
    · rw [← he]; exact hk
    · unfold confRow; rw [ih (by omega)]; rfl
theorem conf_up (xs : List (Int × Int)) (ts : List Int) : ∀ (k m : Nat), k ≤ m → conf xs ts k = true → conf xs ts m = true := by
  intro k m h hk
  induction m with
  | zero => rw [show k = 0 by omega] at hk; exact hk
  | succ m ih =>
    by_cases he : k = m + 1
    · rw [← he]; exact hk
    · unfold conf; rw [ih (by omega)]; rfl
/-- the error of a layout -/
def layErr (l : List Bus.Net) (n : Int) (order ts : List Int) : Int :=
  if Bus.bothErr l n order ≠ 0 then Bus.bothErr l n order else if ts.length ≠ l.length then 2 else if farB ts = true then 3 else if conf (Bus.exts (Bus.atUp order order.length) l) ts l.length = true then 30 else 0

set_option maxHeartbeats 8000000 in
set_option maxRecDepth 100000 in
theorem CheckLayout_any (A A2 A3 : Option Addr) (c c2 c3 B : Nat) (l : List NetAt) (order ts : List Int) (n : Int) (w : World) (h : NetsIn w B A l) (h2 : Row w B A2 (order.map (Value.int .i64))) (h3 : Row w B A3 (ts.map (Value.int .i64))) (hi : ∀ c ∈ order, I64 c) (hB : B ≤ w.heap.size) (hl : l.length ≤ 140737488355328) (hl2 : order.length ≤ 1000000) (hl3 : ts.length ≤ 1000000) :
    Calls Tryz.prog 23 #[.slice A l.length c, .int .i64 n, .agg #[.slice A2 order.length c2, .slice A3 ts.length c3]] w fun e w' => e = .returned (.int .i64 (layErr (l.map NetAt.net) n order ts)) ∧ Below w.heap.size w w' := by
  have HC := Lib.hid (fun w' (hb : Below w.heap.size w w') => checked_any A A2 c c2 B l order n w' (h.below hb hB) (h2.below hb hB) hi (by have := hb.size; omega) hl hl2)
  have HF := Lib.hid (fun w' (hb : Below w.heap.size w w') => farTracks_any A3 c3 B ts w' hl3 (h3.below hb hB))
  have H3 := Lib.hid h3
  obtain ⟨E, hE⟩ : ∃ E, Bus.bothErr (l.map NetAt.net) n order = E := ⟨_, rfl⟩
  obtain ⟨r, hr⟩ : ∃ r, layErr (l.map NetAt.net) n order ts = r := ⟨_, rfl⟩
  rw [hr]
  have hr2 := hr
  unfold layErr at hr2
  rw [hE, List.length_map] at hr2
  rw [hE] at HC
  have hstand := fun (hz : E = 0) w' (hb : Below w.heap.size w w') => stand_any A A2 c c2 B l order n w' (h.below hb hB) (h2.below hb hB) (by have := hb.size; omega) (both_zero (by rw [hE]; exact hz)).2 (both_zero (by rw [hE]; exact hz)).1
  have hl64 : E = 0 → l.length ≤ 64 := fun hz => by
    have := (Bus.netsErr_zero (both_zero (show Bus.bothErr (l.map NetAt.net) n order = 0 by rw [hE]; exact hz)).1).2.2.1
    rwa [List.length_map] at this
  clear h h2 h3 hi hr hE
  by_cases h0 : E = 0
  · subst h0
    rw [if_neg (by decide)] at hr2
    have HST := Lib.hid (hstand rfl)
    have h64 := hl64 rfl
    clear hstand hl64
    by_cases htl : ts.length = l.length
    · rw [if_neg (by omega)] at hr2
      by_cases hfar : farB ts = true
      · rw [if_pos hfar] at hr2
        have HR := Lib.hid hr2
        have hln : ((ts.length : Int) != (l.length : Int)) = false := by simp; omega
        rw [hfar] at HF
        have HTL := Lib.hid htl
        clear hr2 hfar htl
        go_enter Tryz.func23, Tryz.ntmps23
        go_wp2_with fail
        generalize hW0 : World.alloc w _ = W0
        obtain ⟨G, hG⟩ : ∃ G, w.heap.size = G := ⟨_, rfl⟩
        have d0 : Blk W0 G 41 #[.slice A2 order.length c2, .slice A3 ts.length c3] := by rw [← hW0, ← hG]; exact Blk.new _ _ _
        have e0 : Below w.heap.size w W0 := by rw [← hW0]; exact (Below.refl _ w).alloc (Nat.le_refl _) _
        try rw [hG]
        clear hW0
        refine (HC.out _ e0).mono ?_
        rintro e w1 ⟨rfl, hb1⟩
        have e1 := below_after e0 hb1 (Nat.le_refl _)
        have d1 := keep_blk d0 hb1
        have p0 : w1.cell? ⟨G, 0, none⟩ = some (.slice A2 order.length c2) := d1.cell 0
        have p1 : w1.cell? ⟨G, 1, none⟩ = some (.slice A3 ts.length c3) := d1.cell 1
        have hGl := d1.lt
        have HF1 := Lib.hid (HF.out _ e1)
        clear hb1 e0 d0 HC HF
        go_wp2_with (first
          | (go_at_call 58; refine HF1.out.mono ?_; rintro e w2 ⟨rfl, rfl⟩)
          | (go_at_call 61; refine (when_any _ _ _).mono ?_; rintro e w2 ⟨rfl, rfl⟩)
          | (go_at_call 60; refine (first_hit22 3 w1 _).mono ?_; rintro e w2 ⟨rfl, rfl⟩))
        all_goals (go_ret; exact ⟨ret_i64 HR.out, by first | exact (by repeat (first | with_reducible exact Below.refl _ _ | with_reducible assumption | with_reducible refine Below.setCell ?_ (by first | omega | (simp; done) | (simp; omega)) _ | with_reducible refine below_drewN ?_ _ | with_reducible refine Below.drew ?_ | with_reducible refine Below.alloc ?_ (by first | omega | (simp; done) | (simp; omega)) _ | with_reducible refine below_after ?_ (by assumption) (by first | omega | (simp; done) | (simp; omega)))) | (rw [← hG]; exact (by repeat (first | with_reducible exact Below.refl _ _ | with_reducible assumption | with_reducible refine Below.setCell ?_ (by first | omega | (simp; done) | (simp; omega)) _ | with_reducible refine below_drewN ?_ _ | with_reducible refine Below.drew ?_ | with_reducible refine Below.alloc ?_ (by first | omega | (simp; done) | (simp; omega)) _ | with_reducible refine below_after ?_ (by assumption) (by first | omega | (simp; done) | (simp; omega)))))⟩)
      · have hfar' : farB ts = false := by simpa using hfar
        rw [if_neg hfar] at hr2
        rw [hfar'] at HF
        have HR := Lib.hid hr2
        have hln : ((ts.length : Int) != (l.length : Int)) = false := by simp; omega
        have HTL := Lib.hid htl
        clear hr2 hfar hfar' htl
        go_enter Tryz.func23, Tryz.ntmps23
        go_wp2_with fail
        generalize hW0 : World.alloc w _ = W0
        obtain ⟨G, hG⟩ : ∃ G, w.heap.size = G := ⟨_, rfl⟩
        have d0 : Blk W0 G 41 #[.slice A2 order.length c2, .slice A3 ts.length c3] := by rw [← hW0, ← hG]; exact Blk.new _ _ _
        have e0 : Below w.heap.size w W0 := by rw [← hW0]; exact (Below.refl _ w).alloc (Nat.le_refl _) _
        try rw [hG]
        clear hW0
        refine (HC.out _ e0).mono ?_
        rintro e w1 ⟨rfl, hb1⟩
        have e1 := below_after e0 hb1 (Nat.le_refl _)
        have d1 := keep_blk d0 hb1
        have p0 : w1.cell? ⟨G, 0, none⟩ = some (.slice A2 order.length c2) := d1.cell 0
        have p1 : w1.cell? ⟨G, 1, none⟩ = some (.slice A3 ts.length c3) := d1.cell 1
        have hGl := d1.lt
        have HF1 := Lib.hid (HF.out _ e1)
        clear hb1 e0 d0 HC HF
        go_wp2_with (first
          | (go_at_call 58; refine HF1.out.mono ?_; rintro e w2 ⟨rfl, rfl⟩)
          | (go_at_call 61; refine (when_any _ _ _).mono ?_; rintro e w2 ⟨rfl, rfl⟩)
          | (go_at_call 60; refine (first_hit22 0 w1 _).mono ?_; rintro e w2 ⟨rfl, rfl⟩))
        have e1a := e1.alloc e1.size (.cells #[.int .i64 0, .int .i64 0] 26)
        have d1a := d1.alloc (.cells #[.int .i64 0, .int .i64 0] 26)
        refine (HST.out _ e1a).mono ?_
        rintro e w2 ⟨g, v, rfl, hg, hrow, hown, hb2⟩
        have e2 := below_after e1a hb2 (Nat.le_refl _)
        have d2 := keep_blk d1a hb2
        have hlen := exts_len (Bus.atUp order order.length) l
        obtain ⟨xs, hxs⟩ : ∃ xs, Bus.exts (Bus.atUp order order.length) (l.map NetAt.net) = xs := ⟨_, rfl⟩
        rw [hxs] at hown hlen
        have HRX := HR.out
        rw [hxs] at HRX
        obtain ⟨Av, cv, rfl, _, hr⟩ := own_cap hown
        rw [← hlen] at hrow
        have HMT := Lib.hid (fun (i j : Nat) w' (hb : Below w2.heap.size w2 w') (hi : i < xs.length) (hj : j < xs.length) => meet_any g _ _ Av cv w2.heap.size i j xs w' (hrow.below hb) (hr.below hb (Nat.le_refl _)) hb.size hi hj)
        have q0 : w2.cell? ⟨G, 0, none⟩ = some (.slice A2 order.length c2) := d2.cell 0
        have q1 : w2.cell? ⟨G, 1, none⟩ = some (.slice A3 ts.length c3) := d2.cell 1
        have hG2 := d2.lt
        have s2 := e2.size
        obtain ⟨L, hL⟩ : ∃ L, l.length = L := ⟨_, rfl⟩
        rw [hL] at HRX
        have HLX := Lib.hid (show xs.length = L by rw [hlen, hL])
        have HRR := Lib.hid HRX
        have HTS := Lib.hid (show ts.length = L by rw [HTL.out, hL])
        clear hown hrow hr hb2 e1a d1a e1 d1 p0 p1 HF1 HST HR HRX d2 hlen hxs HTL
        rw [hL]
        go_wp2_with fail
        go_loopw [44] (fun i wr => ∃ k : Nat, k ≤ L ∧ i = .int .i64 k ∧ conf xs ts k = false ∧ Below w2.heap.size w2 wr) (fun i _ => L - (intOf i).toNat)
        case atStart => exact ⟨0, Nat.zero_le _, rfl, rfl, Below.refl _ _⟩
        case round =>
          obtain ⟨k, hk, rfl, hcf, eb⟩ := hrel
          have hsz := eb.size
          by_cases hlt : k < L
          · obtain ⟨W, hW⟩ : ∃ W, wr = W := ⟨_, rfl⟩
            rw [hW] at eb hsz ⊢
            clear hW
            have HCF := Lib.hid hcf
            clear hcf
            go_wp2_with fail
            go_loopw [48] (fun i wz => ∃ j : Nat, j ≤ k ∧ i = .int .i64 j ∧ confRow xs ts k j = false ∧ Below W.heap.size W wz) (fun i _ => k - (intOf i).toNat)
            case atStart => exact ⟨0, Nat.zero_le _, rfl, rfl, Below.refl _ _⟩
            case round =>
              obtain ⟨j, hj, rfl, hcr, ez⟩ := hrel
              have hszz := ez.size
              have ebz := below_after eb ez (Nat.le_refl _)
              have e3 := below_after e2 ebz (Nat.le_refl _)
              have hszw := e3.size
              by_cases hlj : j < k
              · obtain ⟨b, off, x, hA3, hbB, hx, hcx⟩ := H3.out.int k (by rw [HTS.out]; omega)
                obtain ⟨b', off', y, hA3', _, hy, hcy⟩ := H3.out.int j (by rw [HTS.out]; omega)
                subst hA3
                injection hA3' with hA3'; injection hA3' with h1 h2; subst h1; subst h2
                have hcx2 : wr.drew.cell? ⟨b, off + k, none⟩ = some (.int .i64 x) := (e3.cell (p := ⟨b, off + k, none⟩) (by show b < _; omega)).trans hcx
                have hcy2 : wr.drew.cell? ⟨b, off + j, none⟩ = some (.int .i64 y) := (e3.cell (p := ⟨b, off + j, none⟩) (by show b < _; omega)).trans hcy
                have q1d : wr.drew.cell? ⟨G, 1, none⟩ = some (.slice (some ⟨b, off, none⟩) ts.length c3) := (ebz.cell (p := ⟨G, 1, none⟩) hG2).trans q1
                have hcx3 : wr.cell? ⟨b, off + k, none⟩ = some (.int .i64 x) := hcx2
                have hcy3 : wr.cell? ⟨b, off + j, none⟩ = some (.int .i64 y) := hcy2
                have q1e : wr.cell? ⟨G, 1, none⟩ = some (.slice (some ⟨b, off, none⟩) ts.length c3) := q1d
                have HST2 := Lib.hid (show confRow xs ts k (j + 1) = (confRow xs ts k j || (ts.getD k 0 == ts.getD j 0 && meetB xs k j)) from rfl)
                have gx : ts.getD k 0 = x := by rw [List.getD_eq_getElem?_getD, hx]; rfl
                have gy : ts.getD j 0 = y := by rw [List.getD_eq_getElem?_getD, hy]; rfl
                rw [hcr, gx, gy, Bool.false_or] at HST2
                have hkt : (k : Int) < (ts.length : Int) := by rw [HTS.out]; omega
                have hjt : (j : Int) < (ts.length : Int) := by rw [HTS.out]; omega
                clear hx hy hcx hcy gx gy
                by_cases hxy : x = y
                · have hbe : (x == y) = true := by rw [beq_iff_eq]; exact hxy
                  rw [hbe, Bool.true_and] at HST2
                  go_wp2_with fail
                  go_still_tail 15, (by kernel_rfl)
                  have ed := e3.drew
                  have ebd := ebz.drew
                  have ezd := ez.drew
                  change wpList _ _ _ _ _ wr.drew
                  generalize wr.drew = W5 at hcx2 hcy2 q1d ed ebd ezd ⊢
                  clear hcx3 hcy3 q1e e3 ebz
                  go_wp2_with (first
                    | (go_at_call 62; refine (HMT.out k j _ ebd (by rw [HLX.out]; omega) (by rw [HLX.out]; omega)).mono ?_; rintro e w6 ⟨rfl, hb6⟩))
                  · rename_i hmt
                    have e6 := below_after ed hb6 (Nat.le_refl _)
                    have hc1 : conf xs ts L = true := conf_up xs ts (k + 1) L (by omega) (by
                      show (conf xs ts k || confRow xs ts k k) = true
                      rw [confRow_up xs ts k (j + 1) k (by omega) (by rw [HST2.out]; exact hmt)]
                      exact Bool.or_true _)
                    have hq := HRR.out
                    rw [if_pos hc1] at hq
                    have HQ := Lib.hid hq
                    clear hq hc1
                    go_ret
                    exact ⟨ret_i64 HQ.out, by first | exact e6 | (rw [← hG]; exact e6)⟩
                  · rename_i hmt
                    have e6 := below_after ezd hb6 (Nat.le_refl _)
                    exact ⟨⟨j + 1, by omega, by go_num, HST2.out.trans hmt, e6⟩, by simp [intOf]; omega⟩
                · have hbe : (x == y) = false := by rw [beq_eq_false_iff_ne]; exact hxy
                  rw [hbe, Bool.false_and] at HST2
                  clear hcx2 hcy2 q1d
                  go_wp2_with fail
                  go_quiet (fail)
                  go_wp2_with fail
                  go_roundw
                  case rel => exact ⟨j + 1, by omega, by go_num, HST2.out, (by repeat (first | with_reducible exact Below.refl _ _ | with_reducible assumption | with_reducible refine Below.setCell ?_ (by first | omega | (simp; done) | (simp; omega)) _ | with_reducible refine below_drewN ?_ _ | with_reducible refine Below.drew ?_ | with_reducible refine Below.alloc ?_ (by first | omega | (simp; done) | (simp; omega)) _ | with_reducible refine below_after ?_ (by assumption) (by first | omega | (simp; done) | (simp; omega))))⟩
                  case measure => simp [intOf]; omega
              · obtain rfl : k = j := by omega
                have HC2 := Lib.hid (show conf xs ts (k + 1) = false by unfold conf; rw [HCF.out, hcr]; rfl)
                go_wp2_with fail
                go_roundw
                case rel => exact ⟨k + 1, by omega, by go_num, HC2.out, ebz⟩
                case measure => simp [intOf]; omega
          · obtain rfl : k = L := by omega
            have hq := HRR.out
            rw [if_neg (by rw [hcf]; decide)] at hq
            have HQ := Lib.hid hq
            have e3 := below_after e2 eb (Nat.le_refl _)
            clear hq
            go_wp2_with fail
            go_ret
            exact ⟨ret_i64 HQ.out, by first | exact e3 | (rw [← hG]; exact e3)⟩
    · rw [if_pos htl] at hr2
      have HR := Lib.hid hr2
      have hln : ((ts.length : Int) != (l.length : Int)) = true := by rw [bne_iff_ne]; omega
      clear hr2
      go_enter Tryz.func23, Tryz.ntmps23
      go_wp2_with fail
      generalize hW0 : World.alloc w _ = W0
      obtain ⟨G, hG⟩ : ∃ G, w.heap.size = G := ⟨_, rfl⟩
      have d0 : Blk W0 G 41 #[.slice A2 order.length c2, .slice A3 ts.length c3] := by rw [← hW0, ← hG]; exact Blk.new _ _ _
      have e0 : Below w.heap.size w W0 := by rw [← hW0]; exact (Below.refl _ w).alloc (Nat.le_refl _) _
      try rw [hG]
      clear hW0
      refine (HC.out _ e0).mono ?_
      rintro e w1 ⟨rfl, hb1⟩
      have e1 := below_after e0 hb1 (Nat.le_refl _)
      have d1 := keep_blk d0 hb1
      have p0 : w1.cell? ⟨G, 0, none⟩ = some (.slice A2 order.length c2) := d1.cell 0
      have p1 : w1.cell? ⟨G, 1, none⟩ = some (.slice A3 ts.length c3) := d1.cell 1
      have hGl := d1.lt
      have HF1 := Lib.hid (HF.out _ e1)
      clear hb1 e0 d0 HC HF
      go_wp2_with (first
        | (go_at_call 58; refine HF1.out.mono ?_; rintro e w2 ⟨rfl, rfl⟩)
        | (go_at_call 61; refine (when_any _ _ _).mono ?_; rintro e w2 ⟨rfl, rfl⟩)
        | (go_at_call 60; refine (first_hit21 2 _ w1 _ (by decide)).mono ?_; rintro e w2 ⟨rfl, rfl⟩))
      all_goals (go_ret; exact ⟨ret_i64 HR.out, by first | exact (by repeat (first | with_reducible exact Below.refl _ _ | with_reducible assumption | with_reducible refine Below.setCell ?_ (by first | omega | (simp; done) | (simp; omega)) _ | with_reducible refine below_drewN ?_ _ | with_reducible refine Below.drew ?_ | with_reducible refine Below.alloc ?_ (by first | omega | (simp; done) | (simp; omega)) _ | with_reducible refine below_after ?_ (by assumption) (by first | omega | (simp; done) | (simp; omega)))) | (rw [← hG]; exact (by repeat (first | with_reducible exact Below.refl _ _ | with_reducible assumption | with_reducible refine Below.setCell ?_ (by first | omega | (simp; done) | (simp; omega)) _ | with_reducible refine below_drewN ?_ _ | with_reducible refine Below.drew ?_ | with_reducible refine Below.alloc ?_ (by first | omega | (simp; done) | (simp; omega)) _ | with_reducible refine below_after ?_ (by assumption) (by first | omega | (simp; done) | (simp; omega)))))⟩)
  · rw [if_pos h0] at hr2
    have hne : (E != 0) = true := by rw [bne_iff_ne]; exact h0
    have HR := Lib.hid hr2
    clear hstand hl64 hr2 HF H3
    go_enter Tryz.func23, Tryz.ntmps23
    go_wp2_with fail
    generalize hW0 : World.alloc w _ = W0
    have e0 : Below w.heap.size w W0 := by rw [← hW0]; exact (Below.refl _ w).alloc (Nat.le_refl _) _
    clear hW0
    refine (HC.out _ e0).mono ?_
    rintro e w1 ⟨rfl, hb1⟩
    have e1 := below_after e0 hb1 (Nat.le_refl _)
    go_wp2_with fail
    go_ret
    exact ⟨ret_i64 HR.out, e1⟩
end Go.Proofs.YtkjjnnbbicoljaaGreatDoor
