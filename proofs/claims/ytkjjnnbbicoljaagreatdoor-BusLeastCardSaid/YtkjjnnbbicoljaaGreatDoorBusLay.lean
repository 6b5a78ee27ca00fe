/- Package bus: whether nets meet; tracks that are no numbers of tracks. -/
import Derived.Test.YtkjjnnbbicoljaaGreatDoorBusTracks
namespace Go.Proofs.YtkjjnnbbicoljaaGreatDoor
open Go.RowKit

def meetB (xs : List (Int × Int)) (a b : Nat) : Bool := decide ((xs.getD a (0, 0)).1 ≤ (xs.getD b (0, 0)).2) && decide ((xs.getD b (0, 0)).1 ≤ (xs.getD a (0, 0)).2)
set_option maxHeartbeats 4000000 in
set_option maxRecDepth 100000 in
theorem meet_any (g : Nat) (V : Value) (F : Nat → Int) (A : Option Addr) (c B i j : Nat) (xs : List (Int × Int)) (w : World) (h : RowAt w g V F (.slice A xs.length c)) (hr : Row w B A (xcells xs)) (hB : B ≤ w.heap.size) (hi : i < xs.length) (hj : j < xs.length) :
    Calls Tryz.prog 62 #[.pointer (some ⟨g, 0, none⟩), .int .i64 (i : Int), .int .i64 (j : Int)] w fun e w' => e = .returned (.bool (meetB xs i j)) ∧ Below w.heap.size w w' := by
  obtain ⟨b, off, x, y, hA, hbB, hx, hc1, hc2⟩ := hr.extent i hi
  obtain ⟨b', off', x', y', hA', _, hx', hc1', hc2'⟩ := hr.extent j hj
  subst hA
  injection hA' with hA'; injection hA' with h1 h2; subst h1; subst h2
  have e : meetB xs i j = (decide (x ≤ y') && decide (x' ≤ y)) := by unfold meetB; simp only [List.getD_eq_getElem?_getD, hx, hx', Option.getD_some]
  rw [e]
  have x98 := h.ext
  have hii : (i : Int) < (xs.length : Int) := by omega
  have hjj : (j : Int) < (xs.length : Int) := by omega
  have hbl : b < w.heap.size := by omega
  have hgl := h.lt
  clear hx hx' e h hr
  go_enter Tryz.func62, Tryz.ntmps62
  go_wp2_with fail
  go_region
  all_goals
    by_cases hxy : x ≤ y'
    · have hd : decide (x ≤ y') = true := decide_eq_true hxy
      go_wp2_with fail
      go_ret
      exact ⟨by first | rfl | (rw [hd]; rfl), (by repeat (first | with_reducible exact Below.refl _ _ | with_reducible assumption | with_reducible refine Below.setCell ?_ (by first | omega | (simp; done) | (simp; omega)) _ | with_reducible refine below_drewN ?_ _ | with_reducible refine Below.drew ?_ | with_reducible refine Below.alloc ?_ (by first | omega | (simp; done) | (simp; omega)) _ | with_reducible refine below_after ?_ (by assumption) (by first | omega | (simp; done) | (simp; omega))))⟩
    · have hd : decide (x ≤ y') = false := decide_eq_false hxy
      go_wp2_with fail
      go_ret
      exact ⟨by first | rfl | (rw [hd]; rfl), (by repeat (first | with_reducible exact Below.refl _ _ | with_reducible assumption | with_reducible refine Below.setCell ?_ (by first | omega | (simp; done) | (simp; omega)) _ | with_reducible refine below_drewN ?_ _ | with_reducible refine Below.drew ?_ | with_reducible refine Below.alloc ?_ (by first | omega | (simp; done) | (simp; omega)) _ | with_reducible refine below_after ?_ (by assumption) (by first | omega | (simp; done) | (simp; omega))))⟩

/-- is there a track that is no number of a track? -/
def farB (ts : List Int) : Bool := ts.any fun t => decide (t < 0) || decide (64 ≤ t)
theorem farTrack_any (t : Int) (w : World) : Calls Tryz.prog 59 #[.int .i64 t] w fun e w' => e = .returned (.bool (decide (t < 0) || decide (64 ≤ t))) ∧ w = w' := by
  by_cases h : t < 0
  · have hd : decide (t < 0) = true := decide_eq_true h
    go_enter Tryz.func59, Tryz.ntmps59
    go_wp2_with fail
    go_ret
    exact ⟨by first | rfl | (rw [hd]; rfl), rfl⟩
  · have hd : decide (t < 0) = false := decide_eq_false h
    go_enter Tryz.func59, Tryz.ntmps59
    go_wp2_with fail
    go_ret
    exact ⟨by first | rfl | (rw [hd]; rfl), rfl⟩
def farAt (k : Nat) : List Int → Int
  | [] => -1
  | t :: r => if (decide (t < 0) || decide (64 ≤ t)) = true then (k : Int) else farAt (k + 1) r
theorem farAt_sign : ∀ (ts : List Int) (k : Nat), decide (0 ≤ farAt k ts) = farB ts
  | [], k => by simp [farAt, farB]
  | t :: r, k => by
      have := farAt_sign r (k + 1)
      unfold farAt
      unfold farB at this ⊢
      rw [List.any_cons]
      split
      · rename_i h; rw [h]; simp
      · rename_i h; rw [this]; simp only [Bool.not_eq_true] at h; rw [h]; rfl
set_option maxRecDepth 100000 in
theorem farIndex_any (A : Option Addr) (c B : Nat) (es : List Int) (w : World) (hl : es.length ≤ 1000000) (h : Row w B A (es.map (Value.int .i64))) :
    Calls Tryz.prog 104 #[.slice A es.length c, .func (.func 59) #[] #[]] w fun e w' => e = .returned (.int .i64 (farAt 0 es)) ∧ w = w' := by
  have H := Lib.hid h
  clear h
  obtain ⟨r, hr⟩ : ∃ r, farAt 0 es = r := ⟨_, rfl⟩
  rw [hr]
  have HR := Lib.hid hr
  clear hr
  go_enter Tryz.func104, Tryz.ntmps104
  go_wp2_with fail
  go_loop [8] (fun i => ∃ k : Nat, k ≤ es.length ∧ i = .int .i64 k ∧ farAt k (es.drop k) = r) (fun i => es.length - (intOf i).toNat)
  case atStart => exact ⟨0, Nat.zero_le _, rfl, HR.out⟩
  case round =>
    obtain ⟨k, hk, rfl, hpre⟩ := hrel
    have HP := Lib.hid hpre
    clear hpre
    by_cases hlt : k < es.length
    · obtain ⟨b, off, x, rfl, hbB, hx, hc⟩ := H.out.int k hlt
      have hd : es.drop k = x :: es.drop (k + 1) := by
        rw [List.drop_eq_getElem_cons hlt]
        rw [List.getElem?_eq_getElem hlt] at hx
        rw [Option.some.inj hx]
      have hp := HP.out
      rw [hd] at hp
      unfold farAt at hp
      have he := farTrack_any x w
      clear hx hd
      generalize (decide (x < 0) || decide (64 ≤ x)) = bb at *
      have HE := Lib.hid he
      clear he HP
      cases bb
      · rw [if_neg (by decide)] at hp
        have HN := Lib.hid hp
        clear hp
        go_wp2_with (refine HE.out.mono ?_; rintro e w' ⟨rfl, rfl⟩)
        go_round
        case rel => exact ⟨k + 1, by omega, by go_num, HN.out⟩
        case measure => simp [intOf]; omega
      · rw [if_pos rfl] at hp
        have HN := Lib.hid hp
        clear hp
        go_wp2_with (refine HE.out.mono ?_; rintro e w' ⟨rfl, rfl⟩)
        go_ret
        exact ⟨ret_i64 HN.out, rfl⟩
    · obtain rfl : k = es.length := by omega
      have HN := Lib.hid (show (-1 : Int) = r by rw [← HP.out, List.drop_length]; rfl)
      go_wp2_with fail
      go_ret
      exact ⟨ret_i64 HN.out, rfl⟩
set_option maxRecDepth 100000 in
theorem farTracks_any (A : Option Addr) (c B : Nat) (es : List Int) (w : World) (hl : es.length ≤ 1000000) (h : Row w B A (es.map (Value.int .i64))) :
    Calls Tryz.prog 58 #[.slice A es.length c, .func (.func 59) #[] #[]] w fun e w' => e = .returned (.bool (farB es)) ∧ w = w' := by
  have H := Lib.hid (farIndex_any A c B es w hl h)
  have hs := farAt_sign es 0
  generalize farAt 0 es = f at *
  clear h
  go_enter Tryz.func58, Tryz.ntmps58
  go_wp2_with (refine H.out.mono ?_; rintro e w' ⟨rfl, rfl⟩)
  go_ret
  exact ⟨by rw [← hs]; rfl, rfl⟩
end Go.Proofs.YtkjjnnbbicoljaaGreatDoor
