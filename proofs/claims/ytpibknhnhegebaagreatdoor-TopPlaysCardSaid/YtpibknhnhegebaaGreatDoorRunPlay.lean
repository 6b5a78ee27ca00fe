/- run.Play: the list of what is seen; positions within the bounds. -/
import Derived.Test.YtpibknhnhegebaaGreatDoorRunSmall
import Derived.Test.YtpibknhnhegebaaGreatDoorReads
import Derived.WalkKit
import Derived.WalkLawsBesides
import Derived.WalkSpells
import Derived.Lib.Hide
import Derived.Outline
namespace Go.Proofs.YtpibknhnhegebaaGreatDoor
open Go.RowKit

theorem Tryz.info3 : (Tryz.prog.info? 3).map (fun i => (i.zero, i.size, i.bytes)) = some (some (.int .i64 0), 1, 8) := by kernel_rfl

theorem indexFunc_none (A : Option Addr) (c B : Nat) (xs : List Int) (w : World) (hl : xs.length ≤ 1000000) (h : Row w B A (xs.map (Value.int .i64)))
    (hx : ∀ x ∈ xs, -999999999 ≤ x ∧ x ≤ 999999999) :
    Calls Tryz.prog 139 #[.slice A xs.length c, .func (.func 82) #[] #[]] w fun e w' => e = .returned (.int .i64 (-1)) ∧ w = w' := by
  have H := Lib.hid h; clear h
  have HX := Lib.hid hx; clear hx
  go_enter Tryz.func139, Tryz.ntmps139
  go_wp2
  go_loop [8] (fun i => ∃ k : Nat, k ≤ xs.length ∧ i = .int .i64 k) (fun i => xs.length - (intOf i).toNat)
  case atStart => exact ⟨0, Nat.zero_le _, rfl⟩
  case round =>
    obtain ⟨k, hk, rfl⟩ := hrel
    by_cases hlt : k < xs.length
    · obtain ⟨b, off, x, rfl, _, hx, hck⟩ := H.out.int k hlt
      obtain ⟨hx1, hx2⟩ := HX.out x (List.mem_of_getElem? hx)
      clear hx
      go_wp2_with (refine (far_no _ _ hx1 hx2).mono ?_; rintro e w' ⟨rfl, rfl⟩)
      go_round
      case rel => exact ⟨k + 1, by omega, by go_num⟩
      case measure => simp [intOf]; omega
    · go_wp2
      go_ret
      exact ⟨rfl, rfl⟩

theorem containsFunc_no (A : Option Addr) (c B : Nat) (xs : List Int) (w : World) (hl : xs.length ≤ 1000000) (h : Row w B A (xs.map (Value.int .i64)))
    (hx : ∀ x ∈ xs, -999999999 ≤ x ∧ x ≤ 999999999) :
    Calls Tryz.prog 81 #[.slice A xs.length c, .func (.func 82) #[] #[]] w fun e w' => e = .returned (.bool false) ∧ w = w' := by
  have H := Lib.hid (indexFunc_none A c B xs w hl h hx); clear h hx
  go_enter Tryz.func81, Tryz.ntmps81
  go_wp2_with (refine H.out.mono ?_; rintro e w' ⟨rfl, rfl⟩)
  go_ret
  exact ⟨rfl, rfl⟩

theorem first_none (b : Nat) (w : World) (h0 : w.cell? ⟨b, 0, none⟩ = some (.int .i64 0)) (h1 : w.cell? ⟨b, 1, none⟩ = some (.int .i64 0)) (h2 : w.cell? ⟨b, 2, none⟩ = some (.int .i64 0)) :
    Calls Tryz.prog 84 #[.slice (some ⟨b, 0, none⟩) 3 3] w fun e w' => e = .returned (.int .i64 0) ∧ w = w' := by
  go_enter Tryz.func84, Tryz.ntmps84
  go_wp2
  refine wp_loop_rounds 4 ?_
  rw [rounds_succ]
  go_wp2
  rw [rounds_succ]
  go_wp2
  rw [rounds_succ]
  go_wp2
  rw [rounds_succ]
  go_wp2
  go_ret
  exact ⟨rfl, rfl⟩

/-- what a list result without an error is -/
def RetInts (w0 : World) (xs : List Int) (e : Ending) (w' : World) : Prop :=
  ∃ A c, e = .returned (.tuple #[.slice A xs.length c, .int .i64 0]) ∧ Row w' w'.heap.size A (xs.map (Value.int .i64)) ∧ Below w0.heap.size w0 w'

/-- and one whose block is new -/
def NewInts (w0 : World) (xs : List Int) (e : Ending) (w' : World) : Prop :=
  ∃ A c, e = .returned (.tuple #[.slice A xs.length c, .int .i64 0]) ∧ Row w' w'.heap.size A (xs.map (Value.int .i64)) ∧ Below w0.heap.size w0 w' ∧ ∀ a, A = some a → w0.heap.size ≤ a.block

theorem play_end {w wr : World} {a s : Int} {xs : List Int} {v : Value} {t : TypeId} (hown : wr.ownsRow w.heap.size t 1 v xs.length ((Play.plays a s xs).map (Value.int .i64))) (hb : Below w.heap.size w wr) :
    NewInts w (Play.plays a s xs) (.returned (.tuple #[v, .int .i64 0])) wr := by
  have hlt := hown.lt
  obtain ⟨A, c, rfl, hl, hr⟩ := Row.of_own hown
  exact ⟨A, c, by rw [Play.plays_len], hr, hb, fun a ha => (hlt a.block (by rw [ha]; rfl)).1⟩
theorem play_step {w wr w1 : World} {a s x : Int} {xs : List Int} {k : Nat} {u v' : Value} {o : Obj} {t : TypeId} (hx : xs[k]? = some x) (hb : Below w.heap.size w wr) (hB : w.heap.size ≤ wr.heap.size)
    (hown : wr.ownsRow w.heap.size t 1 u k ((Play.plays a s (xs.take k)).map (Value.int .i64)))
    (hown' : w1.ownsRow w.heap.size t 1 v' (k + 1) ((Play.plays a s (xs.take k)).map (Value.int .i64) ++ [.int .i64 (Play.see a (Play.lastSeen a s (xs.take k)) x)]))
    (hg : (wr.alloc o).grownBy w1 u.ownBlock) :
    Value.int .i64 (Play.see a (Play.lastSeen a s (xs.take k)) x) = .int .i64 (Play.lastSeen a s (xs.take (k + 1))) ∧
    w1.ownsRow w.heap.size t 1 v' (k + 1) ((Play.plays a s (xs.take (k + 1))).map (Value.int .i64)) ∧ Below w.heap.size w w1 := by
  have hs : xs.take (k + 1) = xs.take k ++ [x] := by rw [List.take_add_one, hx]; rfl
  rw [hs, Play.lastSeen_snoc, Play.plays_snoc]
  exact ⟨rfl, by simpa using hown', below_grown hb hB hown hg⟩

theorem play_new (A : Option Addr) (c B : Nat) (a s : Int) (xs : List Int) (w : World) (hl : xs.length ≤ 256) (h : Row w B A (xs.map (Value.int .i64))) (hB : B ≤ w.heap.size)
    (ha : 0 ≤ a) (ha2 : a ≤ 999999999) (hs : -999999999 ≤ s) (hs2 : s ≤ 999999999)
    (hx : ∀ x ∈ xs, -999999999 ≤ x ∧ x ≤ 999999999) :
    Calls Tryz.prog 34 #[.int .i64 a, .int .i64 s, .slice A xs.length c] w (NewInts w (Play.plays a s xs)) := by
  have H := Lib.hid h; have HX := Lib.hid hx
  have HC := Lib.hid (containsFunc_no A c B xs w (by omega) h hx)
  clear h hx
  have hd1 : decide ((256 : Int) < (xs.length : Int)) = false := by simp; omega
  have hd2 : decide (256 < xs.length) = false := by simp; omega
  go_enter Tryz.func34, Tryz.ntmps34
  go_wp2_with (first
    | (go_at_call 81; refine HC.out.mono ?_; rintro e w' ⟨rfl, rfl⟩)
    | (go_at_call 86; refine (within_yes _ _ _ _ ha ha2).mono ?_; rintro e w' ⟨rfl, rfl⟩)
    | (go_at_call 83; refine (isCount_yes _ _ hs hs2).mono ?_; rintro e w' ⟨rfl, rfl⟩)
    | (go_at_call 85; refine (when_no _ _).mono ?_; rintro e w' ⟨rfl, rfl⟩)
    | (go_at_call 84; refine (first_none _ _ (World.cell?_alloc_at _ _ _ _ rfl) (World.cell?_alloc_at _ _ _ _ rfl) (World.cell?_alloc_at _ _ _ _ rfl)).mono ?_; rintro e w' ⟨rfl, rfl⟩))
  obtain ⟨w0, hw0⟩ : ∃ w0, w.alloc (.cells #[.int .i64 0, .int .i64 0, .int .i64 0] 25) = w0 := ⟨_, rfl⟩
  have hb0 : Below w.heap.size w w0 := by rw [← hw0]; exact (Below.refl _ _).alloc (Nat.le_refl _) _
  rw [hw0]
  clear hw0
  go_loopw [1, 10, 37] (fun u v i wr => ∃ k : Nat, k ≤ xs.length ∧ i = .int .i64 k ∧ u = .int .i64 (Play.lastSeen a s (xs.take k)) ∧ wr.ownsRow w.heap.size 3 1 v k ((Play.plays a s (xs.take k)).map (Value.int .i64)) ∧ Below w.heap.size w wr) (fun _ _ i _ => xs.length - (intOf i).toNat)
  case atStart => exact ⟨0, Nat.zero_le _, rfl, rfl, World.ownsRow_nil _ _ _ _, hb0⟩
  case round =>
    obtain ⟨k, hk, rfl, rfl, hown, hbw⟩ := hrel
    have hsz := hbw.size
    by_cases hlt : k < xs.length
    · obtain ⟨b, off, x, rfl, hbB, hx, hck⟩ := H.out.int k hlt
      obtain ⟨hx1, hx2⟩ := HX.out x (List.mem_of_getElem? hx)
      have hck' := (hbw.cell (p := ⟨b, off + k, none⟩) (by show b < _; omega)).trans hck
      have HE := Lib.hid hx
      clear hx hck
      obtain ⟨i0, hi, hz0, hz1, hz2⟩ := info_parts Tryz.info3
      go_wp2_with (first
        | (go_at_call 87; refine (see_any _ _ _ _ (by omega) (by omega) ha (by omega)).mono ?_; rintro e w' ⟨rfl, rfl⟩)
        | (at_builtin; refine wpList_append_own _ rfl _ _ 56 rfl w.heap.size 3 i0 (.int .i64 0) 1 8 Tryz.underlying56 hi hz0 hz1 hz2 rfl (by decide) _ _ _ rfl (hown.alloc _) ⟨_, 0, none⟩ 1 1 [.int .i64 (Play.see a (Play.lastSeen a s (xs.take k)) x)] rfl rfl ?c1 ?c2 ?c3 ?c4 ?c5 ?_))
      case c1 => exact cell_first
      case c2 => intro u hu; simp at hu; subst hu; rfl
      case c3 => unfold maxLen; omega
      case c4 => omega
      case c5 => simp; omega
      intro v' w1 hown' hgrow _
      have R := play_step HE.out hbw hsz hown hown' hgrow
      clear hown' hgrow hown hbw hck' HE
      go_wp2
      go_roundw
      case rel => exact ⟨k + 1, by omega, by go_num, R.1, R.2.1, R.2.2⟩
      case measure => simp [intOf]; omega
    · obtain rfl : k = xs.length := by omega
      rw [List.take_length] at hown
      go_wp2
      go_ret2
      exact play_end hown hbw

theorem play_any (A : Option Addr) (c B : Nat) (a s : Int) (xs : List Int) (w : World) (hl : xs.length ≤ 256) (h : Row w B A (xs.map (Value.int .i64))) (hB : B ≤ w.heap.size)
    (ha : 0 ≤ a) (ha2 : a ≤ 999999999) (hs : -999999999 ≤ s) (hs2 : s ≤ 999999999)
    (hx : ∀ x ∈ xs, -999999999 ≤ x ∧ x ≤ 999999999) :
    Calls Tryz.prog 34 #[.int .i64 a, .int .i64 s, .slice A xs.length c] w (RetInts w (Play.plays a s xs)) :=
  (play_new A c B a s xs w hl h hB ha ha2 hs hs2 hx).mono fun _ _ ⟨A', c', h1, h2, h3, _⟩ => ⟨A', c', h1, h2, h3⟩
end Go.Proofs.YtpibknhnhegebaaGreatDoor
