/- The small functions of package run that Play calls: what each returns; none of them touches memory. -/
import Derived.Test.YtpibknhnhegebaaGreatDoorProg
import Derived.Test.YtpibknhnhegebaaGreatDoorPlayLaw
import Derived.WalkKit
import Derived.WalkLawsBesides
import Derived.WalkSpells
import Derived.Lib.Hide
import Derived.Outline
namespace Go.Proofs.YtpibknhnhegebaaGreatDoor
open Go.RowKit

theorem ret_int {k : IntKind} {a b : Int} (h : a = b) : Ending.returned (.int k a) = .returned (.int k b) := by rw [h]
theorem see_any (a s x : Int) (w : World) (h1 : -4000000000 ≤ x) (h2 : x ≤ 4000000000) (h3 : 0 ≤ a) (h4 : a ≤ 4000000000) :
    Calls Tryz.prog 87 #[.int .i64 a, .int .i64 s, .int .i64 x] w fun e w' => e = .returned (.int .i64 (Play.see a s x)) ∧ w = w' := by
  go_enter Tryz.func87, Tryz.ntmps87
  go_wp2
  all_goals (go_ret; exact ⟨ret_int (by unfold Play.see; omega), rfl⟩)

theorem within_yes (n a b : Int) (w : World) (h1 : a ≤ n) (h2 : n ≤ b) :
    Calls Tryz.prog 86 #[.int .i64 n, .int .i64 a, .int .i64 b] w fun e w' => e = .returned (.bool true) ∧ w = w' := by
  go_enter Tryz.func86, Tryz.ntmps86
  go_wp2
  go_ret
  exact ⟨rfl, rfl⟩

theorem isCount_yes (n : Int) (w : World) (h1 : -999999999 ≤ n) (h2 : n ≤ 999999999) :
    Calls Tryz.prog 83 #[.int .i64 n] w fun e w' => e = .returned (.bool true) ∧ w = w' := by
  go_enter Tryz.func83, Tryz.ntmps83
  go_wp2_with (go_at_call 86; refine (within_yes _ _ _ _ h1 h2).mono ?_; rintro e w' ⟨rfl, rfl⟩)
  go_ret
  exact ⟨rfl, rfl⟩

theorem when_no (n : Int) (w : World) :
    Calls Tryz.prog 85 #[.bool false, .int .i64 n] w fun e w' => e = .returned (.int .i64 0) ∧ w = w' := by
  go_enter Tryz.func85, Tryz.ntmps85
  go_wp2
  go_ret
  exact ⟨rfl, rfl⟩

theorem far_no (n : Int) (w : World) (h1 : -999999999 ≤ n) (h2 : n ≤ 999999999) :
    Calls Tryz.prog 82 #[.int .i64 n] w fun e w' => e = .returned (.bool false) ∧ w = w' := by
  go_enter Tryz.func82, Tryz.ntmps82
  go_wp2_with (go_at_call 83; refine (isCount_yes _ _ h1 h2).mono ?_; rintro e w' ⟨rfl, rfl⟩)
  go_ret
  exact ⟨rfl, rfl⟩
end Go.Proofs.YtpibknhnhegebaaGreatDoor
