/- The runner over an abstract memory: a closed call comes true in every world. -/
import Derived.Test.YtcdknjkkaonbiaaGreatDoorSxDraw6
namespace Go.Proofs.YtcdknjkkaonbiaaGreatDoor.Sx
open Go.RowKit

/-- it comes to true -/
def okv (r : VR) : Bool := match r with | .ok (.raw (.bool b)) _ => b | _ => false
noncomputable def H64 : AHeap := { m := .nil, next := 64 }
def env64 : Env := fun g => if g < 64 then some (g, 0) else none

theorem opened {P : Program} (hK : Known P) (hm : P.follows .mixedOrders = true) {f : FuncId} (fuel : Nat) (h : okv (acall P (acode P (adraw P) fuel) f [] H64) = true) (w : World) :
    Calls P f #[] w fun e w' => e = .returned (.bool true) ∧ Below w.heap.size w w' := by
  have hc : CallOk P (acall P (acode P (adraw P) fuel)) := acall_ok (acode_ok hK (adraw_ok hK hm) fuel)
  unfold okv at h
  split at h
  · rename_i b H' hr
    subst h
    have hH : HDen P w.heap.size env64 H64 w := ⟨fun i k h => (by rw [show H64.get i = none from Tr.get_nil i] at h; cases h), fun i j ki kj b ci cj h => (by rw [show H64.get i = none from Tr.get_nil i] at h; cases h), fun i k h => (by rw [show H64.get i = none from Tr.get_nil i] at h; cases h), Nat.le_refl _⟩
    have hs := hc.sim f [] H64 _ H' hr w.heap.size env64 [] w 0 hH (fun g hg => ⟨0, by simp [env64, hg]⟩) .nil (fun i h1 _ => by
      have h2 : 64 ≤ i := h1
      have h3 : ¬ i < 64 := by omega
      simp [env64, h3])
    refine (callsIn_wide.1 hs).mono ?_
    rintro e w' ⟨x, ρ', rfl, hd, _, hst⟩
    rw [hd.raw_eq]
    exact ⟨rfl, hst.below hH⟩
  · cases h
end Go.Proofs.YtcdknjkkaonbiaaGreatDoor.Sx
