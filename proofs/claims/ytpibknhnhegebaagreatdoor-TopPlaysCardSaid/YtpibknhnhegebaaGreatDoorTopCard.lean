/- integraphtop.TopPlays: the given statement and its card: for every input the law returns true and its arguments read as before. The conditions are the row's own: the listed package variables read as the program's text lays them. -/
import Derived.Test.YtpibknhnhegebaaGreatDoorRows
import Derived.Test.YtpibknhnhegebaaGreatDoorTie
import Derived.Test.YtpibknhnhegebaaGreatDoorCards
import Derived.Test.YtpibknhnhegebaaGreatDoorCardKit
import Derived.Test.YtpibknhnhegebaaGreatDoorPlaysA
import Derived.WalkKit
import Derived.ProofKit
import Derived.LaidMore
import Derived.OpenShut
import Derived.ShutString
import Derived.ChangeOld
import Derived.Below
import Derived.Stop.Joined
import Derived.SevenTiedAt
import Derived.SizedLaws
import Derived.Shelf.Vars
import Derived.Lib.LaidTab
namespace Go.Proofs.YtpibknhnhegebaaGreatDoor
open Go.ChangeShapes Go.WideShapes Go.ChangeAt Go.RowKit
set_option linter.unusedVariables false

set_option maxRecDepth 100000 in
theorem topPlays_lifted (os : Os) (started : os.Started) (H : Type) (enc : TypeId × Value → H) :
    ReturnsInHanded {} Tryz.checked os 7 .any (fun w args => (Rows.topPlaysSpec.pre enc Tryz.prog Tryz.f7 [] false w args ∧ laidMetH Tryz.prog tLaid w) ∧ sizedMet enc Tryz.prog Tryz.f7 (OpenSpec.ofChange Rows.topPlaysSpec) false w args)
      (Rows.topPlaysSpec.post enc Tryz.prog Tryz.f7 false true false false) := by
  refine wrap_and_shaped (C := Tryz.checked) (X := fun w _ => laidMetH Tryz.prog tLaid w) (fun _ _ _ hh h => h.of_heap hh) tOwn started (by kernel_rfl) Tryz.func7
    (ChangeSpec.witness_shaped (enc := enc) (C := Tryz.checked) (os := os) (X := fun w _ => laidMetH Tryz.prog tLaid w) false (World.doorLaid Tryz.prog 400 os) #[.agg #[.int .u8 0, .int .u8 0], .int .i16 0, .slice none 0 0] 8 rfl (World.shaped_of_RefB (by kernel_rfl) (by kernel_rfl)) (by kernel_rfl) (by kernel_rfl) (by kernel_rfl) (door_met os _)) ?_
  intro W base args ds gs before hval0 hW _ hwt hL hsh _
  have hval : ∀ (j : Nat) t v, Tryz.f7.params[j]? = some t → args[j]? = some v → Value.okWide Tryz.prog W .any base t v := hval0
  have hW' := hW
  obtain ⟨p, q, hA0, hV, rfl, hfz, hnd⟩ := hW
  have hA : DataW.TrodAll enc Tryz.prog W 0 (fun _ => true) true Tryz.f7.params.toList args.toList ds p := hA0
  have hwt' : (DataW.weightsEach Tryz.prog (Tryz.f7.params.toList ++ Rows.topPlaysSpec.plain.varTypes Tryz.prog) (ds ++ gs)).all (· ≤ reachBytes) = true := hwt
  rw [Tryz.params7] at hA hval hwt'
  obtain ⟨v0, vs0, d0, ds0, p0, q0, hargs, rfl, rfl, h0, r0⟩ := trodAll_cons hA
  obtain ⟨v1, vs1, d1, ds1, p1, q1, rfl, rfl, rfl, h1, r1⟩ := trodAll_cons r0
  obtain ⟨v2, vs2, d2, ds2, p2, q2, rfl, rfl, rfl, h2, r2⟩ := trodAll_cons r1
  obtain ⟨rfl, rfl, rfl⟩ := trodAll_nil r2
  obtain rfl : args = #[v0, v1, v2] := by cases args; simp_all
  obtain ⟨rfl, rfl⟩ := trodVars_none hV
  have lt0 : ∀ x ∈ p0, x.block < W.heap.size := by obtain ⟨m, hm⟩ := h0; exact DataW.trod_lt m _ _ _ hm
  have lt2 : ∀ x ∈ p2, x.block < W.heap.size := by obtain ⟨m, hm⟩ := h2; exact DataW.trod_lt m _ _ _ hm
  obtain ⟨l0, l1, rfl, hl0, hl0', hl1, hl1'⟩ := open_pair (hval 0 64 v0 rfl rfl) h0
  obtain ⟨s0, rfl, rfl, rfl, ws⟩ := open_int Tryz.underlying55 (hval 1 55 v1 rfl rfl) h1
  obtain ⟨A, c, xs, rfl, hrow, hcap, hd⟩ := open_row (hval 2 56 v2 rfl rfl) h2
  have hlen : xs.length ≤ 140737488355328 := by
    rcases hd with ⟨_, rfl⟩ | ⟨el, sp, rfl, hel⟩
    · simp
    · have hb : Tryz.prog.bytesOf 3 = 8 := by kernel_rfl
      have := sized_slice hwt' (j := 2) rfl rfl Tryz.underlying56
      rw [hb] at this
      have hr := reachBytes_lt
      have : (el.length + sp.length) * 8 < 2 ^ 47 := Nat.lt_of_le_of_lt this hr
      omega
  have hs : -32768 ≤ s0 ∧ s0 ≤ 32767 := by simpa using range_i16 (zs := [s0]) (by simpa using ws) 0
  clear hA0 hval0
  refine (plays_walk l0 l1 s0 A c xs W hl0 hl0' hl1 hl1' hs.1 hs.2 (env_of hL hsh) hrow hcap hlen).mono fun e W' ⟨he, bel⟩ => ?_
  subst he
  exact ⟨_, rfl, _, _, _, [], _, [], hW', trodAll_mk1 (shut_bool Tryz.underlying4 _), (trodAll_cons_mk (Below.trod tLaidOut (by kernel_rfl) (of_decide_eq_true (by kernel_rfl)) h0 bel lt0) (trodAll_cons_mk (shut_int Tryz.underlying55 ws) (trodAll_cons_mk (Below.trod tLaidOut (by kernel_rfl) (of_decide_eq_true (by kernel_rfl)) h2 bel lt2) trodAll_mk0))), rfl, bel.frame _, fun h => by cases h⟩

theorem topPlays_said : Rows.TopPlaysSaid :=
  OpenClaim.holds_of_wide 7 Tryz.f7 rfl rfl rfl rfl rfl rfl rfl ⟨rfl, rfl, rfl, rfl, rfl⟩ rfl rfl rfl rfl rfl (by kernel_rfl) Tryz.func7 (by kernel_rfl)
    (of_decide_eq_true (by kernel_rfl)) (by unfold Func.isWrapper; first | (rw [if_pos (by decide +kernel)]; kernel_rfl) | (rw [if_neg (by decide +kernel)]; exact ⟨rfl, rfl⟩))
    (fun os started H enc _ => topPlays_lifted os started H enc)

/-- the tied card -/
theorem topPlays_holds : Rows.TopPlaysCardSaid :=
  Claim7.holds_tied_plain_at .later [] [.data, .data, .data, .sentinel, .sentinel] true (true, "68394d2e7b76e4e6b78df1a193dd286dbf11242e88fbca5c90d9731d033ec386") true
    topPlays_said (fun _ h => by cases h) (by kernel_rfl) (fun _ h => by cases h) topPlays_row_tie rfl ⟨rfl, rfl⟩ (by kernel_rfl) rfl
    (fun f fn hf hfn => by
      obtain rfl : f = 7 := Option.some.inj ((show Tryz.prog.funcNamed "integraph/integraphtop.TopPlays" = some 7 by kernel_rfl).symm.trans hf) |>.symm
      obtain rfl : fn = Tryz.f7 := (Option.some.inj (Tryz.func7.symm.trans hfn)).symm
      exact ⟨by kernel_rfl, fun j t ht => by
        rw [Tryz.params7] at ht
        have hm : t ∈ [64, 55, 56] := by simpa using Array.mem_of_getElem? ht
        have hall : ([64, 55, 56].all fun u => !Tryz.prog.wantsStandIn u) = true := by kernel_rfl
        exact (show Tryz.prog.wantsStandIn t = false by simpa using List.all_eq_true.1 hall t hm)⟩)
    (by kernel_rfl)
#print axioms topPlays_holds
end Go.Proofs.YtpibknhnhegebaaGreatDoor
