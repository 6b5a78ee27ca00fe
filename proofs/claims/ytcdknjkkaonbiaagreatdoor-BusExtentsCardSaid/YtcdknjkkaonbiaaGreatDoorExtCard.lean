/- integraphlaw07.BusExtents: the given statement and its card: for every input the law returns true and its arguments read as before. The conditions are the row's own: the listed package variables read as the program's text lays them (no step of the proof leans on what they hold). -/
import Derived.Test.YtcdknjkkaonbiaaGreatDoorRows
import Derived.Test.YtcdknjkkaonbiaaGreatDoorTie
import Derived.Test.YtcdknjkkaonbiaaGreatDoorCards
import Derived.Test.YtcdknjkkaonbiaaGreatDoorNetKit
import Derived.Test.YtcdknjkkaonbiaaGreatDoorBusExtA
import Derived.Test.YtcdknjkkaonbiaaGreatDoorBusAwake
import Derived.WalkKit
import Derived.ProofKit
import Derived.LaidMore
import Derived.Lay
import Derived.OpenShut
import Derived.ChangeOld
import Derived.Below
import Derived.Stop.Joined
import Derived.SevenTiedAt
import Derived.SizedLaws
namespace Go.Proofs.YtcdknjkkaonbiaaGreatDoor
open Go.ChangeShapes Go.WideShapes Go.ChangeAt Go.RowKit
set_option linter.unusedVariables false

abbrev tLaid : List (String × DataW Unit) := [("math/bits.deBruijn32tab", Rows.laid_math_bits_deBruijn32tab), ("math/bits.deBruijn64tab", Rows.laid_math_bits_deBruijn64tab), ("internal/strconv.uint64pow10", Rows.laid_internal_strconv_uint64pow10), ("unicode/utf8.acceptRanges", Rows.laid_unicode_utf8_acceptRanges), ("strconv.ErrRange", Rows.laid_strconv_ErrRange), ("strconv.ErrSyntax", Rows.laid_strconv_ErrSyntax), ("unicode/utf8.first", Rows.laid_unicode_utf8_first)]

theorem busExtents_walk (A A2 : Option Addr) (c c2 : Nat) (l : List NetAt) (order : List Int) (n : Int) (w : World) (h : NetsIn w w.heap.size A l) (h2 : Row w w.heap.size A2 (order.map (Value.int .i64))) (hi : ∀ c ∈ order, I64 c)
    (hl : l.length ≤ 140737488355328) (hl2 : order.length ≤ 140737488355328) (hc2 : order.length ≤ c2) :
    Calls Tryz.prog 4 #[.slice A l.length c, .int .i64 n, .slice A2 order.length c2] w fun e w' => e = .returned (.bool true) ∧ Below w.heap.size w w' :=
  extents_walk (fun _ => True) (fun _ _ _ _ => trivial) (fun w _ => awake_calls w) A A2 c c2 l order n w trivial h h2 hi hl hl2 hc2

set_option maxRecDepth 100000 in
theorem busExtents_lifted (os : Os) (started : os.Started) (H : Type) (enc : TypeId × Value → H) :
    ReturnsInHanded {} Tryz.checked os 4 .any (fun w args => (Rows.busExtentsSpec.pre enc Tryz.prog Tryz.f4 [] false w args ∧ laidMetH Tryz.prog tLaid w) ∧ sizedMet enc Tryz.prog Tryz.f4 (OpenSpec.ofChange Rows.busExtentsSpec) false w args)
      (Rows.busExtentsSpec.post enc Tryz.prog Tryz.f4 false true false false) := by
  refine returnsInHanded_of_change_and (C := Tryz.checked) (X := fun w _ => laidMetH Tryz.prog tLaid w) (fun _ _ _ hh h => h.of_heap hh) tOwn started (by kernel_rfl) Tryz.func4
    (ChangeSpec.witness_shaped (enc := enc) (C := Tryz.checked) (os := os) (X := fun w _ => laidMetH Tryz.prog tLaid w) false (World.laidAll Tryz.prog os tLaid) #[.slice none 0 0, .int .i64 0, .slice none 0 0] 8 (World.laidAll_os _ _ _)
      (World.shaped_of_ZipB (by kernel_rfl) (by kernel_rfl)) (by kernel_rfl) (by kernel_rfl) (by kernel_rfl)
      (by rw [MakeChecks.laidMetH_plain _ _ _ (by kernel_rfl)]; exact laidMet_laidAll _ (by kernel_rfl) (by kernel_rfl))) ?_
  intro W base args ds gs before hval0 hW _ hwt hL _
  have hval : ∀ (j : Nat) t v, Tryz.f4.params[j]? = some t → args[j]? = some v → Value.okWide Tryz.prog W .any base t v := hval0
  have hW' := hW
  obtain ⟨p, q, hA0, hV, rfl, hfz, hnd⟩ := hW
  have hA : DataW.TrodAll enc Tryz.prog W 0 (fun _ => true) true Tryz.f4.params.toList args.toList ds p := hA0
  have hwt' : (DataW.weightsEach Tryz.prog (Tryz.f4.params.toList ++ Rows.busExtentsSpec.plain.varTypes Tryz.prog) (ds ++ gs)).all (· ≤ reachBytes) = true := hwt
  rw [Tryz.params4] at hA hval hwt'
  obtain ⟨v0, vs0, d0, ds0, p0, q0, hargs, rfl, rfl, h0, r0⟩ := trodAll_cons hA
  obtain ⟨v1, vs1, d1, ds1, p1, q1, rfl, rfl, rfl, h1, r1⟩ := trodAll_cons r0
  obtain ⟨v2, vs2, d2, ds2, p2, q2, rfl, rfl, rfl, h2, r2⟩ := trodAll_cons r1
  obtain ⟨rfl, rfl, rfl⟩ := trodAll_nil r2
  obtain rfl : args = #[v0, v1, v2] := by cases args; simp_all
  obtain ⟨rfl, rfl⟩ := trodVars_none hV
  have lt0 : ∀ x ∈ p0, x.block < W.heap.size := by obtain ⟨m, hm⟩ := h0; exact DataW.trod_lt m _ _ _ hm
  have lt2 : ∀ x ∈ p2, x.block < W.heap.size := by obtain ⟨m, hm⟩ := h2; exact DataW.trod_lt m _ _ _ hm
  have hw0 : ∀ n ∈ d0.weights Tryz.prog 22, n ≤ reachBytes := fun n hn => by
    have := List.all_eq_true.1 hwt' n (DataW.weights_mem_each (j := 0) rfl rfl n hn)
    simpa using this
  obtain ⟨A0, c0, l, rfl, hnets, _, hlen0⟩ := open_nets (hval 0 22 v0 rfl rfl) h0 hw0
  obtain ⟨n, rfl, rfl, rfl, wn⟩ := open_int Tryz.underlying3 (hval 1 3 v1 rfl rfl) h1
  obtain ⟨A, c, xs, rfl, hrow, hcap, hints, hd⟩ := open_row (hval 2 23 v2 rfl rfl) h2
  have hlen : xs.length ≤ 140737488355328 := by
    rcases hd with ⟨_, rfl⟩ | ⟨el, sp, rfl, hel⟩
    · simp
    · have hb : Tryz.prog.bytesOf 3 = 8 := by kernel_rfl
      have := sized_slice hwt' (j := 2) rfl rfl Tryz.underlying23
      rw [hb] at this
      have hr := reachBytes_lt
      have : (el.length + sp.length) * 8 < 2 ^ 47 := Nat.lt_of_le_of_lt this hr
      omega
  clear hA0 hval0
  refine (busExtents_walk A0 A c0 c l xs n W hnets hrow hints hlen0 hlen hcap).mono fun e W' ⟨he, bel⟩ => ?_
  subst he
  exact ⟨_, rfl, _, _, _, [], _, [], hW', trodAll_mk1 (shut_bool Tryz.underlying4 _), (trodAll_cons_mk (Below.trod tLaidOut (by kernel_rfl) (of_decide_eq_true (by kernel_rfl)) h0 bel lt0) (trodAll_cons_mk (shut_int Tryz.underlying3 wn) (trodAll_cons_mk (Below.trod tLaidOut (by kernel_rfl) (of_decide_eq_true (by kernel_rfl)) h2 bel lt2) trodAll_mk0))), rfl, bel.frame _, fun h => by cases h⟩

theorem busExtents_closed : joinedFacts Tryz.prog 4 Tryz.f4 Rows.busExtentsSpec Rows.busExtentsRow = true := by kernel_rfl
theorem busExtents_named : Tryz.prog.funcNamed Rows.busExtentsRow.func = some 4 := by kernel_rfl
theorem busExtents_inst : Tryz.f4.isInstance Tryz.prog Rows.busExtentsRow.origin Rows.busExtentsRow.targs := of_decide_eq_true (by kernel_rfl)
theorem busExtents_wrap : Tryz.f4.isWrapper Tryz.prog Rows.busExtentsRow.wrapper Rows.busExtentsRow.mainSum := by
  unfold Func.isWrapper; first | (rw [if_pos (by decide +kernel)]; kernel_rfl) | (rw [if_neg (by decide +kernel)]; exact ⟨rfl, rfl⟩)
theorem busExtents_said : Rows.BusExtentsSaid :=
  OpenClaim.holds_of_wide (p := Tryz.pinned) 4 Tryz.f4 rfl rfl rfl rfl rfl rfl rfl ⟨rfl, rfl, rfl, rfl, rfl⟩ rfl rfl rfl rfl rfl busExtents_named Tryz.func4 busExtents_closed
    busExtents_inst busExtents_wrap
    (fun os started H enc _ => busExtents_lifted os started H enc)

/-- the tied card -/
theorem busExtents_holds : Rows.BusExtentsCardSaid :=
  Claim7.holds_tied_plain_at .later [] [.data, .data, .data, .data, .sentinel, .sentinel, .pinned] true (true, "e9c8c9465406783f1c0cd015f02a8f4a5e9b4a34f32aa94f428274d2c0957da4") true
    busExtents_said (fun _ h => by cases h) (by kernel_rfl) (fun _ h => by cases h) busExtents_row_tie rfl ⟨rfl, rfl⟩ (by kernel_rfl) rfl
    (fun f fn hf hfn => by
      obtain rfl : f = 4 := Option.some.inj ((show Tryz.prog.funcNamed "integraph/integraphlaw07.BusExtents" = some 4 by kernel_rfl).symm.trans hf) |>.symm
      obtain rfl : fn = Tryz.f4 := (Option.some.inj (Tryz.func4.symm.trans hfn)).symm
      exact ⟨by kernel_rfl, fun j t ht => by
        rw [Tryz.params4] at ht
        have hm : t ∈ [22, 3, 23] := by simpa using Array.mem_of_getElem? ht
        have hall : ([22, 3, 23].all fun u => !Tryz.prog.wantsStandIn u) = true := by kernel_rfl
        exact (show Tryz.prog.wantsStandIn t = false by simpa using List.all_eq_true.1 hall t hm)⟩)
    (by kernel_rfl)
#print axioms busExtents_holds
end Go.Proofs.YtcdknjkkaonbiaaGreatDoor
