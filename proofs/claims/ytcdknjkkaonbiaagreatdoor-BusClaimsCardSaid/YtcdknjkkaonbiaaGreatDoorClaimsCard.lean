/- integraphlaw07.BusClaims: the given statement and its card: for every input the law returns true and its arguments read as before. The conditions are the row's own: the listed package variables read as the program's text lays them (no step of the proof leans on what they hold). -/
import Derived.Test.YtcdknjkkaonbiaaGreatDoorRows
import Derived.Test.YtcdknjkkaonbiaaGreatDoorTie
import Derived.Test.YtcdknjkkaonbiaaGreatDoorCards
import Derived.Test.YtcdknjkkaonbiaaGreatDoorNetKit
import Derived.Test.YtcdknjkkaonbiaaGreatDoorBusClaims
import Derived.Test.YtcdknjkkaonbiaaGreatDoorBusAwake
import Derived.WalkKit
import Derived.ProofKit
import Derived.LaidMore
import Derived.Lay
import Derived.OpenShut
import Derived.ChangeOld
import Derived.Below
import Derived.Stop.Joined
import Derived.SevenTiedAt
import Derived.SizedLaws
namespace Go.Proofs.YtcdknjkkaonbiaaGreatDoor
open Go.ChangeShapes Go.WideShapes Go.ChangeAt Go.RowKit
set_option linter.unusedVariables false

abbrev tLaid : List (String × DataW Unit) := [("math/bits.deBruijn32tab", Rows.laid_math_bits_deBruijn32tab), ("math/bits.deBruijn64tab", Rows.laid_math_bits_deBruijn64tab), ("internal/strconv.uint64pow10", Rows.laid_internal_strconv_uint64pow10), ("unicode/utf8.acceptRanges", Rows.laid_unicode_utf8_acceptRanges), ("strconv.ErrRange", Rows.laid_strconv_ErrRange), ("strconv.ErrSyntax", Rows.laid_strconv_ErrSyntax), ("unicode/utf8.first", Rows.laid_unicode_utf8_first)]

set_option maxRecDepth 100000 in
/-- a slice of int out of a bounded datum -/
theorem row_few {H : Type} {d : DataW H} {xs : List Int} (h : d = .nil ∧ xs = [] ∨ ∃ el sp, d = .slice el sp ∧ el.length = xs.length) (hw : ∀ n ∈ d.weights Tryz.prog 23, n ≤ reachBytes) : xs.length ≤ 140737488355328 := by
  rcases h with ⟨_, rfl⟩ | ⟨el, sp, rfl, hel⟩
  · simp
  · have hb : Tryz.prog.bytesOf 3 = 8 := by kernel_rfl
    have := hw ((el.length + sp.length) * Tryz.prog.bytesOf 3) (by simp [DataW.weights, Tryz.underlying23])
    rw [hb] at this
    have hr := reachBytes_lt
    omega

set_option maxRecDepth 100000 in
/-- a claim that came in -/
theorem open_claim {H : Type} {enc : TypeId × Value → H} {W : World} {base : Nat} {v : Value} {d : DataW H} {p : List MemPlace} (hv : Value.okWide Tryz.prog W .any base 55 v)
    (h : DataW.Trod enc Tryz.prog W 0 (fun _ => true) true 55 v d p) (hw : ∀ n ∈ d.weights Tryz.prog 55, n ≤ reachBytes) :
    ∃ (A2 A3 A4 : Option Addr) (c2 c3 c4 : Nat) (order ts cl : List Int), v = .agg #[.slice A2 order.length c2, .slice A3 ts.length c3, .slice A4 cl.length c4] ∧ Row W W.heap.size A2 (order.map (Value.int .i64)) ∧ Row W W.heap.size A3 (ts.map (Value.int .i64)) ∧ Row W W.heap.size A4 (cl.map (Value.int .i64)) ∧
      (∀ n ∈ order, I64 n) ∧ order.length ≤ c2 ∧ cl.length ≤ c4 ∧ order.length ≤ 140737488355328 ∧ ts.length ≤ 140737488355328 ∧ cl.length ≤ 140737488355328 := by
  simp only [Value.okWide, Tryz.underlying55] at hv
  obtain ⟨cs, rfl, hsz, _⟩ := hv
  have c3' : Tryz.prog.cellsOf 55 = 3 := by kernel_rfl
  have c2' : Tryz.prog.cellsOf 51 = 2 := by kernel_rfl
  have c1' : Tryz.prog.cellsOf 23 = 1 := by kernel_rfl
  rw [c3'] at hsz
  obtain ⟨fuel, hf⟩ := h
  obtain ⟨y0, y1, m, he, _, t0, t1⟩ := trod_struct2 Tryz.underlying55 hf
  obtain ⟨l⟩ := cs
  match l, hsz with
  | [u0, u1, u2], _ =>
    have t0' : DataW.trod enc Tryz.prog W 0 (fun _ => true) true m 51 [u0, u1] = some y0 := by simpa [Value.cells, c2'] using t0
    have t1' : DataW.trod enc Tryz.prog W 0 (fun _ => true) true m 23 [u2] = some y1 := by simpa [Value.cells, c1', c2'] using t1
    obtain ⟨z0, z1, m2, he2, _, s0, s1⟩ := trod_struct2 Tryz.underlying51 t0'
    obtain ⟨A2, k2, order, g1, r1, l1, i1, w1⟩ := open_ints_cells (show DataW.trod enc Tryz.prog W 0 (fun _ => true) true m2 23 [u0] = some z0 by simpa [c1'] using s0)
    obtain ⟨A3, k3, ts, g2, r2, l2, i2, w2⟩ := open_ints_cells (show DataW.trod enc Tryz.prog W 0 (fun _ => true) true m2 23 [u1] = some z1 by simpa [c1'] using s1)
    obtain ⟨A4, k4, cl, g3, r3, l3, i3, w3⟩ := open_ints_cells t1'
    simp at g1 g2 g3
    subst g1; subst g2; subst g3
    have hd : d = .agg [.agg [z0.1, z1.1], y1.1] := by
      have := (Prod.mk.inj he).1
      rw [this, he2]
    subst hd
    have hsub : ∀ n, n ∈ z0.1.weights Tryz.prog 23 ∨ n ∈ z1.1.weights Tryz.prog 23 ∨ n ∈ y1.1.weights Tryz.prog 23 → n ≤ reachBytes := fun n hn => hw n (by
      simp only [DataW.weights, Tryz.underlying55, Tryz.underlying51, DataW.weightsEach, List.map_cons, List.map_nil, List.mem_append, List.append_nil]
      rcases hn with h | h | h
      · exact .inl (.inl h)
      · exact .inl (.inr h)
      · exact .inr h)
    exact ⟨A2, A3, A4, k2, k3, k4, order, ts, cl, rfl, r1, r2, r3, i1, l1, l3, row_few w1 fun n h => hsub n (.inl h), row_few w2 fun n h => hsub n (.inr (.inl h)), row_few w3 fun n h => hsub n (.inr (.inr h))⟩

set_option maxRecDepth 100000 in
theorem busClaims_lifted (os : Os) (started : os.Started) (H : Type) (enc : TypeId × Value → H) :
    ReturnsInHanded {} Tryz.checked os 6 .any (fun w args => (Rows.busClaimsSpec.pre enc Tryz.prog Tryz.f6 [] false w args ∧ laidMetH Tryz.prog tLaid w) ∧ sizedMet enc Tryz.prog Tryz.f6 (OpenSpec.ofChange Rows.busClaimsSpec) false w args)
      (Rows.busClaimsSpec.post enc Tryz.prog Tryz.f6 false true false false) := by
  refine returnsInHanded_of_change_and (C := Tryz.checked) (X := fun w _ => laidMetH Tryz.prog tLaid w) (fun _ _ _ hh h => h.of_heap hh) tOwn started (by kernel_rfl) Tryz.func6
    (ChangeSpec.witness_shaped (enc := enc) (C := Tryz.checked) (os := os) (X := fun w _ => laidMetH Tryz.prog tLaid w) false (World.laidAll Tryz.prog os tLaid) #[.slice none 0 0, .int .i64 0, .agg #[.slice none 0 0, .slice none 0 0, .slice none 0 0]] 8 (World.laidAll_os _ _ _)
      (World.shaped_of_ZipB (by kernel_rfl) (by kernel_rfl)) (by kernel_rfl) (by kernel_rfl) (by kernel_rfl)
      (by rw [MakeChecks.laidMetH_plain _ _ _ (by kernel_rfl)]; exact laidMet_laidAll _ (by kernel_rfl) (by kernel_rfl))) ?_
  intro W base args ds gs before hval0 hW _ hwt hL _
  have hval : ∀ (j : Nat) t v, Tryz.f6.params[j]? = some t → args[j]? = some v → Value.okWide Tryz.prog W .any base t v := hval0
  have hW' := hW
  obtain ⟨p, q, hA0, hV, rfl, hfz, hnd⟩ := hW
  have hA : DataW.TrodAll enc Tryz.prog W 0 (fun _ => true) true Tryz.f6.params.toList args.toList ds p := hA0
  have hwt' : (DataW.weightsEach Tryz.prog (Tryz.f6.params.toList ++ Rows.busClaimsSpec.plain.varTypes Tryz.prog) (ds ++ gs)).all (· ≤ reachBytes) = true := hwt
  rw [Tryz.params6] at hA hval hwt'
  obtain ⟨v0, vs0, d0, ds0, p0, q0, hargs, rfl, rfl, h0, r0⟩ := trodAll_cons hA
  obtain ⟨v1, vs1, d1, ds1, p1, q1, rfl, rfl, rfl, h1, r1⟩ := trodAll_cons r0
  obtain ⟨v2, vs2, d2, ds2, p2, q2, rfl, rfl, rfl, h2, r2⟩ := trodAll_cons r1
  obtain ⟨rfl, rfl, rfl⟩ := trodAll_nil r2
  obtain rfl : args = #[v0, v1, v2] := by cases args; simp_all
  obtain ⟨rfl, rfl⟩ := trodVars_none hV
  have lt0 : ∀ x ∈ p0, x.block < W.heap.size := by obtain ⟨m, hm⟩ := h0; exact DataW.trod_lt m _ _ _ hm
  have lt2 : ∀ x ∈ p2, x.block < W.heap.size := by obtain ⟨m, hm⟩ := h2; exact DataW.trod_lt m _ _ _ hm
  have hw0 : ∀ n ∈ d0.weights Tryz.prog 22, n ≤ reachBytes := fun n hn => by
    have := List.all_eq_true.1 hwt' n (DataW.weights_mem_each (j := 0) rfl rfl n hn)
    simpa using this
  obtain ⟨A0, c0, l, rfl, hnets, _, hlen0⟩ := open_nets (hval 0 22 v0 rfl rfl) h0 hw0
  obtain ⟨n, rfl, rfl, rfl, wn⟩ := open_int Tryz.underlying3 (hval 1 3 v1 rfl rfl) h1
  have hw2 : ∀ n ∈ d2.weights Tryz.prog 55, n ≤ reachBytes := fun n hn => by
    have := List.all_eq_true.1 hwt' n (DataW.weights_mem_each (j := 2) rfl rfl n hn)
    simpa using this
  obtain ⟨A2, A3, A4, c2, c3, c4, order, ts, cl, rfl, g1, g2, g3, g4, g5, g6, g7, g8, g9⟩ := open_claim (hval 2 55 v2 rfl rfl) h2 hw2
  clear hA0 hval0
  refine (claims_walk A0 A2 A3 A4 c0 c2 c3 c4 l order ts cl n W hnets g1 g2 g3 g4 hlen0 g7 g8 g9 g5 g6).mono fun e W' ⟨he, bel⟩ => ?_
  subst he
  exact ⟨_, rfl, _, _, _, [], _, [], hW', trodAll_mk1 (shut_bool Tryz.underlying4 _), (trodAll_cons_mk (Below.trod tLaidOut (by kernel_rfl) (of_decide_eq_true (by kernel_rfl)) h0 bel lt0) (trodAll_cons_mk (shut_int Tryz.underlying3 wn) (trodAll_cons_mk (Below.trod tLaidOut (by kernel_rfl) (of_decide_eq_true (by kernel_rfl)) h2 bel lt2) trodAll_mk0))), rfl, bel.frame _, fun h => by cases h⟩

theorem busClaims_closed : joinedFacts Tryz.prog 6 Tryz.f6 Rows.busClaimsSpec Rows.busClaimsRow = true := by kernel_rfl
theorem busClaims_named : Tryz.prog.funcNamed Rows.busClaimsRow.func = some 6 := by kernel_rfl
theorem busClaims_inst : Tryz.f6.isInstance Tryz.prog Rows.busClaimsRow.origin Rows.busClaimsRow.targs := of_decide_eq_true (by kernel_rfl)
theorem busClaims_wrap : Tryz.f6.isWrapper Tryz.prog Rows.busClaimsRow.wrapper Rows.busClaimsRow.mainSum := by
  unfold Func.isWrapper; first | (rw [if_pos (by decide +kernel)]; kernel_rfl) | (rw [if_neg (by decide +kernel)]; exact ⟨rfl, rfl⟩)
theorem busClaims_said : Rows.BusClaimsSaid :=
  OpenClaim.holds_of_wide (p := Tryz.pinned) 6 Tryz.f6 rfl rfl rfl rfl rfl rfl rfl ⟨rfl, rfl, rfl, rfl, rfl⟩ rfl rfl rfl rfl rfl busClaims_named Tryz.func6 busClaims_closed
    busClaims_inst busClaims_wrap
    (fun os started H enc _ => busClaims_lifted os started H enc)

/-- the tied card -/
theorem busClaims_holds : Rows.BusClaimsCardSaid :=
  Claim7.holds_tied_plain_at .later [] [.data, .data, .data, .data, .sentinel, .sentinel, .pinned] true (true, "e9c8c9465406783f1c0cd015f02a8f4a5e9b4a34f32aa94f428274d2c0957da4") true
    busClaims_said (fun _ h => by cases h) (by kernel_rfl) (fun _ h => by cases h) busClaims_row_tie rfl ⟨rfl, rfl⟩ (by kernel_rfl) rfl
    (fun f fn hf hfn => by
      obtain rfl : f = 6 := Option.some.inj ((show Tryz.prog.funcNamed "integraph/integraphlaw07.BusClaims" = some 6 by kernel_rfl).symm.trans hf) |>.symm
      obtain rfl : fn = Tryz.f6 := (Option.some.inj (Tryz.func6.symm.trans hfn)).symm
      exact ⟨by kernel_rfl, fun j t ht => by
        rw [Tryz.params6] at ht
        have hm : t ∈ [22, 3, 55] := by simpa using Array.mem_of_getElem? ht
        have hall : ([22, 3, 55].all fun u => !Tryz.prog.wantsStandIn u) = true := by kernel_rfl
        exact (show Tryz.prog.wantsStandIn t = false by simpa using List.all_eq_true.1 hall t hm)⟩)
    (by kernel_rfl)
#print axioms busClaims_holds
end Go.Proofs.YtcdknjkkaonbiaaGreatDoor
