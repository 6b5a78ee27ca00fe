/- The runner over an abstract memory: binary operations, slicing, structs built. -/
import Derived.Test.YtcdknjkkaonbiaaGreatDoorSxOp1
namespace Go.Proofs.YtcdknjkkaonbiaaGreatDoor.Sx
open Go.RowKit
section
variable {P : Program} {B : Nat} {ρ : Env} {H : AHeap} {w : World} {o : Oper} {ev : Ev} {e : Operand → Value}

theorem nbeq {a b : Nat} (h : a ≠ b) : Nat.beq a b = false := by
  cases hb : Nat.beq a b with
  | false => rfl
  | true => exact absurd (Nat.eq_of_beq_eq_true hb) h
theorem eqGuard_calm (op : BinOp) (t : TypeId) (x y : Operand) (a b : Value) (h1 : ∀ cs ds, a = .agg cs → b = .agg ds → False) (h2 : a = .nilIface → b = .nilIface → False) (w : World) : (eqGuard op t x y a b).run P w = .ok () w := by
  unfold eqGuard
  cases op <;> first | rfl | (cases a <;> first | rfl | (cases b <;> first | rfl | exact (h1 _ _ rfl rfl).elim | exact (h2 rfl rfl).elim))

theorem run_binOp_of {op : BinOp} {t yt : TypeId} {x y : Operand} (ho : o.op = .binOp op t x y yt) {a b : Value} (ha : e x = a) (hb : e y = b) (h1 : ∀ cs ds, a = .agg cs → b = .agg ds → False) (h2 : a = .nilIface → b = .nilIface → False)
    {v : Value} (h : (binOp op t a b).run P w = .ok v w) : (execOp e o).run P w = .ok (.value v) w := by
  subst ha; subst hb
  simp [execOp, ho, eqGuard_calm op t x y _ _ h1 h2, h]

theorem small_some {n : Nat} {v : AV} (h : small n = some v) : n < 9223372036854775808 ∧ v = .raw (.int .i64 n) := by
  unfold small at h
  cases hb : Nat.ble (Nat.succ n) 9223372036854775808 with
  | false => rw [hb] at h; cases h
  | true => rw [hb] at h; cases h; exact ⟨Nat.le_of_ble_eq_true hb, rfl⟩
theorem isI64_true {k : IntKind} (h : isI64 k = true) : k = .i64 := by cases k <;> first | rfl | cases h

theorem run_nBin {op : BinOp} {m n : Nat} {v : AV} (h : nBin op m n = some v) (t : TypeId) (w : World) : ∃ y, v = .raw y ∧ (binOp op t (.int .i64 m) (.int .i64 n)).run P w = .ok y w := by
  have hb : ∀ b : Bool, ∀ y, (some (AV.raw (.bool b)) = some y) → y = .raw (.bool b) := fun b y h => by cases h; rfl
  cases op
  case add =>
    obtain ⟨h1, rfl⟩ := small_some h
    refine ⟨_, rfl, ?_⟩
    have e : IntKind.i64.wrap ((m : Int) + n) = ((Nat.add m n : Nat) : Int) := by
      rw [IntWalk.i64_in _ (by have : Nat.add m n = m + n := rfl; omega)]; rfl
    simp [binOp, Op.intArith, e]
  case sub =>
    have hs : nBin .sub m n = @Bool.rec (fun _ => Option AV) none (small (Nat.sub m n)) (Nat.ble n m) := rfl
    rw [hs] at h
    cases hb : Nat.ble n m with
    | false => rw [hb] at h; cases h
    | true =>
      rw [hb] at h
      have hle := Nat.le_of_ble_eq_true hb
      obtain ⟨h1, rfl⟩ := small_some h
      refine ⟨_, rfl, ?_⟩
      have e1 : Nat.sub m n = m - n := rfl
      have e : IntKind.i64.wrap ((m : Int) - n) = ((Nat.sub m n : Nat) : Int) := by
        rw [IntWalk.i64_in _ (by omega)]; omega
      simp [binOp, Op.intArith, e]
  case eql =>
    refine ⟨_, hb _ _ h, ?_⟩
    simp only [binOp, Op.intCmp, ne_eq, not_true_eq_false, if_false, Sem.run_pure]
    congr 2
    by_cases hmn : m = n
    · subst hmn; simp
    · rw [nbeq hmn]; simp; omega
  case neq =>
    refine ⟨_, hb _ _ h, ?_⟩
    simp only [binOp, Op.intCmp, ne_eq, not_true_eq_false, if_false, Sem.run_pure]
    congr 2
    by_cases hmn : m = n
    · subst hmn; simp
    · rw [nbeq hmn]; simp [bne]; omega
  case lss =>
    refine ⟨_, hb _ _ h, ?_⟩
    simp only [binOp, Op.intCmp, ne_eq, not_true_eq_false, if_false, Sem.run_pure]
    congr 2
    by_cases hmn : m < n
    · rw [Nat.ble_eq_true_of_le hmn]; simpa using hmn
    · rw [show Nat.ble (Nat.succ m) n = false from Bool.eq_false_iff.2 fun hh => hmn (Nat.le_of_ble_eq_true hh)]; simpa using hmn
  case leq =>
    refine ⟨_, hb _ _ h, ?_⟩
    simp only [binOp, Op.intCmp, ne_eq, not_true_eq_false, if_false, Sem.run_pure]
    congr 2
    by_cases hmn : m ≤ n
    · rw [Nat.ble_eq_true_of_le hmn]; simpa using hmn
    · rw [show Nat.ble m n = false from Bool.eq_false_iff.2 fun hh => hmn (Nat.le_of_ble_eq_true hh)]; simpa using hmn
  case gtr =>
    refine ⟨_, hb _ _ h, ?_⟩
    simp only [binOp, Op.intCmp, ne_eq, not_true_eq_false, if_false, Sem.run_pure]
    congr 2
    by_cases hmn : n < m
    · rw [Nat.ble_eq_true_of_le hmn]; simpa using hmn
    · rw [show Nat.ble (Nat.succ n) m = false from Bool.eq_false_iff.2 fun hh => hmn (Nat.le_of_ble_eq_true hh)]; simpa using hmn
  case geq =>
    refine ⟨_, hb _ _ h, ?_⟩
    simp only [binOp, Op.intCmp, ne_eq, not_true_eq_false, if_false, Sem.run_pure]
    congr 2
    by_cases hmn : n ≤ m
    · rw [Nat.ble_eq_true_of_le hmn]; simpa using hmn
    · rw [show Nat.ble n m = false from Bool.eq_false_iff.2 fun hh => hmn (Nat.le_of_ble_eq_true hh)]; simpa using hmn
  all_goals (exact absurd (show (none : Option AV) = some v from h) (by simp))

theorem aint_ok {op : BinOp} {k : IntKind} {a b : Int} {v : Value} (h : aint P op k a b = some v) (t : TypeId) (w : World) : (binOp op t (.int k a) (.int k b)).run P w = .ok v w := by
  unfold aint at h
  cases op <;> first
    | (have := runPure_run _ w h; simpa [binOp] using this)
    | cases h

theorem samePtr_some {t : TypeId} {x y : AV} {b : Bool} (h : samePtr P t x y = some b) : ∃ i off off' el n, x = .ptr i off ∧ y = .ptr i off' ∧ P.underlying t = some (.pointer el) ∧ sizeB P el = some (n + 1) ∧ b = Nat.beq off off' := by
  unfold samePtr at h
  split at h
  · rename_i i off j off'
    split at h
    · rename_i el hu
      split at h
      · rename_i n hn
        cases hij : Nat.beq i j with
        | false => rw [hij] at h; cases h
        | true =>
          rw [hij] at h
          cases h
          have := Nat.eq_of_beq_eq_true hij
          subst this
          exact ⟨i, off, off', el, n, rfl, rfl, hu, hn, rfl⟩
      · cases h
    · cases h
  · cases h

theorem addr_beq (b off off' : Nat) : ((⟨b, off, none⟩ : Addr) == ⟨b, off', none⟩) = Nat.beq off off' := by
  by_cases h : off = off'
  · subst h
    rw [beq_self_eq_true]
    exact (Nat.beq_refl off).symm
  · rw [nbeq h]
    exact beq_false_of_ne fun hh => h (by cases hh; rfl)
theorem run_equalIn_samePtr {t el : TypeId} {n : Nat} (hu : P.underlying t = some (.pointer el)) (hs : sizeB P el = some (n + 1)) (b off off' : Nat) (w : World) (d : Nat) :
    (Op.equalIn (d + 1) t (.pointer (some ⟨b, off, none⟩)) (.pointer (some ⟨b, off', none⟩))).run P w = .ok (Nat.beq off off') w := by
  simp only [Op.equalIn, Sem.run_bind, run_und hu, Result.andThen_ok, run_sizeB hs]
  rw [if_pos (by omega)]
  unfold sameAddr
  simp only [beq_self_eq_true, if_true, addr_beq]
  rfl
theorem run_equal_samePtr {t el : TypeId} {n : Nat} (hu : P.underlying t = some (.pointer el)) (hs : sizeB P el = some (n + 1)) (b off off' : Nat) (w : World) :
    (Op.equal t (.pointer (some ⟨b, off, none⟩)) (.pointer (some ⟨b, off', none⟩))).run P w = .ok (Nat.beq off off') w := run_equalIn_samePtr hu hs b off off' w 9999

theorem fits_ptr {t : TypeId} {i off : Nat} (h : fitsEq P t (.ptr i off) = true) : ∃ el, P.underlying t = some (.pointer el) := by
  simp only [fitsEq] at h; split at h
  · exact ⟨_, ‹_›⟩
  · cases h
theorem fits_slice {t : TypeId} {i off len : Nat} {cap : Cap} (h : fitsEq P t (.slice i off len cap) = true) : ∃ el, P.underlying t = some (.slice el) := by
  simp only [fitsEq] at h; split at h
  · exact ⟨_, ‹_›⟩
  · cases h
theorem fits_func {t : TypeId} {f : Fn} {a b : List AV} (h : fitsEq P t (.func f a b) = true) : ∃ x y z, P.underlying t = some (.func x y z) := by
  simp only [fitsEq] at h; split at h
  · exact ⟨_, _, _, ‹_›⟩
  · cases h
theorem fits_iface {t u : TypeId} {v : AV} (h : fitsEq P t (.iface u v) = true) : ∃ ms, P.underlying t = some (.interface ms) := by
  simp only [fitsEq] at h; split at h
  · exact ⟨_, ‹_›⟩
  · cases h
theorem fits_map {t : TypeId} {i : Nat} (h : fitsEq P t (.map i) = true) : ∃ k v, P.underlying t = some (.map k v) := by
  simp only [fitsEq] at h; split at h
  · exact ⟨_, _, ‹_›⟩
  · cases h

/-- what is no integer, no string, no struct -/
def Value.far : Value → Bool
  | .pointer _ | .slice .. | .func .. | .nilFunc | .iface .. | .map _ => true
  | _ => false
theorem eql_far {t : TypeId} {a b : Value} (h : Value.far a = true ∨ Value.far b = true) : binOp .eql t a b = (do pure (.bool (← Op.equal t a b))) := by
  cases a <;> first | rfl | (cases b <;> first | rfl | (rcases h with h | h <;> cases h))
theorem neq_far {t : TypeId} {a b : Value} (h : Value.far a = true ∨ Value.far b = true) : binOp .neq t a b = (do pure (.bool (!(← Op.equal t a b)))) := by
  cases a <;> first | rfl | (cases b <;> first | rfl | (rcases h with h | h <;> cases h))

/-- a value that lies in memory against the nil of its kind -/
theorem run_equalIn_kind {t : TypeId} {x y : AV} (hf : fitsEq P t x = true) (hk : sameKind x y = true) {a b : Value} (ha : Den ρ x a) (hb : Den ρ y b) (w : World) (d : Nat) :
    (Op.equalIn (d + 1) t a b).run P w = .ok false w ∧ (Op.equalIn (d + 1) t b a).run P w = .ok false w ∧ Value.far a = true ∧ a ≠ .nilIface := by
  unfold sameKind at hk
  split at hk
  · obtain ⟨el, hu⟩ := fits_ptr hf
    obtain ⟨b', c, _, rfl⟩ := ha.ptr_inv
    have := hb.raw_eq; subst this
    simp [Op.equalIn, run_und hu, Value.far]
  · obtain ⟨el, hu⟩ := fits_slice hf
    obtain ⟨b', c, k, _, _, _, rfl⟩ := ha.slice_inv
    have := hb.raw_eq; subst this
    simp [Op.equalIn, run_und hu, Value.far]
  · obtain ⟨_, _, _, hu⟩ := fits_func hf
    obtain ⟨xs, ys, _, _, rfl⟩ := ha.func_inv
    have := hb.raw_eq; subst this
    simp [Op.equalIn, run_und hu, Value.far]
  · obtain ⟨_, hu⟩ := fits_iface hf
    obtain ⟨y, _, rfl⟩ := ha.iface_inv
    have := hb.raw_eq; subst this
    simp [Op.equalIn, run_und hu, Value.far]
  · obtain ⟨_, _, hu⟩ := fits_map hf
    obtain ⟨b', c, _, rfl⟩ := ha.map_inv
    have := hb.raw_eq; subst this
    simp [Op.equalIn, run_und hu, Value.far]
  · cases hk

theorem aeq_ok {t yt : TypeId} {x y : Operand} {want : Bool} (he : ∀ x, Den ρ (ev x) (e x)) (ho : o.op = .binOp (if want then .eql else .neq) t x y yt) {v : AV} (h : aeq P o ev t want (ev x) (ev y) = some v) (w : World) :
    ∃ nx z, (execOp e o).run P w = .ok nx w ∧ Nx nx z ∧ Den ρ v z := by
  unfold aeq at h
  have hx := he x
  have hy := he y
  -- what == comes to, and both operations out of it
  have main : ∀ r : Bool, (Op.equal t (e x) (e y)).run P w = .ok r w → (Value.far (e x) = true ∨ Value.far (e y) = true) → (∀ cs ds, e x = .agg cs → e y = .agg ds → False) → (e x = .nilIface → e y = .nilIface → False) → v = .raw (.bool (r == want)) →
      ∃ nx z, (execOp e o).run P w = .ok nx w ∧ Nx nx z ∧ Den ρ v z := fun r hr hfar h1 h2 hv => by
    refine ⟨.value (.bool (r == want)), .bool (r == want), ?_, rfl, by rw [hv]; exact .raw _⟩
    refine run_binOp_of ho rfl rfl h1 h2 ?_
    cases want
    · simp only [Bool.false_eq_true, if_false, neq_far hfar, Sem.run_bind, hr, Result.andThen_ok, Sem.run_pure]
      cases r <;> rfl
    · simp only [if_true, eql_far hfar, Sem.run_bind, hr, Result.andThen_ok, Sem.run_pure]
      cases r <;> rfl
  split at h
  · rename_i b hb
    obtain ⟨i, off, off', el, n, h1, h2, h3, h4, h5⟩ := samePtr_some hb
    rw [h1] at hx
    rw [h2] at hy
    obtain ⟨bb, c, g1, g2⟩ := hx.ptr_inv
    obtain ⟨bb', c', g3, g4⟩ := hy.ptr_inv
    rw [g1] at g3
    cases g3
    cases h
    refine main b ?_ (.inl (by rw [g2]; rfl)) (fun cs ds hc => by rw [g2] at hc; cases hc) (fun hc => by rw [g2] at hc; cases hc) rfl
    rw [g2, g4, h5]
    exact run_equal_samePtr h3 h4 bb off off' w
  · cases hf : fitsEq P t (ev x) && sameKind (ev x) (ev y) with
    | true =>
      rw [hf] at h
      cases h
      rw [Bool.and_eq_true] at hf
      obtain ⟨g1, g2, g3, g4⟩ := run_equalIn_kind hf.1 hf.2 hx hy w 9999
      exact main false g1 (.inl g3) (fun cs ds hc => by rw [hc] at g3; cases g3) (fun hc => (g4 hc).elim) (by cases want <;> rfl)
    | false =>
      rw [hf] at h
      cases hf2 : fitsEq P t (ev y) && sameKind (ev y) (ev x) with
      | true =>
        rw [hf2] at h
        cases h
        rw [Bool.and_eq_true] at hf2
        obtain ⟨g1, g2, g3, g4⟩ := run_equalIn_kind hf2.1 hf2.2 hy hx w 9999
        exact main false g2 (.inr g3) (fun cs ds _ hc => by rw [hc] at g3; cases g3) (fun _ hc => (g4 hc).elim) (by cases want <;> rfl)
      | false =>
        rw [hf2] at h
        exact gen_ok he (by rw [ho]; rfl) h w

theorem fastInt_some {op : BinOp} {k k' : IntKind} {a b : Int} {v : AV} (h : fastInt op k k' a b = some v) : ∃ m n : Nat, k = .i64 ∧ k' = .i64 ∧ a = m ∧ b = n ∧ nBin op m n = some v := by
  unfold fastInt at h
  cases ha : intN a with
  | no => rw [ha] at h; cases h
  | mk m =>
    rw [ha] at h
    cases hb : intN b with
    | no => rw [hb] at h; cases h
    | mk n =>
      rw [hb] at h
      cases h1 : isI64 k with
      | false => rw [h1] at h; cases h
      | true =>
        rw [h1] at h
        cases h2 : isI64 k' with
        | false => rw [h2] at h; cases h
        | true =>
          rw [h2] at h
          exact ⟨m, n, isI64_true h1, isI64_true h2, intN_mk ha, intN_mk hb, h⟩

theorem hBin_ok (hH : HDen P B ρ H w) (he : ∀ x, Den ρ (ev x) (e x)) {op : BinOp} {t yt : TypeId} {x y : Operand} (ho : o.op = .binOp op t x y yt) : OpOk P B ρ H w ((execOp e o).run P w) (hBin op t x y yt P o ev H) := by
  have hp : plainOp o.op = true := by rw [ho]; rfl
  unfold hBin
  cases hx : avW (ev x) with
  | no =>
    refine ok_pure hH fun v hv => ?_
    unfold pBin at hv
    split at hv
    · exact aeq_ok (want := true) he ho hv w
    · exact aeq_ok (want := false) he ho hv w
    · exact gen_ok he hp hv w
  | int k a =>
    cases hy : avW (ev y) with
    | no => exact gen_pure hH he hp
    | int k' b =>
      have ex : e x = .int k a := by have := he x; rw [avW_int hx] at this; exact this.raw_eq
      have ey : e y = .int k' b := by have := he y; rw [avW_int hy] at this; exact this.raw_eq
      cases hf : fastInt op k k' a b with
      | some v =>
        obtain ⟨m, n, rfl, rfl, rfl, rfl, h5⟩ := fastInt_some hf
        obtain ⟨z, rfl, hz⟩ := run_nBin h5 t w
        simp only [hf]
        exact ok_val hH (run_binOp_of ho ex ey (fun _ _ hc => by cases hc) (fun hc => by cases hc) hz) (.raw z)
      | none =>
        simp only [hf]
        refine ok_pure hH fun v hv => ?_
        unfold pInt at hv
        cases hk : k == k' with
        | false => rw [hk] at hv; exact gen_ok he hp hv w
        | true =>
          rw [hk] at hv
          have hkk : k = k' := by simpa using hk
          subst hkk
          simp only [cond_true] at hv
          split at hv
          · rename_i z hz
            cases hv
            exact ⟨.value z, z, run_binOp_of ho ex ey (fun _ _ hc => by cases hc) (fun hc => by cases hc) (aint_ok hz t w), rfl, .raw z⟩
          · exact gen_ok he hp hv w
end
end Go.Proofs.YtcdknjkkaonbiaaGreatDoor.Sx
