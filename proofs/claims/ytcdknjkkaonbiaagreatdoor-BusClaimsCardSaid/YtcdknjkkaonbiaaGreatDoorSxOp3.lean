/- The runner over an abstract memory: slicing, structs and arrays built. -/
import Derived.Test.YtcdknjkkaonbiaaGreatDoorSxOp2
import Derived.Laws.Slices
namespace Go.Proofs.YtcdknjkkaonbiaaGreatDoor.Sx
open Go.RowKit
section
variable {P : Program} {B : Nat} {ρ : Env} {H : AHeap} {w : World} {o : Oper} {ev : Ev} {e : Operand → Value}

theorem mk_val {r : Result Next} {v : AV} {y : Value} (h : r = .ok (.value y) w) (hd : Den ρ v y) : ∃ nx z, r = .ok nx w ∧ Nx nx z ∧ Den ρ v z := ⟨.value y, y, h, rfl, hd⟩
theorem numO_some {he : ∀ x, Den ρ (ev x) (e x)} {q : Option Operand} {d n : Nat} (h : numO (q.map ev) d = some n) : (q = none ∧ n = d) ∨ ∃ k, q.map e = some (.int k n) := by
  cases q with
  | none => left; simp [numO] at h; exact ⟨rfl, h.symm⟩
  | some x =>
    right
    obtain ⟨k, hk⟩ := natO_some (v := ev x) h
    have := he x
    rw [hk] at this
    exact ⟨k, by simp [this.raw_eq]⟩

theorem run_bound {k : IntKind} {i y : Nat} (h : i ≤ y) (code : BoundsCode) (w : World) : (Instr.sliceBound (.int k i) y code).run P w = .ok i w := by
  have := run_sliceBound (P := P) (w := w) k (i : Int) y code (by omega) (by omega)
  simpa using this

theorem run_bounds (isS : Bool) {len cap l h m : Nat} {lo hi mx : Option Value} (hl : (lo = none ∧ l = 0) ∨ ∃ k, lo = some (.int k l)) (hh : (hi = none ∧ h = len) ∨ ∃ k, hi = some (.int k h))
    (hm : (mx = none ∧ m = cap) ∨ ∃ k, mx = some (.int k m)) (hx : mx = none ∨ hi ≠ none) (h1 : l ≤ h) (h2 : h ≤ m) (h3 : m ≤ cap) (w : World) : (Instr.sliceBounds isS len cap lo hi mx).run P w = .ok (l, h, m) w := by
  rcases hl with ⟨rfl, rfl⟩ | ⟨kl, rfl⟩ <;> rcases hh with ⟨rfl, rfl⟩ | ⟨kh, rfl⟩ <;> rcases hm with ⟨rfl, rfl⟩ | ⟨km, rfl⟩ <;>
    first
      | (simp [Instr.sliceBounds, run_bound, h1, h2, h3]; done)
      | (rcases hx with hx | hx <;> first | cases hx | exact absurd rfl hx)

theorem hSlice_ok (hH : HDen P B ρ H w) (he : ∀ x, Den ρ (ev x) (e x)) {t : TypeId} {x : Operand} {lo hi mx : Option Operand} (ho : o.op = .slice t x lo hi mx) : OpOk P B ρ H w ((execOp e o).run P w) (hSlice t x lo hi mx P o ev H) := by
  refine ok_pure hH fun v hv => ?_
  have hx := he x
  unfold pSlice at hv
  split at hv
  · exact gen_ok he (by rw [ho]; rfl) hv w
  · rename_i x' hraw
    unfold aslice at hv
    split at hv
    · rename_i n el i off hu hxe
      rw [hxe] at hx
      obtain ⟨b, c, g1, g2⟩ := hx.ptr_inv
      simp only [Option.bind_eq_some_iff] at hv
      obtain ⟨s, hs, m, hm, h, hh, l, hl, hv⟩ := hv
      cases hb : (Nat.ble l h && Nat.ble h m && Nat.ble m n && ((mx.map ev).isNone || (hi.map ev).isSome)) with
      | false => rw [hb] at hv; cases hv
      | true =>
        rw [hb] at hv
        simp only [Bool.and_eq_true, Bool.or_eq_true] at hb
        obtain ⟨⟨⟨b1, b2⟩, b3⟩, b4⟩ := hb
        have b1 := Nat.le_of_ble_eq_true b1
        have b2 := Nat.le_of_ble_eq_true b2
        have b3 := Nat.le_of_ble_eq_true b3
        cases hv
        have hxx : mx.map e = none ∨ hi.map e ≠ none := by
          rcases b4 with b4 | b4
          · left; cases mx <;> simp_all
          · right; cases hi <;> simp_all
        have hm' := numO_some (he := he) hm
        have hh' := numO_some (he := he) hh
        have hl' := numO_some (he := he) hl
        have hr := run_bounds (P := P) false (len := n) (cap := n) (lo := lo.map e) (hi := hi.map e) (mx := mx.map e) (l := l) (h := h) (m := m)
          (by rcases hl' with ⟨rfl, h⟩ | h; · exact .inl ⟨rfl, h⟩
              · exact .inr h) (by rcases hh' with ⟨rfl, h⟩ | h; · exact .inl ⟨rfl, h⟩
                                  · exact .inr h) (by rcases hm' with ⟨rfl, h⟩ | h; · exact .inl ⟨rfl, h⟩
                                                      · exact .inr h) hxx b1 b2 b3 w
        have hden : Den ρ (AV.slice i (cond (Nat.beq m l) off (off + l * s)) (h - l) (.known (m - l))) (.slice (some ⟨b, cond (Nat.beq m l) off (off + l * s), none⟩) (h - l) (m - l)) := .slice g1 rfl (by omega)
        refine mk_val ?_ hden
        simp only [execOp, ho, Instr.sliceAt, Sem.run_bind, run_und hu, Result.andThen_ok, g2, Instr.sureAddr, Sem.run_pure, hr, run_sizeB hs]
        congr 4
        by_cases hml : m = l
        · subst hml; simp
        · rw [nbeq hml, if_neg hml, addr_add]; rfl
    · rename_i el i off len cap hu hxe
      rw [hxe] at hx
      obtain ⟨b, c, kk, g1, gc, gl, g2⟩ := hx.slice_inv
      simp only [Option.bind_eq_some_iff] at hv
      obtain ⟨s, hs, h, hh, l, hl, hv⟩ := hv
      have hh' := numO_some (he := he) hh
      have hl' := numO_some (he := he) hl
      have main : ∀ (off' : Nat) (cap' : Cap), mx = none → l ≤ h → h ≤ kk → v = .slice i off' (h - l) cap' → capOk cap' c (kk - l) → (if kk = l then off = off' else off + l * s = off') → ∃ nx z, (execOp e o).run P w = .ok nx w ∧ Nx nx z ∧ Den ρ v z := by
        intro off' cap' hmx h1 h2 hve hc hoff
        subst hmx; subst hve
        have hr := run_bounds (P := P) true (len := len) (cap := kk) (lo := lo.map e) (hi := hi.map e) (mx := none) (l := l) (h := h) (m := kk)
          (by rcases hl' with ⟨rfl, h⟩ | h; · exact .inl ⟨rfl, h⟩
              · exact .inr h) (by rcases hh' with ⟨rfl, h⟩ | h; · exact .inl ⟨rfl, h⟩
                                  · exact .inr h) (.inl ⟨rfl, rfl⟩) (.inl rfl) h1 h2 (Nat.le_refl _) w
        refine mk_val ?_ (.slice (off := off') g1 hc (show h - l ≤ kk - l by omega))
        simp only [execOp, ho, Instr.sliceAt, Sem.run_bind, run_und hu, Result.andThen_ok, g2, Instr.slice, Option.map_none, hr, run_sizeB hs, Sem.run_pure]
        congr 3
        by_cases hkl : kk = l
        · rw [if_pos hkl] at hoff ⊢; rw [hoff]
        · rw [if_neg hkl] at hoff ⊢; simp [addr_add, hoff]
      have other : mx = none → ((cond (Nat.ble l h && Nat.ble h len) (cond (Nat.beq l 0) (some (AV.slice i off h cap)) (cond (Nat.ble (l + 1) len) (some (AV.slice i (off + l * s) (h - l) .any)) none)) none) = some v) → ∃ nx z, (execOp e o).run P w = .ok nx w ∧ Nx nx z ∧ Den ρ v z := by
        intro hmx' hv
        cases hb : (Nat.ble l h && Nat.ble h len) with
        | false => rw [hb] at hv; cases hv
        | true =>
          rw [hb] at hv
          rw [Bool.and_eq_true] at hb
          have b1 := Nat.le_of_ble_eq_true hb.1
          have b2 := Nat.le_of_ble_eq_true hb.2
          simp only [cond_true] at hv
          cases hz : Nat.beq l 0 with
          | true =>
            have hz' := Nat.eq_of_beq_eq_true hz
            rw [hz] at hv
            subst hz'
            cases hv
            exact main off cap hmx' b1 (by omega) rfl gc (by simp)
          | false =>
            rw [hz] at hv
            simp only [cond_false] at hv
            cases hq : Nat.ble (l + 1) len with
            | false => rw [hq] at hv; cases hv
            | true =>
              rw [hq] at hv
              have hq := Nat.le_of_ble_eq_true hq
              cases hv
              refine main _ .any hmx' b1 (by omega) rfl trivial ?_
              rw [if_neg (by omega)]
      cases mx with
      | some m => cases hv
      | none =>
        cases cap with
        | known n0 =>
          have hkk : kk = n0 := gc
          subst hkk
          simp only [Option.map_none] at hv
          cases hb : (Nat.ble l h && Nat.ble h kk) with
          | false => rw [hb] at hv; cases hv
          | true =>
            rw [hb] at hv
            rw [Bool.and_eq_true] at hb
            have b1 := Nat.le_of_ble_eq_true hb.1
            have b2 := Nat.le_of_ble_eq_true hb.2
            cases hv
            refine main _ _ rfl b1 b2 rfl rfl ?_
            by_cases hkl : kk = l
            · subst hkl; simp
            · rw [if_neg hkl, nbeq hkl]; rfl
        | full => exact other rfl hv
        | any => exact other rfl hv
    · cases hv
end
end Go.Proofs.YtcdknjkkaonbiaaGreatDoor.Sx
