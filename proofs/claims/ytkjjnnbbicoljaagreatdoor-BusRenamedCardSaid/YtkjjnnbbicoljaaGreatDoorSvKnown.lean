/- What the runner over an abstract memory leans on in this program. -/
import Derived.Test.YtkjjnnbbicoljaaGreatDoorSvFit
import Derived.Lib.MakeNoZero
import Derived.Test.YtkjjnnbbicoljaaGreatDoorProg
namespace Go.Proofs.YtkjjnnbbicoljaaGreatDoor
open Go.RowKit Sv

theorem funcs_all {P : Program} {p : Func → Bool} (h : P.funcs.toList.all p = true) {f : FuncId} {fn : Func} (hf : P.funcs[f]? = some fn) : p fn = true :=
  List.all_eq_true.1 h fn (List.mem_of_getElem? (by simpa using hf))
theorem funcs_at {P : Program} {p : Func → Bool} {k : Nat} (h : (P.funcs.toList.zipIdx.all fun q => !p q.1 || Nat.beq q.2 k) = true) {f : FuncId} {fn : Func} (hf : P.funcs[f]? = some fn) (hp : p fn = true) : f = k := by
  have := List.all_eq_true.1 h (fn, f) (List.mk_mem_zipIdx_iff_getElem?.2 (by simpa using hf))
  simp only [hp, Bool.not_true, Bool.false_or] at this
  exact Nat.eq_of_beq_eq_true this
set_option maxRecDepth 100000
theorem noGo : (Tryz.prog.funcs.toList.all fun fn => !(fn.body.isSome && fn.name == "runtime.NumGoroutine")) = true := by kernel_rfl
theorem atNoEscape : (Tryz.prog.funcs.toList.zipIdx.all fun q => !(q.1.body.isNone && q.1.name == "internal/abi.NoEscape") || Nat.beq q.2 212) = true := by kernel_rfl
theorem atMakeNoZero : (Tryz.prog.funcs.toList.zipIdx.all fun q => !(q.1.body.isNone && q.1.name == "internal/bytealg.MakeNoZero") || Nat.beq q.2 251) = true := by kernel_rfl
theorem findNoEscape : (Tryz.prog.funcs[212]?).bind (fun fn => Extern.find fn) = some Extern.AbiNoEscape.same := by kernel_rfl
theorem nextNoEscape : (Tryz.prog.funcs[212]?).map (fun fn => (Extern.findNext fn).isNone) = some true := by kernel_rfl
theorem findMakeNoZero : (Tryz.prog.funcs[251]?).bind (fun fn => Extern.find fn) = (Tryz.prog.funcs[251]?).map (fun fn => Extern.BytealgMakeNoZero.makeNoZero fn.params fn.resultTypes) := by kernel_rfl
theorem nextMakeNoZero : (Tryz.prog.funcs[251]?).map (fun fn => (Extern.findNext fn).isNone) = some true := by kernel_rfl
theorem oneMakeNoZero : (Tryz.prog.funcs[251]?).map (fun fn => fn.resultTypes.size) = some 1 := by kernel_rfl
theorem mixed : Tryz.prog.follows .mixedOrders = true := by kernel_rfl

theorem known : Known Tryz.prog where
  noGo f fn hf hb := by
    have := funcs_all noGo hf
    simpa [hb] using this
  noEscape f fn hf hb hn x w := by
    have e := funcs_at (p := fun fn => fn.body.isNone && fn.name == "internal/abi.NoEscape") atNoEscape hf (by simp only [hb, hn]; rfl)
    subst e
    have h1 := findNoEscape
    have h2 := nextNoEscape
    rw [hf] at h1 h2
    simp only [Option.bind_some, Option.map_some, Option.some.injEq, Option.isNone_iff_eq_none] at h1 h2
    have hname : (fn.name == "runtime.NumGoroutine") = false := by
      rw [eq_of_beq hn]; rfl
    rw [run_callFunc_extern hf hname (by rw [hb]; rfl) h2 h1]
    rfl
  makeNoZero f fn t el hf hb hn ht hu n w hle := by
    have e := funcs_at (p := fun fn => fn.body.isNone && fn.name == "internal/bytealg.MakeNoZero") atMakeNoZero hf (by simp only [hb, hn]; rfl)
    subst e
    have h1 := findMakeNoZero
    have h2 := nextMakeNoZero
    have h3 := oneMakeNoZero
    rw [hf] at h1 h2 h3
    simp only [Option.bind_some, Option.map_some, Option.some.injEq, Option.isNone_iff_eq_none] at h1 h2 h3
    have hname : (fn.name == "runtime.NumGoroutine") = false := by
      rw [eq_of_beq hn]; rfl
    have hr : fn.resultTypes = #[t] := by
      apply Array.ext
      · exact h3
      · intro i hi1 hi2
        have : i = 0 := by simp at hi2; exact hi2
        subst this
        simpa [Array.getElem?_eq_getElem hi1] using ht
    rw [hr] at h1
    obtain ⟨cs, k1, k2, _⟩ := Lib.run_makeNoZero (P := Tryz.prog) w fn.params t el hu n (by omega)
    refine ⟨cs, k2, ?_⟩
    rw [run_callFunc_extern hf hname (by rw [hb]; rfl) h2 h1, k1]
    rfl
end Go.Proofs.YtkjjnnbbicoljaaGreatDoor
