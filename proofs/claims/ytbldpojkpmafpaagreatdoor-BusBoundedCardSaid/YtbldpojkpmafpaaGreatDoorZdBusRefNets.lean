/- What the runner over an abstract memory leans on in this program. -/
import Derived.Test.YtbldpojkpmafpaaGreatDoorZdSvFit
import Derived.Lib.MakeNoZero
import Derived.Test.YtbldpojkpmafpaaGreatDoorProg
import Derived.Test.YtbldpojkpmafpaaGreatDoorZdSvUse
import Derived.Test.YtbldpojkpmafpaaGreatDoorZdLayKit
import Derived.Test.YtbldpojkpmafpaaGreatDoorZdBusTaps
namespace Go.Proofs.YtbldpojkpmafpaaGreatDoor
open Go.RowKit Sv

theorem funcs_all {P : Program} {p : Func → Bool} (h : P.funcs.toList.all p = true) {f : FuncId} {fn : Func} (hf : P.funcs[f]? = some fn) : p fn = true :=
  List.all_eq_true.1 h fn (List.mem_of_getElem? (by simpa using hf))
theorem funcs_at {P : Program} {p : Func → Bool} {k : Nat} (h : (P.funcs.toList.zipIdx.all fun q => !p q.1 || Nat.beq q.2 k) = true) {f : FuncId} {fn : Func} (hf : P.funcs[f]? = some fn) (hp : p fn = true) : f = k := by
  have := List.all_eq_true.1 h (fn, f) (List.mk_mem_zipIdx_iff_getElem?.2 (by simpa using hf))
  simp only [hp, Bool.not_true, Bool.false_or] at this
  exact Nat.eq_of_beq_eq_true this
set_option maxRecDepth 100000
theorem noGo : (Tryz.prog.funcs.toList.all fun fn => !(fn.body.isSome && fn.name == "runtime.NumGoroutine")) = true := by kernel_rfl
theorem atNoEscape : (Tryz.prog.funcs.toList.zipIdx.all fun q => !(q.1.body.isNone && q.1.name == "internal/abi.NoEscape") || Nat.beq q.2 204) = true := by kernel_rfl
theorem atMakeNoZero : (Tryz.prog.funcs.toList.zipIdx.all fun q => !(q.1.body.isNone && q.1.name == "internal/bytealg.MakeNoZero") || Nat.beq q.2 243) = true := by kernel_rfl
theorem findNoEscape : (Tryz.prog.funcs[204]?).bind (fun fn => Extern.find fn) = some Extern.AbiNoEscape.same := by kernel_rfl
theorem nextNoEscape : (Tryz.prog.funcs[204]?).map (fun fn => (Extern.findNext fn).isNone) = some true := by kernel_rfl
theorem findMakeNoZero : (Tryz.prog.funcs[243]?).bind (fun fn => Extern.find fn) = (Tryz.prog.funcs[243]?).map (fun fn => Extern.BytealgMakeNoZero.makeNoZero fn.params fn.resultTypes) := by kernel_rfl
theorem nextMakeNoZero : (Tryz.prog.funcs[243]?).map (fun fn => (Extern.findNext fn).isNone) = some true := by kernel_rfl
theorem oneMakeNoZero : (Tryz.prog.funcs[243]?).map (fun fn => fn.resultTypes.size) = some 1 := by kernel_rfl
theorem mixed : Tryz.prog.follows .mixedOrders = true := by kernel_rfl

theorem known : Known Tryz.prog where
  noGo f fn hf hb := by
    have := funcs_all noGo hf
    simpa [hb] using this
  noEscape f fn hf hb hn x w := by
    have e := funcs_at (p := fun fn => fn.body.isNone && fn.name == "internal/abi.NoEscape") atNoEscape hf (by simp only [hb, hn]; rfl)
    subst e
    have h1 := findNoEscape
    have h2 := nextNoEscape
    rw [hf] at h1 h2
    simp only [Option.bind_some, Option.map_some, Option.some.injEq, Option.isNone_iff_eq_none] at h1 h2
    have hname : (fn.name == "runtime.NumGoroutine") = false := by
      rw [eq_of_beq hn]; rfl
    rw [run_callFunc_extern hf hname (by rw [hb]; rfl) h2 h1]
    rfl
  makeNoZero f fn t el hf hb hn ht hu n w hle := by
    have e := funcs_at (p := fun fn => fn.body.isNone && fn.name == "internal/bytealg.MakeNoZero") atMakeNoZero hf (by simp only [hb, hn]; rfl)
    subst e
    have h1 := findMakeNoZero
    have h2 := nextMakeNoZero
    have h3 := oneMakeNoZero
    rw [hf] at h1 h2 h3
    simp only [Option.bind_some, Option.map_some, Option.some.injEq, Option.isNone_iff_eq_none] at h1 h2 h3
    have hname : (fn.name == "runtime.NumGoroutine") = false := by
      rw [eq_of_beq hn]; rfl
    have hr : fn.resultTypes = #[t] := by
      apply Array.ext
      · exact h3
      · intro i hi1 hi2
        have : i = 0 := by simp at hi2; exact hi2
        subst this
        simpa [Array.getElem?_eq_getElem hi1] using ht
    rw [hr] at h1
    obtain ⟨cs, k1, k2, _⟩ := Lib.run_makeNoZero (P := Tryz.prog) w fn.params t el hu n (by omega)
    refine ⟨cs, k2, ?_⟩
    rw [run_callFunc_extern hf hname (by rw [hb]; rfl) h2 h1, k1]
    rfl
end Go.Proofs.YtbldpojkpmafpaaGreatDoor

/- The reference of package bus and the law's own words: In, count, SameInts, ints: what they return for plain data. -/
namespace Go.Proofs.YtbldpojkpmafpaaGreatDoor
open Go.RowKit Sv
set_option maxRecDepth 100000
set_option linter.unusedVariables false
noncomputable section
abbrev iv (x : Int) : AV := .raw (.int .i64 x)
abbrev bv (x : Bool) : AV := .raw (.bool x)
abbrev nilI : List Int := []
abbrev lv (l : List Int) : AV := .lst false (.int .i64) l
theorem getD_lt {l : List Int} {k : Nat} (h : k < l.length) : l.getD k 0 = l[k] := by simp [List.getD_eq_getElem?_getD, h]
theorem take_next {l : List Int} {k : Nat} (h : k < l.length) : l.take (k + 1) = l.take k ++ [l.getD k 0] := by rw [getD_lt h]; simp
theorem bounded_of {n b : Nat} (h : n ≤ 1000000) (hb : b ≤ 1000000) : bounded n b = true := by
  unfold bounded
  have := Nat.mul_le_mul h hb
  rw [Nat.ble_eq_true_of_le (by omega), Nat.ble_eq_true_of_le (by omega)]; rfl

def BIn : Code := (Tryz.f58.body).getD .skip
def SIn (l : List Int) (x : Int) (k : Nat) : St := { n := 18, sl := [(0, lv l), (1, iv x), (5, iv k)], en := [], next := 64 }
theorem In_start (l : List Int) (x : Int)  :
    Tst.path (vrun0 Tryz.prog (ctrs []) (fl BIn []) 2 18 [lv l, iv x]) [] (toSt Tryz.prog 18 .normal [] (SIn l x 0)) := by
  have eTst : (Tst.path (vrun0 Tryz.prog (ctrs []) (fl BIn []) 2 18 [lv l, iv x]) [] (toSt Tryz.prog 18 .normal [] (SIn l x 0))) = (((l) = (l)) ∧ ((x) = (x)) ∧ (((0 : Int)) = ((↑(0 : Nat) : Int))) ∧ True) := by kernel_rfl
  exact eTst.mpr ⟨rfl, ⟨rfl, ⟨rfl, trivial⟩⟩⟩
theorem In_go (l : List Int) (x : Int) (k : Nat) (h1 : (↑k : Int) < (↑(List.length l) : Int)) (h2 : k < List.length l) (h3 : ¬List.getD l k (0 : Int) = x) (h4 : -9223372036854775808 ≤ (↑k : Int) + (1 : Int) ∧ (↑k : Int) + (1 : Int) ≤ 9223372036854775807) :
    Tst.path (vall Tryz.prog (ctrs []) (fl BIn [1,0,1,0,0]) (SIn l x k)) [true, false] (toSt Tryz.prog 18 .normal [] (SIn l x (k + 1))) := by
  have eTst : (Tst.path (vall Tryz.prog (ctrs []) (fl BIn [1,0,1,0,0]) (SIn l x k)) [true, false] (toSt Tryz.prog 18 .normal [] (SIn l x (k + 1)))) = (((decide ((↑k : Int) < (↑(List.length l) : Int))) = true) ∧ ((decide ((0 : Int) ≤ (↑k : Int))) = true) ∧ ((decide (k < List.length l)) = true) ∧ ((List.getD l k (0 : Int) == x) = false) ∧ ((fits IntKind.i64 ((↑k : Int) + (1 : Int))) = true) ∧ ((l) = (l)) ∧ ((x) = (x)) ∧ (((↑k : Int) + (1 : Int)) = ((↑(k + (1 : Nat)) : Int))) ∧ True) := by kernel_rfl
  exact eTst.mpr ⟨decide_eq_true h1, ⟨decide_eq_true (by omega), ⟨decide_eq_true h2, ⟨beq_eq_false_iff_ne.mpr h3, ⟨fits_i64 h4, ⟨rfl, ⟨rfl, ⟨(by omega), trivial⟩⟩⟩⟩⟩⟩⟩⟩
theorem In_hit (l : List Int) (x : Int) (k : Nat) (h1 : (↑k : Int) < (↑(List.length l) : Int)) (h2 : k < List.length l) (h3 : List.getD l k (0 : Int) = x) :
    Tst.path (vall Tryz.prog (ctrs []) (fl BIn [1,0,1,0,0]) (SIn l x k)) [true, true] (toRet Tryz.prog Tryz.f58 true (bv true)) := by
  have eTst : (Tst.path (vall Tryz.prog (ctrs []) (fl BIn [1,0,1,0,0]) (SIn l x k)) [true, true] (toRet Tryz.prog Tryz.f58 true (bv true))) = (((decide ((↑k : Int) < (↑(List.length l) : Int))) = true) ∧ ((decide ((0 : Int) ≤ (↑k : Int))) = true) ∧ ((decide (k < List.length l)) = true) ∧ ((List.getD l k (0 : Int) == x) = true) ∧ (true) = true) := by kernel_rfl
  exact eTst.mpr ⟨decide_eq_true h1, ⟨decide_eq_true (by omega), ⟨decide_eq_true h2, ⟨beq_iff_eq.mpr h3, rfl⟩⟩⟩⟩
theorem In_end (l : List Int) (x : Int) (k : Nat) (h1 : ¬(↑k : Int) < (↑(List.length l) : Int)) :
    Tst.path (vall Tryz.prog (ctrs []) (fl BIn [1,0,1,0,0]) (SIn l x k)) [false] (toSt Tryz.prog 18 (.exit 0) [] (SIn l x k)) := by
  have eTst : (Tst.path (vall Tryz.prog (ctrs []) (fl BIn [1,0,1,0,0]) (SIn l x k)) [false] (toSt Tryz.prog 18 (.exit 0) [] (SIn l x k))) = (((decide ((↑k : Int) < (↑(List.length l) : Int))) = false) ∧ ((l) = (l)) ∧ ((x) = (x)) ∧ (((↑k : Int)) = ((↑k : Int))) ∧ True) := by kernel_rfl
  exact eTst.mpr ⟨decide_eq_false h1, ⟨rfl, ⟨rfl, ⟨rfl, trivial⟩⟩⟩⟩
theorem In_no (l : List Int) (x : Int) (k : Nat)  :
    Tst.path (vall Tryz.prog (ctrs []) (List.drop 3 (fl BIn [])) (SIn l x k)) [] (toRet Tryz.prog Tryz.f58 true (bv false)) := by
  have eTst : (Tst.path (vall Tryz.prog (ctrs []) (List.drop 3 (fl BIn [])) (SIn l x k)) [] (toRet Tryz.prog Tryz.f58 true (bv false))) = ((false) = false) := by kernel_rfl
  exact eTst.mpr rfl
theorem none_ok : CallOk Tryz.prog (gS (ctrs [])) := ctrs_ok (l := []) fun c h => by cases h
theorem In_holds (l : List Int) (x : Int) (hl : l.length ≤ 1000000) : Holds Tryz.prog true 58 [lv l, iv x] (bv (decide (x ∈ l))) := by
  have hS := none_ok
  refine holds_fl (c := BIn) Tryz.func58 rfl rfl fun w F => ?_
  refine GoalL.to known mixed hS 2 [] (In_start l x) (by kernel_rfl) ?_
  refine GoalL.loop (ι := { k : Nat // k ≤ l.length ∧ x ∉ l.take k }) (id := 0) (b := cat BIn [1,0,1,0,0]) (rest := List.drop 3 (fl BIn [])) (by kernel_rfl) (fun k => SIn l x k.1) (fun k => l.length - k.1) ⟨0, Nat.zero_le _, by simp⟩ (fun _ => rfl) ?_
  rintro ⟨k, hk, hx⟩
  by_cases hlt : k < l.length
  · by_cases hh : l.getD k 0 = x
    · refine GoalL.allRet (s := SIn l x k) known mixed hS _ (In_hit l x k (by omega) (by omega) hh) fun T H h => ?_
      have hm : x ∈ l := by rw [← hh, getD_lt hlt]; exact List.getElem_mem _
      rw [decide_eq_true hm]; exact h
    · refine GoalL.all (s := SIn l x k) known mixed hS _ (In_go l x k (by omega) (by omega) hh (by omega)) (by kernel_rfl) ?_
      exact ⟨⟨k + 1, hlt, by rw [take_next hlt]; simp only [List.mem_append, List.mem_singleton]; exact fun h => h.elim hx fun h => hh h.symm⟩, by simp; omega, rfl, rfl⟩
  · refine GoalL.all (s := SIn l x k) known mixed hS _ (In_end l x k (by omega)) (by kernel_rfl) ?_
    refine onN_exit (inB_exit ?_)
    obtain rfl : k = l.length := by omega
    rw [List.take_length] at hx
    refine GoalL.allRet (s := SIn l x l.length) known mixed hS _ (In_no l x _) fun T H h => ?_
    rw [decide_eq_false hx]; exact h
noncomputable def cIn : Ctr := { f := 58, ps := [.list false (.int .i64), .int .i64], rs := [.bool], fresh := true, pre := fun d => decide (List.length (α := Int) d.1 ≤ 1000000), fn := fun d => ((decide ((d.2.1 : Int) ∈ (d.1 : List Int)) : Bool), ()) }
theorem cIn_ok : cIn.Ok Tryz.prog := fun d h => In_holds d.1 d.2.1 (of_decide_eq_true h)
theorem one_ok {c : Ctr} (h : c.Ok Tryz.prog) : CallOk Tryz.prog (gS (ctrs [c])) := ctrs_ok fun c' hc => by rw [List.mem_singleton.1 hc]; exact h

def cntUp (l : List Int) : Nat → Nat
  | 0 => 0
  | k + 1 => if l.getD k 0 ∈ l.take k then cntUp l k else cntUp l k + 1
def BCount : Code := (Tryz.f60.body).getD .skip
def SCount (l : List Int) (c k : Nat) : St := { n := 23, sl := [(0, lv l), (3, iv c), (4, iv k)], en := [], next := 64 }
theorem count_start (l : List Int)  :
    Tst.path (vrun0 Tryz.prog (ctrs [cIn]) (fl BCount []) 3 23 [lv l]) [] (toSt Tryz.prog 23 .normal [] (SCount l 0 0)) := by
  have eTst : (Tst.path (vrun0 Tryz.prog (ctrs [cIn]) (fl BCount []) 3 23 [lv l]) [] (toSt Tryz.prog 23 .normal [] (SCount l 0 0))) = (((l) = (l)) ∧ (((0 : Int)) = ((↑(0 : Nat) : Int))) ∧ (((0 : Int)) = ((↑(0 : Nat) : Int))) ∧ True) := by kernel_rfl
  exact eTst.mpr ⟨rfl, ⟨rfl, ⟨rfl, trivial⟩⟩⟩
theorem count_new (l : List Int) (c k : Nat) (h1 : (↑k : Int) < (↑(List.length l) : Int)) (h2 : k ≤ List.length l) (h3 : k < List.length l) (h4 : List.length (List.drop (0 : Nat) (List.take k l)) ≤ (1000000 : Nat)) (h5 : ¬List.getD l k (0 : Int) ∈ List.drop (0 : Nat) (List.take k l)) (h6 : -9223372036854775808 ≤ (↑c : Int) + (1 : Int) ∧ (↑c : Int) + (1 : Int) ≤ 9223372036854775807) (h7 : -9223372036854775808 ≤ (↑k : Int) + (1 : Int) ∧ (↑k : Int) + (1 : Int) ≤ 9223372036854775807) :
    Tst.path (vall Tryz.prog (ctrs [cIn]) (fl BCount [1,1,0,1,0,0]) (SCount l c k)) [true, true] (toSt Tryz.prog 23 .normal [] (SCount l (c + 1) (k + 1))) := by
  have eTst : (Tst.path (vall Tryz.prog (ctrs [cIn]) (fl BCount [1,1,0,1,0,0]) (SCount l c k)) [true, true] (toSt Tryz.prog 23 .normal [] (SCount l (c + 1) (k + 1)))) = (((decide ((↑k : Int) < (↑(List.length l) : Int))) = true) ∧ ((decide ((0 : Int) ≤ (↑k : Int))) = true) ∧ ((decide ((0 : Nat) ≤ k)) = true) ∧ ((decide (k ≤ List.length l)) = true) ∧ ((decide ((0 : Int) ≤ (↑k : Int))) = true) ∧ ((decide (k < List.length l)) = true) ∧ ((AV.same (AV.raw (Value.int IntKind.i64 (List.getD l k (0 : Int)))) (AV.raw (Value.int IntKind.i64 (List.getD l k (0 : Int))))) = true) ∧ ((decide (List.length (List.drop (0 : Nat) (List.take k l)) ≤ (1000000 : Nat))) = true) ∧ ((!decide (List.getD l k (0 : Int) ∈ List.drop (0 : Nat) (List.take k l))) = true) ∧ ((fits IntKind.i64 ((↑c : Int) + (1 : Int))) = true) ∧ ((fits IntKind.i64 ((↑k : Int) + (1 : Int))) = true) ∧ ((l) = (l)) ∧ (((↑c : Int) + (1 : Int)) = ((↑(c + (1 : Nat)) : Int))) ∧ (((↑k : Int) + (1 : Int)) = ((↑(k + (1 : Nat)) : Int))) ∧ True) := by kernel_rfl
  exact eTst.mpr ⟨decide_eq_true h1, ⟨decide_eq_true (by omega), ⟨decide_eq_true (by omega), ⟨decide_eq_true h2, ⟨decide_eq_true (by omega), ⟨decide_eq_true h3, ⟨same_refl (by kernel_rfl), ⟨decide_eq_true h4, ⟨congrArg (fun y => !y) (show (decide (List.getD l k (0 : Int) ∈ List.drop (0 : Nat) (List.take k l))) = false from decide_eq_false h5), ⟨fits_i64 h6, ⟨fits_i64 h7, ⟨rfl, ⟨(by omega), ⟨(by omega), trivial⟩⟩⟩⟩⟩⟩⟩⟩⟩⟩⟩⟩⟩⟩
theorem count_old (l : List Int) (c k : Nat) (h1 : (↑k : Int) < (↑(List.length l) : Int)) (h2 : k ≤ List.length l) (h3 : k < List.length l) (h4 : List.length (List.drop (0 : Nat) (List.take k l)) ≤ (1000000 : Nat)) (h5 : List.getD l k (0 : Int) ∈ List.drop (0 : Nat) (List.take k l)) (h6 : -9223372036854775808 ≤ (↑k : Int) + (1 : Int) ∧ (↑k : Int) + (1 : Int) ≤ 9223372036854775807) :
    Tst.path (vall Tryz.prog (ctrs [cIn]) (fl BCount [1,1,0,1,0,0]) (SCount l c k)) [true, false] (toSt Tryz.prog 23 .normal [] (SCount l c (k + 1))) := by
  have eTst : (Tst.path (vall Tryz.prog (ctrs [cIn]) (fl BCount [1,1,0,1,0,0]) (SCount l c k)) [true, false] (toSt Tryz.prog 23 .normal [] (SCount l c (k + 1)))) = (((decide ((↑k : Int) < (↑(List.length l) : Int))) = true) ∧ ((decide ((0 : Int) ≤ (↑k : Int))) = true) ∧ ((decide ((0 : Nat) ≤ k)) = true) ∧ ((decide (k ≤ List.length l)) = true) ∧ ((decide ((0 : Int) ≤ (↑k : Int))) = true) ∧ ((decide (k < List.length l)) = true) ∧ ((AV.same (AV.raw (Value.int IntKind.i64 (List.getD l k (0 : Int)))) (AV.raw (Value.int IntKind.i64 (List.getD l k (0 : Int))))) = true) ∧ ((decide (List.length (List.drop (0 : Nat) (List.take k l)) ≤ (1000000 : Nat))) = true) ∧ ((!decide (List.getD l k (0 : Int) ∈ List.drop (0 : Nat) (List.take k l))) = false) ∧ ((fits IntKind.i64 ((↑k : Int) + (1 : Int))) = true) ∧ ((l) = (l)) ∧ (((↑c : Int)) = ((↑c : Int))) ∧ (((↑k : Int) + (1 : Int)) = ((↑(k + (1 : Nat)) : Int))) ∧ True) := by kernel_rfl
  exact eTst.mpr ⟨decide_eq_true h1, ⟨decide_eq_true (by omega), ⟨decide_eq_true (by omega), ⟨decide_eq_true h2, ⟨decide_eq_true (by omega), ⟨decide_eq_true h3, ⟨same_refl (by kernel_rfl), ⟨decide_eq_true h4, ⟨congrArg (fun y => !y) (show (decide (List.getD l k (0 : Int) ∈ List.drop (0 : Nat) (List.take k l))) = true from decide_eq_true h5), ⟨fits_i64 h6, ⟨rfl, ⟨rfl, ⟨(by omega), trivial⟩⟩⟩⟩⟩⟩⟩⟩⟩⟩⟩⟩⟩
theorem count_end (l : List Int) (c k : Nat) (h1 : ¬(↑k : Int) < (↑(List.length l) : Int)) :
    Tst.path (vall Tryz.prog (ctrs [cIn]) (fl BCount [1,1,0,1,0,0]) (SCount l c k)) [false] (toSt Tryz.prog 23 (.exit 0) [] (SCount l c k)) := by
  have eTst : (Tst.path (vall Tryz.prog (ctrs [cIn]) (fl BCount [1,1,0,1,0,0]) (SCount l c k)) [false] (toSt Tryz.prog 23 (.exit 0) [] (SCount l c k))) = (((decide ((↑k : Int) < (↑(List.length l) : Int))) = false) ∧ ((l) = (l)) ∧ (((↑c : Int)) = ((↑c : Int))) ∧ (((↑k : Int)) = ((↑k : Int))) ∧ True) := by kernel_rfl
  exact eTst.mpr ⟨decide_eq_false h1, ⟨rfl, ⟨rfl, ⟨rfl, trivial⟩⟩⟩⟩
theorem count_ret (l : List Int) (c k : Nat)  :
    Tst.path (vall Tryz.prog (ctrs [cIn]) (List.drop 4 (fl BCount [])) (SCount l c k)) [] (toRet Tryz.prog Tryz.f60 true (iv c)) := by
  have eTst : (Tst.path (vall Tryz.prog (ctrs [cIn]) (List.drop 4 (fl BCount [])) (SCount l c k)) [] (toRet Tryz.prog Tryz.f60 true (iv c))) = (((↑c : Int)) = ((↑c : Int))) := by kernel_rfl
  exact eTst.mpr rfl
theorem cntUp_le (l : List Int) : ∀ k, cntUp l k ≤ k
  | 0 => Nat.le_refl _
  | k + 1 => by
    have := cntUp_le l k
    unfold cntUp
    split <;> omega
theorem count_holds (l : List Int) (hl : l.length ≤ 1000000) : Holds Tryz.prog true 60 [lv l] (iv (cntUp l l.length)) := by
  have hS := one_ok cIn_ok
  refine holds_fl (c := BCount) Tryz.func60 rfl rfl fun w F => ?_
  refine GoalL.to known mixed hS 3 [] (count_start l) (by kernel_rfl) ?_
  refine GoalL.loop (ι := { k : Nat // k ≤ l.length }) (id := 0) (b := cat BCount [1,1,0,1,0,0]) (rest := List.drop 4 (fl BCount [])) (by kernel_rfl) (fun k => SCount l (cntUp l k.1) k.1) (fun k => l.length - k.1) ⟨0, Nat.zero_le _⟩ (fun _ => rfl) ?_
  rintro ⟨k, hk⟩
  have hc := cntUp_le l k
  by_cases hlt : k < l.length
  · by_cases hh : l.getD k 0 ∈ l.take k
    · refine GoalL.all (s := SCount l (cntUp l k) k) known mixed hS _ (count_old l _ k (by omega) (by omega) (by omega) (by simp; omega) hh (by omega)) (by kernel_rfl) ?_
      exact ⟨⟨k + 1, hlt⟩, by simp; omega, by show _ = (SCount l (cntUp l (k + 1)) (k + 1)).T; rw [cntUp, if_pos hh], rfl⟩
    · refine GoalL.all (s := SCount l (cntUp l k) k) known mixed hS _ (count_new l _ k (by omega) (by omega) (by omega) (by simp; omega) hh (by omega) (by omega)) (by kernel_rfl) ?_
      exact ⟨⟨k + 1, hlt⟩, by simp; omega, by show _ = (SCount l (cntUp l (k + 1)) (k + 1)).T; rw [cntUp, if_neg hh], rfl⟩
  · refine GoalL.all (s := SCount l (cntUp l k) k) known mixed hS _ (count_end l _ k (by omega)) (by kernel_rfl) ?_
    refine onN_exit (inB_exit ?_)
    obtain rfl : k = l.length := by omega
    exact GoalL.allRet (s := SCount l (cntUp l l.length) l.length) known mixed hS _ (count_ret l _ _) fun T H h => h
noncomputable def cCount : Ctr := { f := 60, ps := [.list false (.int .i64)], rs := [.int .i64], fresh := true, pre := fun d => decide (List.length (α := Int) d.1 ≤ 1000000), fn := fun d => (((cntUp d.1 (List.length (α := Int) d.1) : Nat) : Int), ()) }
theorem cCount_ok : cCount.Ok Tryz.prog := fun d h => count_holds d.1 (of_decide_eq_true h)
end
end Go.Proofs.YtbldpojkpmafpaaGreatDoor

/- Plain data of the runner's, as the contracts of package bus have them: integers, nets. -/
namespace Go.Proofs.YtbldpojkpmafpaaGreatDoor
open Go.RowKit Sv

abbrev tInt : Ty := .int .i64
abbrev tInts : Ty := .list false tInt
abbrev tNet : Ty := .pair tInt tInts
theorem flat_ints (xs : List Int) : Ty.flat tInt xs = (xs.map (Value.int .i64)).map AV.raw := by
  induction xs with
  | nil => rfl
  | cons x r ih => rw [Ty.flat_cons, ih]; rfl
theorem dens_raws {F : Env} : ∀ {vs ys : List Value}, Dens F (vs.map AV.raw) ys → ys = vs
  | [], _, h => by cases h; rfl
  | v :: vs, _, h => by
    cases h with
    | cons h1 h2 => rw [h1.raw_eq, dens_raws h2]
theorem row_of_cells {w : World} {b off : Nat} {A : Array Value} {e : TypeId} {fr : Nat × Nat} {ys : List Value} (hb : w.heap[b]? = some (.cells A e fr)) (hy : (A.toList.drop off).take ys.length = ys) : Row w w.heap.size (some ⟨b, off, none⟩) ys := by
  refine .inr ⟨b, off, rfl, (Array.getElem?_eq_some_iff.1 hb).1, fun i hi => ?_⟩
  rw [cell_of hb]
  have h1 : ys[i]? = some ys[i] := List.getElem?_eq_getElem hi
  have h2 : ((A.toList.drop off).take ys.length)[i]? = some ys[i] := by rw [hy]; exact h1
  rw [List.getElem?_take, if_pos hi, List.getElem?_drop] at h2
  rw [List.getD_eq_getElem?_getD, h1]
  simpa using h2
theorem den_row {F : Env} {w : World} {z : Bool} {t : Ty} {xs : List t.den} {x : Value} (hF : OkF w F) (h : Den F (.lst z t xs) x) :
    ∃ A c ys, x = .slice A xs.length c ∧ xs.length ≤ c ∧ Dens F (t.flat xs) ys ∧ Row w w.heap.size A ys := by
  rcases h.lst_inv with ⟨rfl, a, k, rfl, _⟩ | ⟨b, off, k, A, h1, h2, h3, h4, rfl, _⟩
  · exact ⟨a, k, [], rfl, Nat.zero_le _, .nil, .inl rfl⟩
  · obtain ⟨e, fr, hb⟩ := hF.fz b A h1
    refine ⟨_, k, _, rfl, h4, h3, row_of_cells hb ?_⟩
    rw [h3.length]
theorem den_ints {F : Env} {w : World} {xs : List Int} {x : Value} (hF : OkF w F) (h : Den F (.lst false tInt xs) x) : ∃ A c, x = .slice A xs.length c ∧ xs.length ≤ c ∧ Row w w.heap.size A (xs.map (Value.int .i64)) := by
  obtain ⟨A, c, ys, h1, h2, h3, h4⟩ := den_row hF h
  rw [flat_ints] at h3
  rw [dens_raws h3] at h4
  exact ⟨A, c, h1, h2, h4⟩
theorem dens_net {F : Env} {w : World} (hF : OkF w F) : ∀ {nets : List (Int × List Int)} {ys : List Value}, Dens F (Ty.flat tNet nets) ys → ∃ l : List NetAt, l.map NetAt.net = nets ∧ ys = ncells l ∧ ∀ n ∈ l, Row w w.heap.size n.loc (n.cols.map (Value.int .i64))
  | [], ys, h => by cases h; exact ⟨[], rfl, rfl, fun _ h => by cases h⟩
  | n :: nets, ys, h => by
    have e : Ty.flat tNet (n :: nets) = .raw (.int .i64 n.1) :: .lst false tInt n.2 :: Ty.flat tNet nets := rfl
    rw [e] at h
    cases h with
    | cons h1 h2 =>
      cases h2 with
      | cons h2 h3 =>
        obtain ⟨l, g1, g2, g3⟩ := dens_net hF h3
        obtain ⟨A, c, rfl, _, g4⟩ := den_ints hF h2
        refine ⟨⟨n.1, n.2, A, c⟩ :: l, by rw [List.map_cons, g1]; rfl, by rw [h1.raw_eq, g2]; rfl, fun m hm => ?_⟩
        rcases List.mem_cons.1 hm with rfl | hm
        · exact g4
        · exact g3 m hm
def GoodNets (nets : List (Int × List Int)) : Prop := ∀ n ∈ nets, (I64 n.1 ∧ ∀ c ∈ n.2, I64 c) ∧ n.2.length ≤ 140737488355328
theorem den_nets {F : Env} {w : World} {nets : List (Int × List Int)} {x : Value} (hF : OkF w F) (hg : GoodNets nets) (h : Den F (.lst false tNet nets) x) :
    ∃ A c l, x = .slice A (l : List NetAt).length c ∧ l.map NetAt.net = nets ∧ NetsIn w w.heap.size A l := by
  obtain ⟨A, c, ys, rfl, _, h3, h4⟩ := den_row hF h
  obtain ⟨l, g1, rfl, g3⟩ := dens_net hF h3
  have hlen : nets.length = l.length := by rw [← g1, List.length_map]
  refine ⟨A, c, l, by rw [hlen], g1, ⟨h4, g3, fun n hn => ?_, fun n hn => ?_⟩⟩
  · exact (hg n.net (by rw [← g1]; exact List.mem_map_of_mem hn)).2
  · exact (hg n.net (by rw [← g1]; exact List.mem_map_of_mem hn)).1
theorem ints_den {w' : World} {n0 : Nat} {at' : Nat → Option (Nat × Nat)} {xs : List Int} {A : Option Addr} {c : Nat} (h : Row w' w'.heap.size A (xs.map (Value.int .i64))) (hf : xs = [] ∨ FreshA n0 A) (hc : xs.length ≤ c) :
    Den ⟨at', fun b => if n0 ≤ b then cellsOf? w' b else none⟩ (.lst false tInt xs) (.slice A xs.length c) := by
  by_cases hx : xs = []
  · subst hx; exact .lstNil fun e => by cases e
  · have hf := hf.resolve_left hx
    rcases h with h | ⟨b, off, rfl, hlt, hcs⟩
    · exact absurd (List.map_eq_nil_iff.1 h) hx
    · have hb := hf b off rfl
      have hpos : 0 < xs.length := List.length_pos_iff.2 hx
      have h0 := hcs 0 (by simpa using hpos)
      cases ho : w'.heap[b]? with
      | none => simp [World.cell?, ho] at h0
      | some o =>
        cases o with
        | cells Arr e fr =>
          have hall : ∀ i, i < xs.length → Arr[off + i]? = some (Value.int .i64 (xs.getD i 0)) := fun i hi => by
            have := hcs i (by simpa using hi)
            rw [cell_of ho] at this
            rw [this]
            simp [List.getD_eq_getElem?_getD, List.getElem?_eq_getElem hi]
          have hlen : (Ty.flat tInt xs).length = xs.length := by rw [flat_ints]; simp
          have hsz : off + xs.length ≤ Arr.size := by
            have := hall (xs.length - 1) (by omega)
            have := (Array.getElem?_eq_some_iff.1 this).1
            omega
          have hys : (Arr.toList.drop off).take (Ty.flat tInt xs).length = xs.map (Value.int .i64) := by
            rw [hlen]
            apply List.ext_getElem?
            intro i
            rw [List.getElem?_take]
            by_cases hi : i < xs.length
            · rw [if_pos hi, List.getElem?_drop]
              have := hall i hi
              simp only [Array.getElem?_toList, this]
              simp [List.getD_eq_getElem?_getD, List.getElem?_eq_getElem hi]
            · rw [if_neg hi, List.getElem?_eq_none (by simp; omega)]
          refine .lst (A := Arr) (b := b) (off := off) ?_ (by rw [hlen]; exact hsz) hys (by rw [flat_ints]; exact Dens.raws _) hc fun e => by cases e
          show (if n0 ≤ b then cellsOf? w' b else none) = some Arr
          rw [if_pos hb]; exact cellsOf?_some.2 ⟨e, fr, ho⟩
        | _ => simp [World.cell?, ho] at h0
theorem holds_raw {f : FuncId} {args : List AV} {v : Value} {fresh : Bool} (h : ∀ (w : World) (F : Env) (xs : List Value), OkF w F → Dens F args xs → Calls Tryz.prog f xs.toArray w fun e w' => e = .returned v ∧ Below w.heap.size w w') : Holds Tryz.prog fresh f args (.raw v) := fun w F xs hF hd =>
  (h w F xs hF hd).mono fun e w' ⟨h1, h2⟩ => ⟨v, ⟨F.at', fun _ => none⟩, h1, .raw v, ⟨hF.glob, hF.all, fun b A h => by cases h⟩, (fun b A h => by cases h), h2⟩
end Go.Proofs.YtbldpojkpmafpaaGreatDoor

/- The reference of chapter 7: membership, positions, the checks of an order and of nets, extents, the length. -/
namespace Go.Proofs.YtbldpojkpmafpaaGreatDoor
open Go.RowKit

theorem Row.take {w : World} {B n : Nat} {A : Option Addr} {vs : List Value} (h : Row w B A vs) : Row w B A (vs.take n) := by
  rcases h with rfl | ⟨b, off, rfl, hb, hc⟩
  · exact .inl (by simp)
  · refine .inr ⟨b, off, rfl, hb, fun i hi => ?_⟩
    rw [List.length_take] at hi
    rw [hc i (by omega), List.getD_eq_getElem?_getD, List.getD_eq_getElem?_getD, List.getElem?_take_of_lt (by omega)]

set_option maxRecDepth 100000 in
theorem In_any (A : Option Addr) (c B : Nat) (xs : List Int) (x : Int) (w : World) (hl : xs.length ≤ 1000000) (h : Row w B A (xs.map (Value.int .i64))) :
    Calls Tryz.prog 58 #[.slice A xs.length c, .int .i64 x] w fun e w' => e = .returned (.bool (decide (x ∈ xs))) ∧ w = w' := by
  have H := Lib.hid h
  clear h
  obtain ⟨r, hr⟩ : ∃ r, decide (x ∈ xs) = r := ⟨_, rfl⟩
  rw [hr]
  have HR := Lib.hid hr
  clear hr
  go_enter Tryz.func58, Tryz.ntmps58
  go_wp2_with fail
  go_loop [5] (fun i => ∃ k : Nat, k ≤ xs.length ∧ i = .int .i64 k ∧ x ∉ xs.take k) (fun i => xs.length - (intOf i).toNat)
  case atStart => exact ⟨0, Nat.zero_le _, rfl, by simp⟩
  case round =>
    obtain ⟨k, hk, rfl, hpre⟩ := hrel
    have HP := Lib.hid hpre
    clear hpre
    by_cases hlt : k < xs.length
    · obtain ⟨b, off, y, rfl, hbB, hy, hc⟩ := H.out.int k hlt
      have HY := Lib.hid hy
      clear hy
      by_cases hxy : y = x
      · subst hxy
        have HF := Lib.hid (show true = r by rw [← HR.out]; symm; exact decide_eq_true (List.mem_of_getElem? HY.out))
        go_wp2_with fail
        go_ret
        exact ⟨by rw [← HF.out]; rfl, rfl⟩
      · have hne : (y == x) = false := by rw [beq_eq_false_iff_ne]; exact hxy
        go_wp2_with fail
        go_round
        case rel => exact ⟨k + 1, by omega, by go_num, by
          rw [List.take_add_one, HY.out]
          intro hm
          rcases List.mem_append.1 hm with h | h
          · exact HP.out h
          · simp at h; exact hxy h.symm⟩
        case measure => simp [intOf]; omega
    · obtain rfl : k = xs.length := by omega
      have HF := Lib.hid (show false = r by
        rw [← HR.out]; symm; apply decide_eq_false
        have := HP.out
        rwa [List.take_length] at this)
      go_wp2_with fail
      go_ret
      exact ⟨by rw [← HF.out]; rfl, rfl⟩

set_option maxRecDepth 100000 in
theorem position_any (A : Option Addr) (c B : Nat) (xs : List Int) (x : Int) (w : World) (hl : xs.length ≤ 1000000) (h : Row w B A (xs.map (Value.int .i64))) :
    Calls Tryz.prog 62 #[.slice A xs.length c, .int .i64 x] w fun e w' => e = .returned (.int .i64 (Bus.pos xs x)) ∧ w = w' := by
  have H := Lib.hid h
  clear h
  obtain ⟨r, hr⟩ : ∃ r, Bus.pos xs x = r := ⟨_, rfl⟩
  rw [hr]
  have HR := Lib.hid hr
  clear hr
  go_enter Tryz.func62, Tryz.ntmps62
  go_wp2_with fail
  go_loop [5] (fun i => ∃ k : Nat, k ≤ xs.length ∧ i = .int .i64 k ∧ Bus.posFrom k (xs.drop k) x = r) (fun i => xs.length - (intOf i).toNat)
  case atStart => exact ⟨0, Nat.zero_le _, rfl, HR.out⟩
  case round =>
    obtain ⟨k, hk, rfl, hpre⟩ := hrel
    have HP := Lib.hid hpre
    clear hpre
    by_cases hlt : k < xs.length
    · obtain ⟨b, off, y, rfl, hbB, hy, hc⟩ := H.out.int k hlt
      have hd : xs.drop k = y :: xs.drop (k + 1) := by
        rw [List.drop_eq_getElem_cons hlt]
        rw [List.getElem?_eq_getElem hlt] at hy
        rw [Option.some.inj hy]
      have hp := HP.out
      rw [hd] at hp
      unfold Bus.posFrom at hp
      clear hy hd
      by_cases hxy : y = x
      · rw [if_pos hxy] at hp
        have hne : (y == x) = true := by rw [beq_iff_eq]; exact hxy
        have HF := Lib.hid hp
        clear hp HP
        go_wp2_with fail
        go_ret
        exact ⟨ret_i64 HF.out, rfl⟩
      · rw [if_neg hxy] at hp
        have hne : (y == x) = false := by rw [beq_eq_false_iff_ne]; exact hxy
        have HF := Lib.hid (show Bus.posFrom ((k + 1 : Nat) : Int) (xs.drop (k + 1)) x = r from hp)
        clear hp HP
        go_wp2_with fail
        go_round
        case rel => exact ⟨k + 1, by omega, by go_num, HF.out⟩
        case measure => simp [intOf]; omega
    · obtain rfl : k = xs.length := by omega
      have HF := Lib.hid (show (-1 : Int) = r by rw [← HP.out, List.drop_length]; rfl)
      go_wp2_with fail
      go_ret
      exact ⟨ret_i64 HF.out, rfl⟩

set_option maxHeartbeats 2000000 in
set_option maxRecDepth 100000 in
theorem refOrder_any (A : Option Addr) (c B : Nat) (order : List Int) (n : Int) (w : World) (hl : order.length ≤ 1000000) (hc : order.length ≤ c) (h : Row w B A (order.map (Value.int .i64))) (hB : B ≤ w.heap.size) :
    Calls Tryz.prog 23 #[.int .i64 n, .slice A order.length c] w fun e w' => e = .returned (.int .i64 (Bus.orderErr order n)) ∧ Below w.heap.size w w' := by
  have H := Lib.hid h
  clear h
  by_cases hn : (order.length : Int) = n
  · have hne : ((order.length : Int) != n) = false := by simp [hn]
    obtain ⟨r, hr⟩ : ∃ r, Bus.orderFrom n [] order = r := ⟨_, rfl⟩
    have e : Bus.orderErr order n = r := by unfold Bus.orderErr; rw [if_neg (by omega), hr]
    rw [e]
    have HR := Lib.hid hr
    clear e hr hn
    go_enter Tryz.func23, Tryz.ntmps23
    go_wp2_with fail
    go_loopw [5] (fun i wr => ∃ k : Nat, k ≤ order.length ∧ i = .int .i64 k ∧ Bus.orderFrom n (order.take k) (order.drop k) = r ∧ Below w.heap.size w wr) (fun i _ => order.length - (intOf i).toNat)
    case atStart => exact ⟨0, Nat.zero_le _, rfl, HR.out, Below.refl _ _⟩
    case round =>
      obtain ⟨k, hk, rfl, hpre, eb⟩ := hrel
      have hsz := eb.size
      have HP := Lib.hid hpre
      clear hpre
      by_cases hlt : k < order.length
      · have hrowk := H.out.take (n := k)
        rw [← List.map_take] at hrowk
        obtain ⟨b, off, x, rfl, hbB, hx, hc1⟩ := H.out.int k hlt
        have hck := (eb.cell (p := ⟨b, off + k, none⟩) (by show b < _; omega)).trans hc1
        have hd : order.drop k = x :: order.drop (k + 1) := by
          rw [List.drop_eq_getElem_cons hlt]
          rw [List.getElem?_eq_getElem hlt] at hx
          rw [Option.some.inj hx]
        have HT := Lib.hid (show order.take (k + 1) = order.take k ++ [x] by rw [List.take_add_one, hx]; rfl)
        have hp := HP.out
        rw [hd] at hp
        unfold Bus.orderFrom at hp
        have hin : ∀ m, Calls Tryz.prog 58 #[.slice (some ⟨b, off, none⟩) k c, .int .i64 x] (wr.drewN m) fun e w' => e = .returned (.bool (decide (x ∈ order.take k))) ∧ w' = wr.drewN m := fun m => by
          have h := In_any (some ⟨b, off, none⟩) c B (order.take k) x (wr.drewN m) (by rw [List.length_take]; omega) ((hrowk.below eb hB).drewN m)
          rw [List.length_take, Nat.min_eq_left hk] at h
          exact h.mono fun _ _ h => ⟨h.1, h.2.symm⟩
        clear hx hd hc1 hrowk
        by_cases hx0 : x < 0
        · rw [if_pos (Or.inl hx0)] at hp
          have HN := Lib.hid hp
          clear hp HP hin
          go_wp2_with fail
          all_goals (go_ret; exact ⟨ret_i64 HN.out, (by repeat (first | with_reducible exact Below.refl _ _ | with_reducible assumption | with_reducible refine Below.setCell ?_ (by first | omega | (simp; done) | (simp; omega)) _ | with_reducible refine below_drewN ?_ _ | with_reducible refine Below.drew ?_ | with_reducible refine Below.alloc ?_ (by first | omega | (simp; done) | (simp; omega)) _ | with_reducible refine below_after ?_ (by assumption) (by first | omega | (simp; done) | (simp; omega))))⟩)
        · by_cases hxn : n ≤ x
          · rw [if_pos (Or.inr hxn)] at hp
            have HN := Lib.hid hp
            clear hp HP hin
            go_wp2_with fail
            all_goals (go_ret; exact ⟨ret_i64 HN.out, (by repeat (first | with_reducible exact Below.refl _ _ | with_reducible assumption | with_reducible refine Below.setCell ?_ (by first | omega | (simp; done) | (simp; omega)) _ | with_reducible refine below_drewN ?_ _ | with_reducible refine Below.drew ?_ | with_reducible refine Below.alloc ?_ (by first | omega | (simp; done) | (simp; omega)) _ | with_reducible refine below_after ?_ (by assumption) (by first | omega | (simp; done) | (simp; omega))))⟩)
          · rw [if_neg (by omega)] at hp
            by_cases h2 : x ∈ order.take k
            · have hd2 : decide (x ∈ order.take k) = true := decide_eq_true h2
              rw [if_pos h2] at hp
              rw [hd2] at hin
              have HN := Lib.hid hp
              have HI := Lib.hid hin
              clear hp HP hin hd2 h2
              go_wp2_with fail
              go_quiet (first | (go_at_call 58; refine Calls.quiet_of_same (HI.out _)))
              go_wp2_with fail
              go_ret
              exact ⟨ret_i64 HN.out, (by repeat (first | with_reducible exact Below.refl _ _ | with_reducible assumption | with_reducible refine Below.setCell ?_ (by first | omega | (simp; done) | (simp; omega)) _ | with_reducible refine below_drewN ?_ _ | with_reducible refine Below.drew ?_ | with_reducible refine Below.alloc ?_ (by first | omega | (simp; done) | (simp; omega)) _ | with_reducible refine below_after ?_ (by assumption) (by first | omega | (simp; done) | (simp; omega))))⟩
            · have hd2 : decide (x ∈ order.take k) = false := decide_eq_false h2
              rw [if_neg h2, ← HT.out] at hp
              rw [hd2] at hin
              have HN := Lib.hid hp
              have HI := Lib.hid hin
              clear hp HP hin hd2 h2
              go_wp2_with fail
              go_quiet (first | (go_at_call 58; refine Calls.quiet_of_same (HI.out _)))
              go_wp2_with fail
              go_roundw
              case rel => exact ⟨k + 1, by omega, by go_num, HN.out, (by repeat (first | with_reducible exact Below.refl _ _ | with_reducible assumption | with_reducible refine Below.setCell ?_ (by first | omega | (simp; done) | (simp; omega)) _ | with_reducible refine below_drewN ?_ _ | with_reducible refine Below.drew ?_ | with_reducible refine Below.alloc ?_ (by first | omega | (simp; done) | (simp; omega)) _ | with_reducible refine below_after ?_ (by assumption) (by first | omega | (simp; done) | (simp; omega))))⟩
              case measure => simp [intOf]; omega
      · obtain rfl : k = order.length := by omega
        have HN := Lib.hid (show (0 : Int) = r by rw [← HP.out, List.drop_length]; rfl)
        clear HP
        go_wp2_with fail
        go_ret
        exact ⟨ret_i64 HN.out, eb⟩
  · have hne : ((order.length : Int) != n) = true := by simp [hn]
    have e : Bus.orderErr order n = 2 := by unfold Bus.orderErr; rw [if_pos hn]
    rw [e]
    go_enter Tryz.func23, Tryz.ntmps23
    go_wp2_with fail
    go_ret
    exact ⟨rfl, Below.refl _ _⟩
end Go.Proofs.YtbldpojkpmafpaaGreatDoor

/- The reference of chapter 7: the check of nets. -/
namespace Go.Proofs.YtbldpojkpmafpaaGreatDoor
open Go.RowKit

theorem lastOf_take {cs : List Int} {j : Nat} {y : Int} (h : cs[j]? = some y) : Bus.lastOf (cs.take (j + 1)) = y := by
  rw [List.take_add_one, h]; exact Bus.lastOf_snoc _ _

set_option maxHeartbeats 8000000 in
set_option maxRecDepth 100000 in
theorem refNets_any (A : Option Addr) (c B : Nat) (l : List NetAt) (n : Int) (w : World) (h : NetsIn w B A l) (hB : B ≤ w.heap.size) (hl : l.length ≤ 140737488355328) :
    Calls Tryz.prog 9 #[.slice A l.length c, .int .i64 n] w fun e w' => e = .returned (.int .i64 (Bus.netsErr (l.map NetAt.net) n)) ∧ Below w.heap.size w w' := by
  have H := Lib.hid h
  clear h
  by_cases hn : n < 1 ∨ 97 < n
  · have e : Bus.netsErr (l.map NetAt.net) n = 3 := by unfold Bus.netsErr; rw [if_pos hn]
    rw [e]
    by_cases hn0 : n < 1
    · go_enter Tryz.func9, Tryz.ntmps9
      go_wp2_with fail
      all_goals (go_ret; exact ⟨rfl, Below.refl _ _⟩)
    · have hn1 : 97 < n := by omega
      go_enter Tryz.func9, Tryz.ntmps9
      go_wp2_with fail
      all_goals (go_ret; exact ⟨rfl, Below.refl _ _⟩)
  · have hn1 : ¬ n < 1 := fun h => hn (.inl h)
    have hn2 : ¬ 97 < n := fun h => hn (.inr h)
    by_cases h64 : 64 < l.length
    · have e : Bus.netsErr (l.map NetAt.net) n = 5 := by unfold Bus.netsErr; rw [if_neg hn, if_pos (by rw [List.length_map]; exact h64)]
      rw [e]
      have hd2 : (64 : Int) < (l.length : Int) := by omega
      clear hn
      go_enter Tryz.func9, Tryz.ntmps9
      go_wp2_with fail
      all_goals (go_ret; exact ⟨rfl, Below.refl _ _⟩)
    · obtain ⟨r, hr⟩ : ∃ r, Bus.netsFrom n [] (l.map NetAt.net) = r := ⟨_, rfl⟩
      have e : Bus.netsErr (l.map NetAt.net) n = r := by unfold Bus.netsErr; rw [if_neg hn, if_neg (by rw [List.length_map]; exact h64), hr]
      rw [e]
      have HR := Lib.hid hr
      clear e hr hn
      go_enter Tryz.func9, Tryz.ntmps9
      go_wp2_with fail
      go_loopw [5] (fun i wr => ∃ k : Nat, k ≤ l.length ∧ i = .int .i64 k ∧ Bus.netsFrom n ((l.take k).map NetAt.sh) ((l.drop k).map NetAt.net) = r ∧ Below w.heap.size w wr) (fun i _ => l.length - (intOf i).toNat)
      case atStart => exact ⟨0, Nat.zero_le _, rfl, HR.out, Below.refl _ _⟩
      case round =>
        obtain ⟨k, hk, rfl, hpre, eb⟩ := hrel
        have hsz := eb.size
        have HP := Lib.hid hpre
        clear hpre
        by_cases hlt : k < l.length
        · obtain ⟨b, off, x, hA, hbB, hx, hc1, hc2, hrow, hfew, hix, hics⟩ := H.out.net k hlt
          subst hA
          have hk1 := (eb.cell (p := ⟨b, off + k * 2, none⟩) (by show b < _; omega)).trans hc1
          have hk2 := (eb.cell (p := ⟨b, off + k * 2 + 1, none⟩) (by show b < _; omega)).trans hc2
          have HROW := Lib.hid hrow
          have hd : l.drop k = x :: l.drop (k + 1) := by
            rw [List.drop_eq_getElem_cons hlt]
            rw [List.getElem?_eq_getElem hlt] at hx
            rw [Option.some.inj hx]
          have HT := Lib.hid (show (l.take (k + 1)).map NetAt.sh = (l.take k).map NetAt.sh ++ [x.sh] by rw [List.take_add_one, hx]; simp)
          have hp := HP.out
          rw [hd, List.map_cons] at hp
          clear hx hd hc1 hc2 hrow HP
          by_cases hbad : x.sh < 0 ∨ 100 ≤ x.sh
          · rw [Bus.nets_bad (x := x.net) hbad] at hp
            have HN := Lib.hid hp
            clear hp
            by_cases hx0 : x.sh < 0
            · go_wp2_with fail
              all_goals (go_ret; exact ⟨ret_i64 HN.out, (by repeat (first | with_reducible exact Below.refl _ _ | with_reducible assumption | with_reducible refine Below.setCell ?_ (by first | omega | (simp; done) | (simp; omega)) _ | with_reducible refine below_drewN ?_ _ | with_reducible refine Below.drew ?_ | with_reducible refine Below.alloc ?_ (by first | omega | (simp; done) | (simp; omega)) _ | with_reducible refine below_after ?_ (by assumption) (by first | omega | (simp; done) | (simp; omega))))⟩)
            · have hxn : 100 ≤ x.sh := by omega
              go_wp2_with fail
              all_goals (go_ret; exact ⟨ret_i64 HN.out, (by repeat (first | with_reducible exact Below.refl _ _ | with_reducible assumption | with_reducible refine Below.setCell ?_ (by first | omega | (simp; done) | (simp; omega)) _ | with_reducible refine below_drewN ?_ _ | with_reducible refine Below.drew ?_ | with_reducible refine Below.alloc ?_ (by first | omega | (simp; done) | (simp; omega)) _ | with_reducible refine below_after ?_ (by assumption) (by first | omega | (simp; done) | (simp; omega))))⟩)
          · have hno : ¬ (x.net.1 < 0 ∨ 100 ≤ x.net.1) := hbad
            have hx0 : ¬ x.sh < 0 := fun h => hbad (.inl h)
            have hxn : ¬ 100 ≤ x.sh := fun h => hbad (.inr h)
            have HNO := Lib.hid hno
            have HPP := Lib.hid hp
            clear hno hp hbad
            go_wp2_with fail
            generalize hW1 : World.alloc wr _ = W1
            obtain ⟨G, hG⟩ : ∃ G, wr.heap.size = G := ⟨_, rfl⟩
            have d1 : Blk W1 G 26 #[.int .i64 x.sh, .slice x.loc x.cols.length x.cap] := by rw [← hW1, ← hG]; exact Blk.new _ _ _
            have eb1 : Below w.heap.size w W1 := by rw [← hW1]; exact eb.alloc hsz _
            have hs1 := eb1.size
            have hGl := d1.lt
            try rw [hG]
            clear hW1 hG eb hk1 hk2
            go_loopw [7] (fun i wz => ∃ j : Nat, j ≤ k ∧ i = .int .i64 j ∧ x.sh ∉ (l.take j).map NetAt.sh ∧ Below W1.heap.size W1 wz) (fun i _ => k - (intOf i).toNat)
            case atStart => exact ⟨0, Nat.zero_le _, rfl, by simp, Below.refl _ _⟩
            case round =>
              obtain ⟨j, hj, rfl, hnot, ez⟩ := hrel
              have hszz := ez.size
              have HNT := Lib.hid hnot
              have ebz := below_after eb1 ez (Nat.le_refl _)
              have hszw := ebz.size
              have p1 : wr.cell? ⟨G, 0, none⟩ = some (.int .i64 x.sh) := (ez.cell (p := ⟨G, 0, none⟩) hGl).trans (d1.cell 0)
              have p2 : wr.cell? ⟨G, 1, none⟩ = some (.slice x.loc x.cols.length x.cap) := (ez.cell (p := ⟨G, 1, none⟩) hGl).trans (d1.cell 1)
              clear hnot
              by_cases hjk : j < k
              · obtain ⟨b2, off2, y, hA2, _, hy, hcy1, _, _, _, _, _⟩ := H.out.net j (by omega)
                injection hA2 with hA2; injection hA2 with hA2 hA3; subst hA2; subst hA3
                have hcy := (ebz.cell (p := ⟨b, off + j * 2, none⟩) (by show b < _; omega)).trans hcy1
                have hjl : (j : Int) < (l.length : Int) := by omega
                have HY := Lib.hid (show (l.take (j + 1)).map NetAt.sh = (l.take j).map NetAt.sh ++ [y.sh] by rw [List.take_add_one, hy]; simp)
                have HYM := Lib.hid (show y.sh ∈ (l.take k).map NetAt.sh from List.mem_map_of_mem (List.mem_of_getElem? (by rw [List.getElem?_take_of_lt hjk]; exact hy)))
                clear hy hcy1
                generalize y.sh = ys at *
                by_cases hxy : ys = x.sh
                · subst hxy
                  have hp := HPP.out
                  rw [Bus.nets_twice HNO.out HYM.out] at hp
                  have HN := Lib.hid hp
                  clear hp
                  go_wp2_with fail
                  go_quiet (fail)
                  go_wp2_with fail
                  go_ret
                  exact ⟨ret_i64 HN.out, (by repeat (first | with_reducible exact Below.refl _ _ | with_reducible assumption | with_reducible refine Below.setCell ?_ (by first | omega | (simp; done) | (simp; omega)) _ | with_reducible refine below_drewN ?_ _ | with_reducible refine Below.drew ?_ | with_reducible refine Below.alloc ?_ (by first | omega | (simp; done) | (simp; omega)) _ | with_reducible refine below_after ?_ (by assumption) (by first | omega | (simp; done) | (simp; omega))))⟩
                · have hne : (ys == x.sh) = false := by rw [beq_eq_false_iff_ne]; exact hxy
                  go_wp2_with fail
                  go_quiet (fail)
                  go_wp2_with fail
                  go_roundw
                  case rel => exact ⟨j + 1, by omega, by go_num, by rw [HY.out]; intro hm; rcases List.mem_append.1 hm with h | h; exact HNT.out h; simp at h; exact hxy h.symm, (by repeat (first | with_reducible exact Below.refl _ _ | with_reducible assumption | with_reducible refine Below.setCell ?_ (by first | omega | (simp; done) | (simp; omega)) _ | with_reducible refine below_drewN ?_ _ | with_reducible refine Below.drew ?_ | with_reducible refine Below.alloc ?_ (by first | omega | (simp; done) | (simp; omega)) _ | with_reducible refine below_after ?_ (by assumption) (by first | omega | (simp; done) | (simp; omega))))⟩
                  case measure => simp [intOf]; omega
              · obtain rfl : k = j := by omega
                have h2 : x.net.1 ∉ (l.take k).map NetAt.sh := HNT.out
                by_cases h4 : x.cols = []
                · have hp := HPP.out
                  rw [Bus.nets_empty HNO.out h2 h4] at hp
                  have HN := Lib.hid hp
                  have hcl : (x.cols.length : Int) = 0 := by rw [h4]; rfl
                  clear hp h2 HNT
                  rw [h4] at p2
                  go_wp2_with fail
                  go_ret
                  exact ⟨ret_i64 HN.out, (by repeat (first | with_reducible exact Below.refl _ _ | with_reducible assumption | with_reducible refine Below.setCell ?_ (by first | omega | (simp; done) | (simp; omega)) _ | with_reducible refine below_drewN ?_ _ | with_reducible refine Below.drew ?_ | with_reducible refine Below.alloc ?_ (by first | omega | (simp; done) | (simp; omega)) _ | with_reducible refine below_after ?_ (by assumption) (by first | omega | (simp; done) | (simp; omega))))⟩
                · have hcl : ¬ x.cols.length = 0 := fun h => h4 (List.eq_nil_of_length_eq_zero h)
                  have hceq : ((x.cols.length : Int) == 0) = false := by rw [beq_eq_false_iff_ne]; omega
                  have hp := HPP.out
                  rw [Bus.nets_cols HNO.out h2 h4] at hp
                  obtain ⟨E, hE⟩ : ∃ E, Bus.colErr n (-1) x.cols = E := ⟨_, rfl⟩
                  have HE := Lib.hid hE
                  rw [show x.net.2 = x.cols from rfl, hE] at hp
                  have HN3 := Lib.hid hp
                  obtain ⟨W3, hW3⟩ : ∃ W3, wr = W3 := ⟨_, rfl⟩
                  have hrow3 := Lib.hid (HROW.out.below ebz hB)
                  rw [hW3] at hrow3 p1 p2 ebz hszw ⊢
                  have hG3 : G < W3.heap.size := World.block_lt_of_cell? W3 ⟨G, 0, none⟩ p1
                  clear hE hp h2 HNT h4 hW3 ez hszz HPP HNO
                  generalize x.cols = cs at *
                  generalize x.loc = loc at *
                  generalize x.cap = cap at *
                  go_wp2_with fail
                  go_loopw [8] (fun i wz => ∃ j : Nat, j ≤ cs.length ∧ i = .int .i64 j ∧ Bus.colErr n (Bus.lastOf (cs.take j)) (cs.drop j) = E ∧ Below W3.heap.size W3 wz) (fun i _ => cs.length - (intOf i).toNat)
                  case atStart => exact ⟨0, Nat.zero_le _, rfl, HE.out, Below.refl _ _⟩
                  case round =>
                    obtain ⟨j, hj, rfl, hcol, ez⟩ := hrel
                    have hszz := ez.size
                    have ebz3 := below_after ebz ez (Nat.le_refl _)
                    have hszw3 := ebz3.size
                    have m2 : wr.cell? ⟨G, 1, none⟩ = some (.slice loc cs.length cap) := (ez.cell (p := ⟨G, 1, none⟩) hG3).trans p2
                    by_cases hlj : j < cs.length
                    · obtain ⟨b2, off2, y, hA2, hbB2, hy, hcy⟩ := hrow3.out.int j hlj
                      subst hA2
                      have hcy2 := (ez.cell (p := ⟨b2, off2 + j, none⟩) (by show b2 < _; omega)).trans hcy
                      have hdj : cs.drop j = y :: cs.drop (j + 1) := by
                        rw [List.drop_eq_getElem_cons hlj]
                        rw [List.getElem?_eq_getElem hlj] at hy
                        rw [Option.some.inj hy]
                      have HTJ := Lib.hid (lastOf_take hy)
                      rw [hdj] at hcol
                      have hjc : (j : Int) < (cs.length : Int) := by omega
                      clear hdj
                      by_cases hyb : y < 0 ∨ n ≤ y
                      · rw [Bus.col_bad hyb] at hcol
                        subst hcol
                        have hr := HN3.out
                        rw [if_pos (by decide)] at hr
                        have HR2 := Lib.hid hr
                        clear hr hy
                        by_cases hy0 : y < 0
                        · go_wp2_with fail
                          all_goals (go_ret; exact ⟨ret_i64 HR2.out, (by repeat (first | with_reducible exact Below.refl _ _ | with_reducible assumption | with_reducible refine Below.setCell ?_ (by first | omega | (simp; done) | (simp; omega)) _ | with_reducible refine below_drewN ?_ _ | with_reducible refine Below.drew ?_ | with_reducible refine Below.alloc ?_ (by first | omega | (simp; done) | (simp; omega)) _ | with_reducible refine below_after ?_ (by assumption) (by first | omega | (simp; done) | (simp; omega))))⟩)
                        · have hyn : n ≤ y := by omega
                          go_wp2_with fail
                          all_goals (go_ret; exact ⟨ret_i64 HR2.out, (by repeat (first | with_reducible exact Below.refl _ _ | with_reducible assumption | with_reducible refine Below.setCell ?_ (by first | omega | (simp; done) | (simp; omega)) _ | with_reducible refine below_drewN ?_ _ | with_reducible refine Below.drew ?_ | with_reducible refine Below.alloc ?_ (by first | omega | (simp; done) | (simp; omega)) _ | with_reducible refine below_after ?_ (by assumption) (by first | omega | (simp; done) | (simp; omega))))⟩)
                      · have hy0 : ¬ y < 0 := fun h => hyb (.inl h)
                        have hyn : ¬ n ≤ y := fun h => hyb (.inr h)
                        by_cases hj0 : j = 0
                        · subst hj0
                          rw [Bus.col_ok hyb (by rw [List.take_zero, show Bus.lastOf [] = -1 from rfl]; omega)] at hcol
                          have HC := Lib.hid hcol
                          have hcy0 : wr.cell? ⟨b2, off2, none⟩ = some (.int .i64 y) := by simpa using hcy2
                          clear hcol hy hyb hcy2
                          go_wp2_with fail
                          go_quiet (fail)
                          go_wp2_with fail
                          go_roundw
                          case rel => exact ⟨1, by omega, rfl, by rw [HTJ.out]; exact HC.out, (by repeat (first | with_reducible exact Below.refl _ _ | with_reducible assumption | with_reducible refine Below.setCell ?_ (by first | omega | (simp; done) | (simp; omega)) _ | with_reducible refine below_drewN ?_ _ | with_reducible refine Below.drew ?_ | with_reducible refine Below.alloc ?_ (by first | omega | (simp; done) | (simp; omega)) _ | with_reducible refine below_after ?_ (by assumption) (by first | omega | (simp; done) | (simp; omega))))⟩
                          case measure => simp [intOf]; omega
                        · obtain ⟨i, rfl⟩ : ∃ i, j = i + 1 := ⟨j - 1, by omega⟩
                          obtain ⟨b4, off4, z, hA4, _, hz, hcz⟩ := hrow3.out.int i (by omega)
                          injection hA4 with hA4; injection hA4 with hA4 hA5; subst hA4; subst hA5
                          have hcz2 := (ez.cell (p := ⟨b2, off2 + i, none⟩) (by show b2 < _; omega)).trans hcz
                          rw [lastOf_take hz] at hcol
                          have q1 : IntKind.i64.wrap ((i : Int) + 1 - 1) = (i : Int) := by rw [IntWalk.i64_in _ (by omega)]; omega
                          have q3 : (0 : Int) < (i : Int) + 1 := by omega
                          have q4 : (i : Int) < (cs.length : Int) := by omega
                          clear hy hz hcz hcy
                          by_cases hyl : y ≤ z
                          · rw [Bus.col_order hyb hyl] at hcol
                            subst hcol
                            have hr := HN3.out
                            rw [if_pos (by decide)] at hr
                            have HR2 := Lib.hid hr
                            have hyd : decide (y ≤ z) = true := decide_eq_true hyl
                            clear hr hyb
                            go_wp2_with fail
                            go_quiet (fail)
                            go_wp2_with fail
                            go_ret
                            exact ⟨ret_i64 HR2.out, (by repeat (first | with_reducible exact Below.refl _ _ | with_reducible assumption | with_reducible refine Below.setCell ?_ (by first | omega | (simp; done) | (simp; omega)) _ | with_reducible refine below_drewN ?_ _ | with_reducible refine Below.drew ?_ | with_reducible refine Below.alloc ?_ (by first | omega | (simp; done) | (simp; omega)) _ | with_reducible refine below_after ?_ (by assumption) (by first | omega | (simp; done) | (simp; omega))))⟩
                          · rw [Bus.col_ok hyb hyl] at hcol
                            have HC := Lib.hid hcol
                            have hyd : decide (y ≤ z) = false := decide_eq_false hyl
                            clear hcol hyb
                            go_wp2_with fail
                            go_quiet (fail)
                            go_wp2_with fail
                            go_roundw
                            case rel => exact ⟨i + 1 + 1, by omega, by go_num, by rw [HTJ.out]; exact HC.out, (by repeat (first | with_reducible exact Below.refl _ _ | with_reducible assumption | with_reducible refine Below.setCell ?_ (by first | omega | (simp; done) | (simp; omega)) _ | with_reducible refine below_drewN ?_ _ | with_reducible refine Below.drew ?_ | with_reducible refine Below.alloc ?_ (by first | omega | (simp; done) | (simp; omega)) _ | with_reducible refine below_after ?_ (by assumption) (by first | omega | (simp; done) | (simp; omega))))⟩
                            case measure => simp [intOf]; omega
                    · obtain rfl : j = cs.length := by omega
                      rw [List.drop_length] at hcol
                      have hE0 : E = 0 := hcol.symm
                      subst hE0
                      have hr := HN3.out
                      rw [if_neg (by decide)] at hr
                      have HR2 := Lib.hid hr
                      clear hr hcol
                      go_wp2_with fail
                      go_roundw
                      case rel => exact ⟨k + 1, by omega, by go_num, by rw [HT.out]; exact HR2.out, (by repeat (first | with_reducible exact Below.refl _ _ | with_reducible assumption | with_reducible refine Below.setCell ?_ (by first | omega | (simp; done) | (simp; omega)) _ | with_reducible refine below_drewN ?_ _ | with_reducible refine Below.drew ?_ | with_reducible refine Below.alloc ?_ (by first | omega | (simp; done) | (simp; omega)) _ | with_reducible refine below_after ?_ (by assumption) (by first | omega | (simp; done) | (simp; omega))))⟩
                      case measure => simp [intOf]; omega
        · obtain rfl : k = l.length := by omega
          have HN := Lib.hid (show (0 : Int) = r by rw [← HP.out, List.drop_length]; rfl)
          clear HP
          go_wp2_with fail
          go_ret
          exact ⟨ret_i64 HN.out, eb⟩
end Go.Proofs.YtbldpojkpmafpaaGreatDoor
