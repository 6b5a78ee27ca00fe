/- The runner over an abstract memory: any operation. -/
import Derived.Test.YtcdknjkkaonbiaaGreatDoorSxOp6
namespace Go.Proofs.YtcdknjkkaonbiaaGreatDoor.Sx
open Go.RowKit
section
variable {P : Program} {B : Nat} {ρ : Env} {H : AHeap} {w : World} {o : Oper} {ev : Ev} {e : Operand → Value}

theorem map1 {l : List Operand} {a : AV} (h : l.map ev = [a]) : ∃ x, l = [x] ∧ ev x = a := by
  match l, h with
  | [x], h => exact ⟨x, rfl, by simpa using h⟩
theorem map2 {l : List Operand} {a b : AV} (h : l.map ev = [a, b]) : ∃ x y, l = [x, y] ∧ ev x = a ∧ ev y = b := by
  match l, h with
  | [x, y], h => exact ⟨x, y, rfl, by simpa using h⟩
theorem arr1 {α : Type} {a : Array α} {x : α} (h : a.toList = [x]) : a = #[x] := by apply Array.ext'; simpa using h
theorem arr2 {α : Type} {a : Array α} {x y : α} (h : a.toList = [x, y]) : a = #[x, y] := by apply Array.ext'; simpa using h

theorem pLen_ok {argTypes : Array TypeId} {ty : TypeId} {v r : AV} {x : Value} (hv : pLen P argTypes[0]? v = some r) (hx : Den ρ v x) (w : World) : ∃ y, (Builtin.len_ argTypes ty #[x]).run P w = .ok y w ∧ Den ρ r y := by
  unfold pLen at hv
  simp only [Option.bind_eq_some_iff] at hv
  obtain ⟨t, ht, hv⟩ := hv
  split at hv
  · rename_i el i off len cap hu
    cases hv
    obtain ⟨b, c, k, _, _, _, rfl⟩ := hx.slice_inv
    exact ⟨.int .i64 len, by simp [Builtin.len_, ht, run_und hu, goInt], .raw _⟩
  · rename_i n el cs hu
    cases hv
    exact ⟨.int .i64 n, by simp [Builtin.len_, ht, run_und hu, goInt], .raw _⟩
  · rename_i b hu
    cases hv
    have := hx.raw_eq; subst this
    exact ⟨.int .i64 b.size, by simp [Builtin.len_, ht, run_und hu, goInt], .raw _⟩
  · cases hv
theorem pCap_ok {argTypes : Array TypeId} {ty : TypeId} {v r : AV} {x : Value} (hv : pCap P argTypes[0]? v = some r) (hx : Den ρ v x) (w : World) : ∃ y, (Builtin.cap_ argTypes ty #[x]).run P w = .ok y w ∧ Den ρ r y := by
  unfold pCap at hv
  simp only [Option.bind_eq_some_iff] at hv
  obtain ⟨t, ht, hv⟩ := hv
  split at hv
  · rename_i el i off len n hu
    cases hv
    obtain ⟨b, c, k, _, hc, _, rfl⟩ := hx.slice_inv
    have hc : k = n := hc
    subst hc
    exact ⟨.int .i64 k, by simp [Builtin.cap_, ht, run_und hu, goInt], .raw _⟩
  · cases hv

theorem eBuiltin_ok (hH : HDen P B ρ H w) (he : ∀ x, Den ρ (ev x) (e x)) {b : Builtin} {args : Array Operand} {argTypes : Array TypeId} (ho : o.op = .call { callee := .builtin b, args, argTypes }) :
    OpOk P B ρ H w ((execOp e o).run P w) (eBuiltin P o ev b argTypes (args.toList.map ev) H) := by
  have hp : plainOp o.op = true := by rw [ho]; rfl
  have hg := gen_pure (P := P) (w := w) hH he hp
  have lift : ∀ {q : AV × AHeap}, (Fr ρ H.next q.2.next → ∃ ρ' r w', (execOp e o).run P w = .ok (.value r) w' ∧ Den ρ' q.1 r ∧ HDen P B ρ' q.2 w' ∧ Stp ρ H w ρ' q.2 w') → OpOk P B ρ H w ((execOp e o).run P w) (vr2 (some q)) :=
    fun h hf => by obtain ⟨ρ', r, w', h1, h2, h3, h4⟩ := h hf; exact ⟨ρ', r, w', .value r, h1, rfl, h2, h3, h4⟩
  unfold eBuiltin
  split
  · rename_i v hm
    obtain ⟨x, hx, rfl⟩ := map1 hm
    have ha := arr1 hx
    subst ha
    split
    · rename_i r hr
      obtain ⟨y, h1, h2⟩ := pLen_ok (ty := o.type) hr (he x) w
      exact ok_val hH (run_builtin ho fun cs => by simp [builtin, h1]) h2
    · exact hg
  · rename_i v hm
    obtain ⟨x, hx, rfl⟩ := map1 hm
    have ha := arr1 hx
    subst ha
    split
    · rename_i r hr
      obtain ⟨y, h1, h2⟩ := pCap_ok (ty := o.type) hr (he x) w
      exact ok_val hH (run_builtin ho fun cs => by simp [builtin, h1]) h2
    · exact hg
  · rename_i s x hm
    obtain ⟨xs, xx, hx, rfl, rfl⟩ := map2 hm
    have ha := arr2 hx
    subst ha
    split
    · rename_i t t' ht
      have hat := arr2 ht
      subst hat
      have main : ((∃ e', P.underlying t' = some (.slice e')) ∨ P.underlying t' = some .string) → OpOk P B ρ H w ((execOp e o).run P w) (vr2 (aappend P t (ev xs) (ev xx) H)) := by
        intro hk
        cases hv : aappend P t (ev xs) (ev xx) H with
        | none => trivial
        | some q =>
          refine lift fun hf => ?_
          obtain ⟨ρ', r, w', h1, h2, h3, h4⟩ := aappend_ok (ty := o.type) hH hk (he xs) (he xx) hv hf
          exact ⟨ρ', r, w', run_builtin ho fun cs => by simp [builtin, h1], h2, h3, h4⟩
      split
      · rename_i el hu; exact main (.inl ⟨el, hu⟩)
      · rename_i hu; exact main (.inr hu)
      · trivial
    · trivial
  · rename_i d x hm
    obtain ⟨xs, xx, hx, rfl, rfl⟩ := map2 hm
    have ha := arr2 hx
    subst ha
    split
    · rename_i t t' ht
      have hat := arr2 ht
      subst hat
      cases hv : acopy P t (ev xs) (ev xx) H with
      | none => trivial
      | some q =>
        refine lift fun hf => ?_
        obtain ⟨r, w', h1, h2, h3, h4⟩ := acopy_ok (tx := t') (ty := o.type) hH (he xs) (he xx) hv
        exact ⟨ρ, r, w', run_builtin ho fun cs => by simp [builtin, h1], h2, h3, h4⟩
    · trivial
  · rename_i p n hm
    obtain ⟨xs, xx, hx, rfl, rfl⟩ := map2 hm
    have ha := arr2 hx
    subst ha
    split
    · rename_i t t' ht
      have hat := arr2 ht
      subst hat
      cases hv : eUnsafeString P t (ev xs) (ev xx) H with
      | none => trivial
      | some q =>
        refine lift fun hf => ?_
        obtain ⟨r, w', h1, h2, h3, h4⟩ := eUnsafeString_ok (it := t') (ty := o.type) hH (he xs) (he xx) hv
        exact ⟨ρ, r, w', run_builtin ho fun cs => by simp [builtin, h1], h2, h3, h4⟩
    · trivial
  · rename_i i off len cap hm
    obtain ⟨x, hx, hxe⟩ := map1 hm
    have ha := arr1 hx
    subst ha
    cases hb : Nat.ble 1 len with
    | false => trivial
    | true =>
      have hb := Nat.le_of_ble_eq_true hb
      have hx := he x
      rw [hxe] at hx
      obtain ⟨b, c, k, h1, _, h2, h3⟩ := hx.slice_inv
      have hr := Lib.run_unsafeSliceData_row (P := P) w argTypes o.type ⟨b, off, none⟩ len k (by omega)
      exact ok_val hH (run_builtin ho fun cs => by simp [builtin, h3, hr]) (.ptr h1)
  · exact hg

theorem hCall_ok (hK : Known P) (hH : HDen P B ρ H w) (he : ∀ x, Den ρ (ev x) (e x)) {c : Call} (ho : o.op = .call c) : OpOk P B ρ H w ((execOp e o).run P w) (hCall c P o ev H) := by
  obtain ⟨callee, args, argTypes⟩ := c
  have hl : ∀ l : List Operand, Dens ρ (l.map ev) (l.map e) := fun l => by
    induction l with
    | nil => exact .nil
    | cons x l ih => exact .cons (he x) ih
  have ea : args.map e = (args.toList.map e).toArray := by apply Array.ext'; simp
  cases callee with
  | value f =>
    refine acallee_ok hK hH (he f) (hl args.toList) fun fn first captured hf => ?_
    simp only [execOp, ho, resolve, Deferred.ofValue, hf, Sem.run_bind, Sem.run_pure, Result.andThen_ok, ea]
  | invoke r m => trivial
  | builtin b => exact eBuiltin_ok hH he ho

theorem aop_ok (hK : Known P) (hH : HDen P B ρ H w) (he : ∀ x, Den ρ (ev x) (e x)) : OpOk P B ρ H w ((execOp e o).run P w) (aop o.op P o ev H) := by
  cases ho : o.op with
  | move x => exact hMove_ok hH he ho
  | assign x => exact hAssign_ok hH he ho
  | pick c a b => exact hPick_ok hH he ho
  | alloc t => exact hAlloc_ok (ev := ev) hH ho
  | box t x => exact hBox_ok hH he ho
  | build t ps => exact hBuild_ok hH he ho
  | buildSlice t l ps => exact hBuildSlice_ok hH he ho
  | insert t m k v => exact hInsert_ok hH he ho
  | load t x => exact hLoad_ok hH he ho
  | store t x y => exact hStore_ok hH he ho
  | nilCheck x => exact hNil_ok hH he ho
  | binOp op t x y yt => exact hBin_ok hH he ho
  | unOp op t x => exact gen_pure hH he (by rw [ho]; rfl)
  | convert s d x => exact hConvert_ok hH he ho
  | makeInterface t x => exact hIface_ok hH he ho
  | makeFunc fn a c => exact hFunc_ok hH he ho
  | makeMap t r => exact hMakeMap_ok hH he ho
  | makeSlice t l c => exact hMakeSlice_ok hH he ho
  | slice t x l h m => exact hSlice_ok hH he ho
  | fieldAddr s x f => exact hFieldAddr_ok hH he ho
  | field t x f => exact hField_ok hH he ho
  | indexAddr t x i => exact hIndexAddr_ok hH he ho
  | index t x i => exact hIndex_ok hH he ho
  | lookup t m k ok => exact hLookup_ok hH he ho
  | mapUpdate t m k v => exact hMapUpdate_ok hH he ho
  | typeAssert x a b c => exact gen_pure hH he (by rw [ho]; rfl)
  | extract x i => exact hExtract_ok hH he ho
  | call c => exact hCall_ok hK hH he ho
  | _ => trivial

/-- numbers are never given back -/
def VR.mono (H : AHeap) : VR → Prop
  | .no => True
  | .ok _ H' | .enter _ _ H' | .round _ _ H' => H.next ≤ H'.next
theorem vr_mono (x : Option AV) : VR.mono H (vr H x) := by cases x <;> simp [vr, VR.mono]
theorem vr2_mono {x : Option (AV × AHeap)} (h : ∀ q, x = some q → H.next ≤ q.2.next) : VR.mono H (vr2 x) := by
  cases x with
  | none => trivial
  | some q => exact h q rfl
theorem new_mono (b : ABlk) : H.next ≤ (H.new b).next := Nat.le_succ _
theorem cond_some {α : Type} {b : Bool} {x : Option α} {q : α} (h : cond b x none = some q) : x = some q := by cases b <;> first | exact h | cases h
theorem set_mono (i : Nat) (b : ABlk) : H.next ≤ (H.set i b).next := Nat.le_refl _
theorem agrow_mono {el : TypeId} {sz bytes i len n : Nat} {cap : Cap} {news : List AV} {q : AV × AHeap} (h : agrow el sz bytes i len cap news n H = some q) : H.next ≤ q.2.next := by
  unfold agrow at h
  have h := cond_some h
  split at h
  · rename_i e' cs ex hg
    have h := cond_some h
    cases cap with
    | known c =>
      simp only at h
      cases hb : Nat.ble (len + n) c with
      | true =>
        rw [hb] at h
        simp only [cond_true, Option.map_eq_some_iff] at h
        obtain ⟨_, _, rfl⟩ := h
        exact set_mono _ _
      | false => rw [hb] at h; cases h; exact new_mono _
    | full =>
      cases ex with
      | false => cases h; exact new_mono (H := H.drop i) _
      | true => cases h
    | any => cases h
  · cases h
theorem aappend_mono {t : TypeId} {s x : AV} {q : AV × AHeap} (h : aappend P t s x H = some q) : H.next ≤ q.2.next := by
  unfold aappend at h
  simp only [Option.bind_eq_some_iff] at h
  obtain ⟨el, _, i, _, z, _, h⟩ := h
  have h := cond_some h
  simp only [Option.bind_eq_some_iff] at h
  obtain ⟨sn, _, h⟩ := h
  cases hz : Nat.beq sn.2 0 with
  | true =>
    rw [hz] at h
    simp only [cond_true] at h
    split at h
    · cases h; exact Nat.le_refl _
    · cases h; exact Nat.le_refl _
    · cases h
  | false =>
    rw [hz] at h
    simp only [cond_false] at h
    have h := cond_some h
    split at h
    · have h := cond_some h
      cases h; exact new_mono _
    · exact agrow_mono h
    · cases h
theorem acopy_mono {t : TypeId} {d x : AV} {q : AV × AHeap} (h : acopy P t d x H = some q) : H.next ≤ q.2.next := by
  unfold acopy at h
  simp only [Option.bind_eq_some_iff] at h
  obtain ⟨el, _, s, _, h⟩ := h
  split at h
  · simp only [Option.bind_eq_some_iff] at h
    obtain ⟨sn, _, h⟩ := h
    split at h
    · have h := cond_some h
      simp only [Option.map_eq_some_iff] at h
      obtain ⟨_, _, rfl⟩ := h
      exact set_mono _ _
    · cases h
  · cases h; exact Nat.le_refl _
  · cases h
theorem eUnsafeString_mono {pt : TypeId} {x n : AV} {q : AV × AHeap} (h : eUnsafeString P pt x n H = some q) : H.next ≤ q.2.next := by
  unfold eUnsafeString at h
  split at h
  · split at h
    · split at h
      · have h := cond_some h
        simp only [Option.map_eq_some_iff] at h
        obtain ⟨_, _, rfl⟩ := h
        exact set_mono _ _
      · cases h
    · cases h
  · cases h
theorem eBuiltin_mono {b : Builtin} {argTypes : Array TypeId} {args : List AV} : VR.mono H (eBuiltin P o ev b argTypes args H) := by
  unfold eBuiltin
  split
  · split
    · exact Nat.le_refl _
    · exact vr_mono _
  · split
    · exact Nat.le_refl _
    · exact vr_mono _
  · split
    · split
      · exact vr2_mono fun q h => aappend_mono h
      · exact vr2_mono fun q h => aappend_mono h
      · trivial
    · trivial
  · split
    · exact vr2_mono fun q h => acopy_mono h
    · trivial
  · split
    · exact vr2_mono fun q h => eUnsafeString_mono h
    · trivial
  · rename_i i off len cap
    show VR.mono H (@Bool.rec (fun _ => VR) .no (.ok (.ptr i off) H) (Nat.ble 1 len))
    generalize Nat.ble 1 len = bb
    cases bb
    · trivial
    · exact Nat.le_refl _
  · exact vr_mono _
theorem aextern_mono {f : FuncId} {fn : Func} {args : List AV} {q : AV × AHeap} (h : aextern P f fn args H = some q) : H.next ≤ q.2.next := by
  unfold aextern at h
  split at h
  · split at h
    · cases h; exact Nat.le_refl _
    · have h := cond_some h
      split at h
      · simp only [Option.bind_eq_some_iff] at h
        obtain ⟨el, _, h⟩ := h
        have h := cond_some h
        cases h; exact new_mono _
      · cases h
  · split at h
    · have h := cond_some h
      cases h; exact Nat.le_refl _
    · cases h
theorem aenter_mono {f : FuncId} {args : List AV} : VR.mono H (aenter P f args H) := by
  unfold aenter
  cases hf : P.funcs[f]? with
  | none => trivial
  | some fn =>
    simp only
    cases hb : fn.body with
    | none => exact vr2_mono fun q h => aextern_mono h
    | some c => exact Nat.le_refl _
theorem acallee_mono {fv : AV} {args : List AV} : VR.mono H (acallee P fv args H) := by
  unfold acallee
  split
  · rename_i v
    cases hg : rawG v with
    | fn f => exact aenter_mono
    | no =>
      simp only
      split
      · exact aenter_mono
      · trivial
  · exact aenter_mono
  · exact Nat.le_refl _
  · trivial
theorem pConvert_mono {s d : TypeId} {x : AV} {q : AV × AHeap} (h : pConvert P o ev s d x H = some q) : H.next ≤ q.2.next := by
  have hm : ∀ {g : Option AV}, g.map (fun v => (v, H)) = some q → H.next ≤ q.2.next := fun h => by
    simp only [Option.map_eq_some_iff] at h
    obtain ⟨_, _, rfl⟩ := h
    exact Nat.le_refl _
  unfold pConvert at h
  split at h
  · split at h
    · split at h
      · have h := cond_some h
        simp only [Option.map_eq_some_iff] at h
        obtain ⟨_, _, rfl⟩ := h
        exact Nat.le_refl _
      · cases h
    · cases h
  · split at h
    · split at h
      · have h := cond_some h
        cases h; exact Nat.le_refl _
      · cases h
    · have h := cond_some h
      cases h; exact Nat.le_refl _
    · cases h
  · split at h
    · split at h
      · have h := cond_some h
        cases h; exact new_mono _
      · cases h
    · exact hm h
  · exact hm h
theorem aop_mono : VR.mono H (aop o.op P o ev H) := by
  cases ho : o.op with
  | move x => exact Nat.le_refl _
  | assign x => exact Nat.le_refl _
  | pick c a b =>
    show VR.mono H (hPick c a b P o ev H)
    unfold hPick
    cases boolV (ev c) with
    | no => trivial
    | mk b => cases b <;> exact Nat.le_refl _
  | alloc t =>
    show VR.mono H (hAlloc t P o ev H)
    unfold hAlloc
    cases zeroB P t with
    | none => trivial
    | some z => exact new_mono _
  | box t x => exact new_mono _
  | build t ps => exact vr_mono _
  | buildSlice t l ps =>
    refine vr2_mono fun q h => ?_
    unfold eBuildSlice at h
    simp only [Option.bind_eq_some_iff] at h
    obtain ⟨_, _, _, _, _, _, h⟩ := h
    have h := cond_some h
    simp only [Option.map_eq_some_iff] at h
    obtain ⟨_, _, rfl⟩ := h
    exact new_mono _
  | insert t m k v =>
    refine vr2_mono fun q h => ?_
    unfold eMapUpdate at h
    split at h
    · split at h
      · simp only [Option.map_eq_some_iff] at h
        obtain ⟨_, _, rfl⟩ := h
        exact set_mono _ _
      · cases h
    · cases h
  | load t x =>
    show VR.mono H (hLoad t x P o ev H)
    unfold hLoad
    cases ptrV (ev x) with
    | no => trivial
    | mk i off =>
      cases hb : blkV (H.get i) with
      | no => simp only [hb]; trivial
      | mk a b c d f => simp only [hb]; exact vr_mono _
  | store t x y =>
    show VR.mono H (hStore t x y P o ev H)
    unfold hStore
    cases ptrV (ev x) with
    | no => trivial
    | mk i off =>
      cases hb : blkV (H.get i) with
      | no => simp only [hb]; trivial
      | mk a b c d f =>
        simp only [hb]
        cases f <;> first | trivial | (cases d <;> first | trivial | skip)
        refine vr2_mono fun q h => ?_
        unfold eStore at h
        have h := cond_some h
        simp only [Option.map_eq_some_iff] at h
        obtain ⟨_, _, rfl⟩ := h
        exact set_mono _ _
  | nilCheck x =>
    show VR.mono H (hNil x P o ev H)
    unfold hNil
    cases ptrV (ev x) with
    | no => exact vr_mono _
    | mk i off => exact Nat.le_refl _
  | binOp op t x y yt =>
    show VR.mono H (hBin op t x y yt P o ev H)
    unfold hBin
    cases avW (ev x) with
    | no => exact vr_mono _
    | int k a =>
      cases avW (ev y) with
      | no => exact vr_mono _
      | int k' b =>
        cases hf : fastInt op k k' a b with
        | none => simp only [hf]; exact vr_mono _
        | some v => simp only [hf]; exact Nat.le_refl _
  | unOp op t x => exact vr_mono _
  | convert s d x => exact vr2_mono fun q h => pConvert_mono h
  | makeInterface t x => exact vr_mono _
  | makeFunc fn a c => exact Nat.le_refl _
  | makeMap t r =>
    refine vr2_mono fun q h => ?_
    unfold eMakeMap at h
    split at h
    · cases h; exact new_mono _
    · split at h
      · cases h; exact new_mono _
      · cases h
  | makeSlice t l c =>
    refine vr2_mono fun q h => ?_
    unfold eMakeSlice at h
    simp only [Option.bind_eq_some_iff] at h
    obtain ⟨_, _, _, _, _, _, _, _, _, _, h⟩ := h
    have h := cond_some h
    cases h; exact new_mono _
  | slice t x l h m => exact vr_mono _
  | fieldAddr s x f =>
    show VR.mono H (hFieldAddr s x f P o ev H)
    unfold hFieldAddr
    cases fv P s f with
    | no => trivial
    | mk a n t =>
      cases ptrV (ev x) with
      | no => trivial
      | mk i off =>
        cases hb : Nat.ble 1 n with
        | false => simp only [hb]; trivial
        | true => simp only [hb]; exact Nat.le_refl _
  | field t x f =>
    show VR.mono H (hField t x f P o ev H)
    unfold hField
    cases aggV (ev x) with
    | none => exact vr_mono _
    | some cs =>
      cases fv P t f with
      | no => trivial
      | mk a n t => exact vr_mono _
  | indexAddr t x i =>
    show VR.mono H (hIndexAddr t x i P o ev H)
    unfold hIndexAddr
    cases natV (ev i) with
    | no => trivial
    | mk k =>
      cases tv P t with
      | no => trivial
      | arr n s =>
        cases ptrV (ev x) with
        | no => trivial
        | mk i off =>
          cases hb : Nat.ble (Nat.succ k) n with
          | false => simp only [hb]; trivial
          | true => simp only [hb]; exact Nat.le_refl _
      | sl s =>
        cases sliceV (ev x) with
        | no => trivial
        | mk i off len cap =>
          cases hb : Nat.ble (Nat.succ k) len with
          | false => simp only [hb]; trivial
          | true => simp only [hb]; exact Nat.le_refl _
  | index t x i =>
    show VR.mono H (hIndex t x i P o ev H)
    unfold hIndex
    cases aggV (ev x) with
    | none => exact vr_mono _
    | some cs => exact vr_mono _
  | lookup t m k ok => exact vr_mono _
  | mapUpdate t m k v =>
    refine vr2_mono fun q h => ?_
    unfold eMapUpdate at h
    split at h
    · split at h
      · simp only [Option.map_eq_some_iff] at h
        obtain ⟨_, _, rfl⟩ := h
        exact set_mono _ _
      · cases h
    · cases h
  | typeAssert x a b c => exact vr_mono _
  | extract x i =>
    show VR.mono H (hExtract x i P o ev H)
    unfold hExtract
    cases tupV (ev x) with
    | none => exact vr_mono _
    | some cs => exact vr_mono _
  | call c =>
    obtain ⟨callee, args, argTypes⟩ := c
    cases callee with
    | value f => exact acallee_mono
    | invoke r m => trivial
    | builtin b => exact eBuiltin_mono
  | _ => trivial
end
end Go.Proofs.YtcdknjkkaonbiaaGreatDoor.Sx
