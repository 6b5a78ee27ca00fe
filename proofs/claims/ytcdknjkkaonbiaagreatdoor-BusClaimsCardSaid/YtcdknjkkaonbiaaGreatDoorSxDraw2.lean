/- The runner over an abstract memory: operations by kind; what they read of the slots. -/
import Derived.Test.YtcdknjkkaonbiaaGreatDoorSxDraw
namespace Go.Proofs.YtcdknjkkaonbiaaGreatDoor.Sx
open Go.RowKit
section
variable {P : Program} {B : Nat} {ρ : Env} {H : AHeap} {w : World} {o : Oper} {ev ev' : Ev}

theorem gen_congr (hp : plainOp o.op = true) (h : ∀ x ∈ o.op.operands.toList, ev x = ev' x) : gen P o ev = gen P o ev' := by
  unfold gen
  have e1 : (o.op.operands.toList.all fun x => (ev x).toRaw.isSome) = o.op.operands.toList.all fun x => (ev' x).toRaw.isSome := by
    rw [Bool.eq_iff_iff, List.all_eq_true, List.all_eq_true]
    exact ⟨fun hh x hx => by rw [← h x hx]; exact hh x hx, fun hh x hx => by rw [h x hx]; exact hh x hx⟩
  have e2 : execOp (evRaw ev) o = execOp (evRaw ev') o := execOp_congr hp fun x hx => by simp only [evRaw, h x hx]
  rw [e1, e2]

theorem map_congr' {l : List Operand} (h : ∀ x ∈ l, ev x = ev' x) : l.map ev = l.map ev' := List.map_congr_left h
theorem parts_congr {ps : Array (Nat × Operand)} (h : ∀ p ∈ ps.toList, ev p.2 = ev' p.2) : partsOf ev ps = partsOf ev' ps := List.map_congr_left fun p hp => by rw [h p hp]

theorem aop_congr (h : ∀ x ∈ o.op.operands.toList, ev x = ev' x) : aop o.op P o ev H = aop o.op P o ev' H := by
  cases ho : o.op with
  | move x =>
    have h1 := h x (by simp [ho, Op.operands])
    show hMove x P o ev H = hMove x P o ev' H
    simp only [hMove, h1]
  | assign x =>
    have h1 := h x (by simp [ho, Op.operands])
    show hMove x P o ev H = hMove x P o ev' H
    simp only [hMove, h1]
  | pick c a b =>
    have h1 := h c (by simp [ho, Op.operands])
    have h2 := h a (by simp [ho, Op.operands])
    have h3 := h b (by simp [ho, Op.operands])
    show hPick c a b P o ev H = hPick c a b P o ev' H
    simp only [hPick, h1, h2, h3]
  | box t x =>
    have h1 := h x (by simp [ho, Op.operands])
    show hBox t x P o ev H = hBox t x P o ev' H
    simp only [hBox, h1]
  | build t ps =>
    have h1 := parts_congr (ev := ev) (ev' := ev') (ps := ps) fun p hp => h p.2 (by simp only [ho, Op.operands]; exact List.mem_map_of_mem hp)
    show hBuild t ps P o ev H = hBuild t ps P o ev' H
    simp only [hBuild, pBuild, h1]
  | buildSlice t l ps =>
    have h1 := parts_congr (ev := ev) (ev' := ev') (ps := ps) fun p hp => h p.2 (by simp only [ho, Op.operands]; exact List.mem_map_of_mem hp)
    show hBuildSlice t l ps P o ev H = hBuildSlice t l ps P o ev' H
    simp only [hBuildSlice, eBuildSlice, h1]
  | insert t m k v =>
    have h1 := h m (by simp [ho, Op.operands])
    have h2 := h k (by simp [ho, Op.operands])
    have h3 := h v (by simp [ho, Op.operands])
    show hMapUpdate t m k v P o ev H = hMapUpdate t m k v P o ev' H
    simp only [hMapUpdate, h1, h2, h3]
  | mapUpdate t m k v =>
    have h1 := h m (by simp [ho, Op.operands])
    have h2 := h k (by simp [ho, Op.operands])
    have h3 := h v (by simp [ho, Op.operands])
    show hMapUpdate t m k v P o ev H = hMapUpdate t m k v P o ev' H
    simp only [hMapUpdate, h1, h2, h3]
  | load t x =>
    have h1 := h x (by simp [ho, Op.operands])
    show hLoad t x P o ev H = hLoad t x P o ev' H
    simp only [hLoad, h1]
  | store t x y =>
    have h1 := h x (by simp [ho, Op.operands])
    have h2 := h y (by simp [ho, Op.operands])
    show hStore t x y P o ev H = hStore t x y P o ev' H
    simp only [hStore, h1, h2]
  | nilCheck x =>
    have h1 := h x (by simp [ho, Op.operands])
    have hg := gen_congr (P := P) (by rw [ho]; rfl) h
    show hNil x P o ev H = hNil x P o ev' H
    simp only [hNil, pNil, h1, hg]
  | binOp op t x y yt =>
    have h1 := h x (by simp [ho, Op.operands])
    have h2 := h y (by simp [ho, Op.operands])
    have hg := gen_congr (P := P) (by rw [ho]; rfl) h
    show hBin op t x y yt P o ev H = hBin op t x y yt P o ev' H
    simp only [hBin, pBin, pInt, aeq, h1, h2, hg]
  | unOp op t x =>
    have hg := gen_congr (P := P) (by rw [ho]; rfl) h
    show hGen P o ev H = hGen P o ev' H
    simp only [hGen, hg]
  | typeAssert a b c d =>
    have hg := gen_congr (P := P) (by rw [ho]; rfl) h
    show hGen P o ev H = hGen P o ev' H
    simp only [hGen, hg]
  | convert s d x =>
    have h1 := h x (by simp [ho, Op.operands])
    have hg := gen_congr (P := P) (by rw [ho]; rfl) h
    show hConvert s d x P o ev H = hConvert s d x P o ev' H
    simp only [hConvert, pConvert, h1, hg]
  | makeInterface t x =>
    have h1 := h x (by simp [ho, Op.operands])
    show hIface t x P o ev H = hIface t x P o ev' H
    simp only [hIface, h1]
  | makeFunc fn f c =>
    have h1 := map_congr' (ev := ev) (ev' := ev') (l := f.toList) fun x hx => h x (by simp only [ho, Op.operands, Array.toList_append]; exact List.mem_append_left _ hx)
    have h2 := map_congr' (ev := ev) (ev' := ev') (l := c.toList) fun x hx => h x (by simp only [ho, Op.operands, Array.toList_append]; exact List.mem_append_right _ hx)
    show hFunc fn f c P o ev H = hFunc fn f c P o ev' H
    simp only [hFunc, h1, h2]
  | makeMap t r =>
    show hMakeMap t r P o ev H = hMakeMap t r P o ev' H
    cases r with
    | none => rfl
    | some x =>
      have h1 := h x (by simp [ho, Op.operands])
      simp only [hMakeMap, eMakeMap, h1]
  | makeSlice t l c =>
    have h1 := h l (by simp [ho, Op.operands])
    have h2 := h c (by simp [ho, Op.operands])
    show hMakeSlice t l c P o ev H = hMakeSlice t l c P o ev' H
    simp only [hMakeSlice, h1, h2]
  | slice t x l hi m =>
    have h1 := h x (by simp [ho, Op.operands])
    have h2 : l.map ev = l.map ev' := by
      cases l with
      | none => rfl
      | some y => simp [h y (by simp [ho, Op.operands])]
    have h3 : hi.map ev = hi.map ev' := by
      cases hi with
      | none => rfl
      | some y => simp [h y (by simp [ho, Op.operands])]
    have h4 : m.map ev = m.map ev' := by
      cases m with
      | none => rfl
      | some y => simp [h y (by simp [ho, Op.operands])]
    have hg := gen_congr (P := P) (by rw [ho]; rfl) h
    show hSlice t x l hi m P o ev H = hSlice t x l hi m P o ev' H
    simp only [hSlice, pSlice, h1, h2, h3, h4, hg]
  | fieldAddr s x f =>
    have h1 := h x (by simp [ho, Op.operands])
    show hFieldAddr s x f P o ev H = hFieldAddr s x f P o ev' H
    simp only [hFieldAddr, h1]
  | field t x f =>
    have h1 := h x (by simp [ho, Op.operands])
    have hg := gen_congr (P := P) (by rw [ho]; rfl) h
    show hField t x f P o ev H = hField t x f P o ev' H
    simp only [hField, h1, hg]
  | indexAddr t x i =>
    have h1 := h x (by simp [ho, Op.operands])
    have h2 := h i (by simp [ho, Op.operands])
    show hIndexAddr t x i P o ev H = hIndexAddr t x i P o ev' H
    simp only [hIndexAddr, h1, h2]
  | index t x i =>
    have h1 := h x (by simp [ho, Op.operands])
    have h2 := h i (by simp [ho, Op.operands])
    have hg := gen_congr (P := P) (by rw [ho]; rfl) h
    show hIndex t x i P o ev H = hIndex t x i P o ev' H
    simp only [hIndex, h1, h2, hg]
  | lookup t m k ok =>
    have h1 := h m (by simp [ho, Op.operands])
    have h2 := h k (by simp [ho, Op.operands])
    have hg := gen_congr (P := P) (by rw [ho]; rfl) h
    show hLookup t m k ok P o ev H = hLookup t m k ok P o ev' H
    simp only [hLookup, pLookup, h1, h2, hg]
  | extract x i =>
    have h1 := h x (by simp [ho, Op.operands])
    have hg := gen_congr (P := P) (by rw [ho]; rfl) h
    show hExtract x i P o ev H = hExtract x i P o ev' H
    simp only [hExtract, h1, hg]
  | call c =>
    obtain ⟨callee, args, argTypes⟩ := c
    have h1 := map_congr' (ev := ev) (ev' := ev') (l := args.toList) fun x hx => h x (by simp only [ho, Op.operands, Call.operands, Array.toList_append]; exact List.mem_append_right _ hx)
    have hg := gen_congr (P := P) (by rw [ho]; rfl) h
    show hCall ⟨callee, args, argTypes⟩ P o ev H = hCall ⟨callee, args, argTypes⟩ P o ev' H
    cases callee with
    | value f =>
      have h2 := h f (by simp [ho, Op.operands, Call.operands])
      simp only [hCall, h1, h2]
    | builtin b => simp only [hCall, eBuiltin, h1, hg]
    | invoke r m => rfl
  | _ => rfl

/-! ### by kind -/
theorem vr_ok {x : Option AV} {v : AV} {H1 : AHeap} (h : vr H x = .ok v H1) : x = some v ∧ H1 = H := by
  cases x with
  | none => cases h
  | some y => cases h; exact ⟨rfl, rfl⟩
theorem vr_any {x : Option AV} {v : AV} {H1 : AHeap} (h : vr H x = .ok v H1) (H2 : AHeap) : vr H2 x = .ok v H2 := by
  obtain ⟨rfl, _⟩ := vr_ok h; rfl
theorem kd_p (hk : kdOf o.op = .p) {v : AV} {H1 : AHeap} (h : aop o.op P o ev H = .ok v H1) (H2 : AHeap) : aop o.op P o ev H2 = .ok v H2 := by
  cases ho : o.op with
  | move x => rw [ho] at h; cases h; rfl
  | assign x => rw [ho] at h; cases h; rfl
  | pick c a b =>
    rw [ho] at h
    have h : hPick c a b P o ev H = .ok v H1 := h
    show hPick c a b P o ev H2 = .ok v H2
    unfold hPick at h ⊢
    cases hb : boolV (ev c) with
    | no => rw [hb] at h; cases h
    | mk q => rw [hb] at h; cases q <;> (cases h; rfl)
  | build t ps => rw [ho] at h; exact vr_any h H2
  | nilCheck x =>
    rw [ho] at h
    have h : hNil x P o ev H = .ok v H1 := h
    show hNil x P o ev H2 = .ok v H2
    unfold hNil at h ⊢
    cases hb : ptrV (ev x) with
    | no => rw [hb] at h; exact vr_any h H2
    | mk i off => rw [hb] at h; cases h; rfl
  | binOp op t x y yt =>
    rw [ho] at h
    have h : hBin op t x y yt P o ev H = .ok v H1 := h
    show hBin op t x y yt P o ev H2 = .ok v H2
    unfold hBin at h ⊢
    cases hb : avW (ev x) with
    | no => rw [hb] at h; exact vr_any h H2
    | int k a =>
      rw [hb] at h
      simp only at h ⊢
      cases hb2 : avW (ev y) with
      | no => rw [hb2] at h; exact vr_any h H2
      | int k' b =>
        rw [hb2] at h
        simp only at h ⊢
        cases hf : fastInt op k k' a b with
        | none => rw [hf] at h; exact vr_any h H2
        | some q => rw [hf] at h; cases h; rfl
  | unOp op t x => rw [ho] at h; exact vr_any h H2
  | typeAssert a b c d => rw [ho] at h; exact vr_any h H2
  | makeInterface t x => rw [ho] at h; exact vr_any h H2
  | makeFunc fn f c => rw [ho] at h; cases h; rfl
  | slice t x l hi m => rw [ho] at h; exact vr_any h H2
  | fieldAddr s x f =>
    rw [ho] at h
    have h : hFieldAddr s x f P o ev H = .ok v H1 := h
    show hFieldAddr s x f P o ev H2 = .ok v H2
    unfold hFieldAddr at h ⊢
    cases hf : fv P s f with
    | no => rw [hf] at h; cases h
    | mk a n t =>
      rw [hf] at h
      simp only at h ⊢
      cases hb : ptrV (ev x) with
      | no => rw [hb] at h; cases h
      | mk i off =>
        rw [hb] at h
        simp only at h ⊢
        cases hn : Nat.ble 1 n with
        | false => rw [hn] at h; cases h
        | true => rw [hn] at h; cases h; rfl
  | field t x f =>
    rw [ho] at h
    have h : hField t x f P o ev H = .ok v H1 := h
    show hField t x f P o ev H2 = .ok v H2
    unfold hField at h ⊢
    cases hb : aggV (ev x) with
    | none => rw [hb] at h; exact vr_any h H2
    | some cs =>
      rw [hb] at h
      simp only at h ⊢
      cases hf : fv P t f with
      | no => rw [hf] at h; cases h
      | mk a n t => rw [hf] at h; exact vr_any h H2
  | indexAddr t x i =>
    rw [ho] at h
    have h : hIndexAddr t x i P o ev H = .ok v H1 := h
    show hIndexAddr t x i P o ev H2 = .ok v H2
    unfold hIndexAddr at h ⊢
    cases hk2 : natV (ev i) with
    | no => rw [hk2] at h; cases h
    | mk k =>
      rw [hk2] at h
      simp only at h ⊢
      cases ht : tv P t with
      | no => rw [ht] at h; cases h
      | arr n s =>
        rw [ht] at h
        simp only at h ⊢
        cases hb : ptrV (ev x) with
        | no => rw [hb] at h; cases h
        | mk i off =>
          rw [hb] at h
          simp only at h ⊢
          cases hn : Nat.ble (Nat.succ k) n with
          | false => rw [hn] at h; cases h
          | true => rw [hn] at h; cases h; rfl
      | sl s =>
        rw [ht] at h
        simp only at h ⊢
        cases hb : sliceV (ev x) with
        | no => rw [hb] at h; cases h
        | mk i off len cap =>
          rw [hb] at h
          simp only at h ⊢
          cases hn : Nat.ble (Nat.succ k) len with
          | false => rw [hn] at h; cases h
          | true => rw [hn] at h; cases h; rfl
  | index t x i =>
    rw [ho] at h
    have h : hIndex t x i P o ev H = .ok v H1 := h
    show hIndex t x i P o ev H2 = .ok v H2
    unfold hIndex at h ⊢
    cases hb : aggV (ev x) with
    | none => rw [hb] at h; exact vr_any h H2
    | some cs => rw [hb] at h; exact vr_any h H2
  | extract x i =>
    rw [ho] at h
    have h : hExtract x i P o ev H = .ok v H1 := h
    show hExtract x i P o ev H2 = .ok v H2
    unfold hExtract at h ⊢
    cases hb : tupV (ev x) with
    | none => rw [hb] at h; exact vr_any h H2
    | some cs => rw [hb] at h; exact vr_any h H2
  | call c =>
    obtain ⟨callee, args, argTypes⟩ := c
    rw [ho] at h hk
    cases callee with
    | value f => cases hk
    | invoke r m => cases hk
    | builtin b =>
      have h : eBuiltin P o ev b argTypes (args.toList.map ev) H = .ok v H1 := h
      show eBuiltin P o ev b argTypes (args.toList.map ev) H2 = .ok v H2
      unfold eBuiltin at h ⊢
      split at h
      · split at h
        · cases h; rfl
        · exact vr_any h H2
      · split at h
        · cases h; rfl
        · exact vr_any h H2
      · cases hk
      · cases hk
      · cases hk
      · rename_i i off len cap _ _
        have h : @Bool.rec (fun _ => VR) .no (.ok (.ptr i off) H) (Nat.ble 1 len) = .ok v H1 := h
        show @Bool.rec (fun _ => VR) .no (.ok (.ptr i off) H2) (Nat.ble 1 len) = .ok v H2
        cases hn : Nat.ble 1 len with
        | false => rw [hn] at h; cases h
        | true => rw [hn] at h; cases h; rfl
      · exact vr_any h H2
  | _ => rw [ho] at hk; cases hk
theorem kd_r (hk : kdOf o.op = .r) {v : AV} {H1 : AHeap} (h : aop o.op P o ev H = .ok v H1) : H1 = H := by
  cases ho : o.op with
  | load t x =>
    rw [ho] at h
    have h : hLoad t x P o ev H = .ok v H1 := h
    unfold hLoad at h
    cases hb : ptrV (ev x) with
    | no => rw [hb] at h; cases h
    | mk i off =>
      rw [hb] at h
      simp only at h
      cases hc : blkV (H.get i) with
      | no => rw [hc] at h; cases h
      | mk a b c d e => rw [hc] at h; exact (vr_ok h).2
  | lookup t m k ok => rw [ho] at h; exact (vr_ok h).2
  | call c =>
    obtain ⟨callee, args, argTypes⟩ := c
    rw [ho] at hk
    cases callee with
    | value f => cases hk
    | invoke r m => cases hk
    | builtin b => cases b <;> cases hk
  | _ => rw [ho] at hk; cases hk
theorem kd_a (hk : kdOf o.op = .a) {v : AV} {H1 : AHeap} (h : aop o.op P o ev H = .ok v H1) : v = .ptr H.next 0 ∧ ∃ blk, H1 = H.new blk ∧ ∀ ev2 H2, aop o.op P o ev2 H2 = .ok (.ptr H2.next 0) (H2.new blk) := by
  cases ho : o.op with
  | alloc t =>
    rw [ho] at h
    have h : hAlloc t P o ev H = .ok v H1 := h
    unfold hAlloc at h
    cases hz : zeroB P t with
    | none => rw [hz] at h; cases h
    | some z =>
      rw [hz] at h
      cases h
      refine ⟨rfl, _, rfl, fun ev2 H2 => ?_⟩
      show hAlloc t P o ev2 H2 = _
      unfold hAlloc
      rw [hz]
  | call c =>
    obtain ⟨callee, args, argTypes⟩ := c
    rw [ho] at hk
    cases callee with
    | value f => cases hk
    | invoke r m => cases hk
    | builtin b => cases b <;> cases hk
  | _ => rw [ho] at hk; cases hk
end
end Go.Proofs.YtcdknjkkaonbiaaGreatDoor.Sx
