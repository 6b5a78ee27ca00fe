/- A loop over an iterator that writes blocks of its own between two rounds, and that hands each round a new row. -/
import Derived.Test.YtbldpojkpmafpaaGreatDoorZaBusOwn
import Derived.RangeFuncFrom
namespace Go.Proofs.YtbldpojkpmafpaaGreatDoor
open Go.RowKit

structure Turns (O : Nat → Prop) (W W' : World) : Prop where
  os : W'.os = W.os
  tape : W'.tape = W.tape
  output : W'.output = W.output
  size : W.heap.size ≤ W'.heap.size
  block : ∀ k, k < W.heap.size → ¬ O k → W'.heap[k]? = W.heap[k]?
theorem Turns.refl (O : Nat → Prop) (W : World) : Turns O W W := ⟨rfl, rfl, rfl, Nat.le_refl _, fun _ _ _ => rfl⟩
theorem Turns.trans {O O' : Nat → Prop} {A B C : World} (h : Turns O A B) (k : Turns O' B C) (hO : ∀ b, b < A.heap.size → O' b → O b) : Turns O A C :=
  ⟨k.os.trans h.os, k.tape.trans h.tape, k.output.trans h.output, Nat.le_trans h.size k.size, fun i hi ho => (k.block i (Nat.lt_of_lt_of_le hi h.size) fun e => ho (hO i hi e)).trans (h.block i hi ho)⟩
theorem Turns.then {O : Nat → Prop} {A B C : World} (h : Turns O A B) (k : Turns O B C) : Turns O A C := h.trans k fun _ _ e => e
theorem Turns.mono {O O' : Nat → Prop} {A B : World} (h : Turns O A B) (hO : ∀ b, O b → O' b) : Turns O' A B := ⟨h.os, h.tape, h.output, h.size, fun i hi ho => h.block i hi fun e => ho (hO i e)⟩
theorem Turns.alloc {O : Nat → Prop} {A B : World} (h : Turns O A B) (o : Obj) : Turns O A (B.alloc o) :=
  ⟨h.os, h.tape, h.output, by simp; have := h.size; omega, fun i hi ho => (Below.heap_alloc B o i (Nat.lt_of_lt_of_le hi h.size)).trans (h.block i hi ho)⟩
theorem Turns.setCell {O : Nat → Prop} {A B : World} (h : Turns O A B) {p : Addr} (hp : O p.block) (u : Value) : Turns O A (B.setCell p u) :=
  ⟨h.os, h.tape, h.output, by simp [World.setCell]; exact h.size, fun i hi ho => (Below.heap_setCell B p u i fun e => ho (e ▸ hp)).trans (h.block i hi ho)⟩
theorem Turns.putObj {O : Nat → Prop} {A B : World} (h : Turns O A B) {l : Nat} (hp : O l) (o : Obj) : Turns O A (B.putObj l o) :=
  have g := grownBy_putObj' B l o
  ⟨g.os.trans h.os, g.tape.trans h.tape, g.output.trans h.output, Nat.le_trans h.size g.size, fun i hi ho => (g.block i (Nat.lt_of_lt_of_le hi h.size) fun e => ho (by injection e with e; rw [e]; exact hp)).trans (h.block i hi ho)⟩
theorem Turns.drew {O : Nat → Prop} {A B : World} (h : Turns O A B) : Turns O A B.drew := ⟨h.os, h.tape, h.output, h.size, h.block⟩
theorem Turns.drewN {O : Nat → Prop} {A B : World} (h : Turns O A B) (n : Nat) : Turns O A (B.drewN n) := ⟨h.os, h.tape, h.output, h.size, h.block⟩
theorem Turns.grown {O : Nat → Prop} {A B C : World} {row : Option Nat} (h : Turns O A B) (g : B.grownBy C row) (hr : ∀ r, row = some r → O r) : Turns O A C :=
  ⟨g.os.trans h.os, g.tape.trans h.tape, g.output.trans h.output, Nat.le_trans h.size g.size, fun i hi ho => (g.block i (Nat.lt_of_lt_of_le hi h.size) fun e => ho (hr i e.symm)).trans (h.block i hi ho)⟩
theorem Turns.after {O : Nat → Prop} {A B C : World} (h : Turns O A B) (k : Below B.heap.size B C) : Turns O A C :=
  ⟨k.os.trans h.os, k.tape.trans h.tape, k.output.trans h.output, Nat.le_trans h.size k.size, fun i hi ho => (k.block i (Nat.lt_of_lt_of_le hi h.size)).trans (h.block i hi ho)⟩
theorem Turns.below {O : Nat → Prop} {A B : World} {n : Nat} (h : Turns O A B) (hO : ∀ b, O b → n ≤ b) (hn : n ≤ A.heap.size) : Below n A B :=
  ⟨h.os, h.tape, h.output, h.size, fun i hi => h.block i (by omega) fun e => by have := hO i e; omega⟩
theorem Turns.blk {O : Nat → Prop} {A B : World} (h : Turns O A B) {b : Nat} {t : TypeId} {cs : Array Value} (hb : Blk A b t cs) (ho : ¬ O b) : Blk B b t cs := (h.block b hb.lt ho).trans hb
theorem Turns.own {O : Nat → Prop} {A B : World} (h : Turns O A B) {base size n : Nat} {e : TypeId} {v : Value} {vs : List Value} (ho : A.ownsRow base e size v n vs) (hO : ∀ b, some b = v.ownBlock → ¬ O b) : B.ownsRow base e size v n vs :=
  own_keep ho fun b hb => h.block b (ho.lt b hb.symm).2 (hO b hb)

theorem callsIn_any {n m : Nat} {P : Program} {f : FuncId} {args : Array Value} {w : World} {R : Ending → World → Prop} (h : CallsIn Fence.wide n P f args w R) : CallsIn Fence.wide m P f args w R := callsIn_wide.2 (callsIn_wide.1 h)
theorem roundIn_any {n m : Nat} {P : Program} {l : Nat} {f : FuncId} {tmps : Array Value} {assign body : Code} {w : World} {R : Ending → World → Prop} (h : RoundIn Fence.wide n P l f tmps assign body w R) : RoundIn Fence.wide m P l f tmps assign body w R :=
  ⟨h.1, fun c cs _ => h.2 c cs (room_wide _)⟩

abbrev Lst := Option Addr × Nat × List Int
def ordV (x : Lst) : Value := .slice x.1 x.2.2.length x.2.1
structure AtRow (B : Nat) (O : Nat → Prop) (G : List Int → Prop) (x : Lst) (W : World) : Prop where
  own : W.ownsRow B 3 1 (ordV x) x.2.2.length (ic x.2.2)
  inO : ∀ b, some b = (ordV x).ownBlock → O b
  good : G x.2.2
def Less (O : Nat → Prop) (x : Lst) : Nat → Prop := fun b => O b ∧ some b ≠ (ordV x).ownBlock
def AbidesSet (J : List Lst → (Nat → Prop) → World → Prop) : Prop :=
  ∀ pre (O O' : Nat → Prop) W1 W2, J pre O W1 → Turns O W1 W2 → (∀ b, O' b → O b ∨ W1.heap.size ≤ b) → J pre O' W2
def SeqOwn (P : Program) (g : FuncId) (lb : Array Value) (O0 : Nat → Prop) (G : List Int → Prop) (S : List (List Int) → Prop) (w : World) : Prop :=
  ∀ (l : Nat) (J : List Lst → (Nat → Prop) → World → Prop) (W : World), Below w.heap.size w W → AbidesSet J →
    (∀ pre x O W1, J pre O W1 → (∀ b, O b → O0 b ∨ W.heap.size ≤ b) → (∀ b, O b → b < W1.heap.size) → AtRow W.heap.size O G x W1 →
      YieldAt Fence.wide 0 P l #[ordV x] W1 fun e W' => e = .returned (.bool true) ∧ J (pre ++ [x]) (Less O x) W' ∧ Turns (fun b => ¬ Less O x b) W1 W') →
    J [] O0 W → CallsIn Fence.wide 0 P g (#[.func (.yield l) #[] #[]] ++ lb) W fun e W' => (∃ v, e = .returned v) ∧ ∃ xs O, S (xs.map fun x => x.2.2) ∧ J xs O W'
def setPost (I : List Lst → (Nat → Prop) → World → Prop) (O : Nat → Prop) (xs : List Lst) (W : World) : Exit → Act → World → Prop
  | .normal, _, W' => I xs O W' ∧ Turns (fun b => ¬ O b) W W'
  | _, _, _ => False

theorem wpIn_rangeFunc_set {n : Nat} {P : Program} {g : Operand} {ps : Array Tmp} {assign body : Code} {Q : Exit → Act → World → Prop} {a : Act} {w : World} {gf : Nat} {lb : Array Value} {O0 : Nat → Prop} {G : List Int → Prop} {S : List (List Int) → Prop} {w0 : World}
    (hg : a.eval g = .func (.func gf) #[] lb) (eg : ∀ args w, (callFunc gf args).run P w = .ok (.enter gf args) w) (hseq : SeqOwn P gf lb O0 G S w0) (hb0 : Below w0.heap.size w0 w) (hps : ps.size = 1) (hO0 : ∀ b, O0 b → b < w.heap.size)
    (I : List Lst → (Nat → Prop) → World → Prop) (hI : AbidesSet I) (h0 : I [] O0 w) (a₁ : Lst → Act)
    (hassign : ∀ (l : Nat) (x : Lst) (W : World) (K : Act → World → Prop), K (a₁ x) W → assign.wpIn (Fence.wide.inRound l) 0 P (Exit.then K (fun _ _ _ => False)) { tmps := (ps.zip #[ordV x]).foldl (fun t (p, v) => t.setIfInBounds p v) a.tmps, defers := [] } W)
    (hbody : ∀ (l : Nat) (pre : List Lst) (x : Lst) (O : Nat → Prop) (W : World), I pre O W → (∀ b, O b → O0 b ∨ w.heap.size ≤ b) → (∀ b, O b → b < W.heap.size) → AtRow w.heap.size O G x W → body.wpIn (Fence.wide.inRound l) 0 P (setPost I (Less O x) (pre ++ [x]) W) (a₁ x) W)
    (hdone : ∀ (D : Nat) (xs : List Lst) (O : Nat → Prop) (W : World), w.heap.size ≤ D → O D → S (xs.map fun x => x.2.2) → I xs O W → W.heap[D]? = some (.deferred (some [])) → Q .normal { a with defers := { target := .collected D, args := #[] } :: a.defers } W) :
    (Code.rangeFunc g ps assign body).wpIn Fence.wide n P Q a w := by
  refine wpIn_rangeFunc ?_
  intro fn hfn
  obtain ⟨rec, hrec⟩ : ∃ rec : LoopState → Option Code → Loop, rec = fun st pe => { state := st, pending := pe, fn, tmps := a.tmps, params := ps, assign, body, defers := w.heap.size } := ⟨_, rfl⟩
  obtain ⟨W1, hW1⟩ : ∃ W1, (w.alloc (.deferred (some []))).alloc (.loop (rec .ready none)) = W1 := ⟨_, rfl⟩
  have hs1 : W1.heap.size = w.heap.size + 2 := by rw [← hW1]; simp
  have hL1 : W1.heap[w.heap.size + 1]? = some (.loop (rec .ready none)) := by
    rw [← hW1]; have := World.alloc_heap_new (w.alloc (.deferred (some []))) (.loop (rec .ready none)); rwa [World.size_alloc] at this
  have hK1 : W1.heap[w.heap.size]? = some (.deferred (some [])) := by
    rw [← hW1]; exact (Below.heap_alloc _ _ _ (by simp)).trans (World.alloc_heap_new w _)
  have ht1 : Turns O0 w W1 := by rw [← hW1]; exact ((Turns.refl _ w).alloc _).alloc _
  have hb1 : Below w0.heap.size w0 W1 := by
    rw [← hW1]; exact hb0.trans ((((Below.refl _ w).alloc (Nat.le_refl _) _).alloc (by simp) _).mono hb0.size)
  have hrun := run_enterLoop_outer (P := P) (w := w) fn a.tmps ps assign body
  refine ⟨w.heap.size + 1, [{ target := .collected w.heap.size, args := #[] }], W1, { target := .fn (.func gf) lb, args := #[.func (.yield (w.heap.size + 1)) #[] #[]] }, W1, gf,
    #[.func (.yield (w.heap.size + 1)) #[] #[]] ++ lb, W1, ?_, ?_, ?_, ?_, fun h => by simp [Fence.wide] at h, ?_⟩
  · rw [← hW1, hrec]; exact hrun
  · simp only [resolve, hg]
    simp [go_sem]
  · intro f' hf'; trivial
  · simp [invoke, go_sem, eg]
  · -- the iterator's contract, where what the caller knows has the loop's own two blocks among those that turn
    refine (callsIn_any (hseq (w.heap.size + 1)
      (fun pre O W => (∀ b, O b → O0 b ∨ w.heap.size + 2 ≤ b) ∧ I pre (fun b => b = w.heap.size ∨ b = w.heap.size + 1 ∨ O b) W ∧ W.heap[w.heap.size + 1]? = some (.loop (rec .ready none)) ∧ W.heap[w.heap.size]? = some (.deferred (some [])))
      W1 hb1 ?abides ?round ⟨fun b hb => .inl hb, hI _ _ _ _ _ h0 ht1 (fun b hb => by rcases hb with rfl | rfl | hb <;> first | (right; omega) | exact .inl hb), hL1, hK1⟩)).mono ?behind
    case abides =>
      rintro pre O O' A B ⟨hlo, hi, hl, hk⟩ ht hO
      have hne : ∀ b, b = w.heap.size ∨ b = w.heap.size + 1 → ¬ O b := fun b hb e => by rcases hlo b e with h | h <;> first | omega | (have := hO0 b h; omega)
      have hlt : w.heap.size + 1 < A.heap.size := (Array.getElem?_eq_some_iff.1 hl).1
      refine ⟨fun b hb => ?_, hI _ _ _ _ _ hi (ht.mono fun b hb => .inr (.inr hb)) (fun b hb => ?_), (ht.block _ hlt (hne _ (.inr rfl))).trans hl, (ht.block _ (by omega) (hne _ (.inl rfl))).trans hk⟩
      · rcases hO b hb with h | h
        · exact hlo b h
        · right; omega
      · rcases hb with rfl | rfl | hb
        · exact .inl (.inl rfl)
        · exact .inl (.inr (.inl rfl))
        · rcases hO b hb with h | h
          · exact .inl (.inr (.inr h))
          · exact .inr h
    case round =>
      rintro pre x O W ⟨hlo, hi, hl, hk⟩ hlo2 hup hat
      have hne : ∀ b, b = w.heap.size ∨ b = w.heap.size + 1 → ¬ O b := fun b hb e => by rcases hlo b e with h | h <;> first | omega | (have := hO0 b h; omega)
      have hlt : w.heap.size + 1 < W.heap.size := (Array.getElem?_eq_some_iff.1 hl).1
      have hy := run_yield (P := P) (args := #[ordV x]) hl (by rw [hrec]; exact hps.symm)
      rw [hrec] at hy
      have hbr : (Instr.beginRound (w.heap.size + 1)).run P W = .ok () (W.putObj (w.heap.size + 1) (.loop (rec .busy none))) := by
        have := run_beginRound (P := P) hl (by rw [hrec])
        rw [hrec] at this ⊢
        exact this
      refine ⟨fn, _, assign, body, hy, roundIn_of_wpIn hfn (hassign _ x W _ ⟨_, hbr, ?_⟩)⟩
      have hl2 : (W.putObj (w.heap.size + 1) (.loop (rec .busy none))).heap[w.heap.size + 1]? = some (.loop (rec .busy none)) := World.putObj_heap_same hlt
      have hk2 : (W.putObj (w.heap.size + 1) (.loop (rec .busy none))).heap[w.heap.size]? = some (.deferred (some [])) := (World.putObj_heap_other (by omega)).trans hk
      have ht2 : Turns (fun b => b = w.heap.size ∨ b = w.heap.size + 1 ∨ O b) W (W.putObj (w.heap.size + 1) (.loop (rec .busy none))) := (Turns.refl _ W).putObj (.inr (.inl rfl)) _
      have hz2 := ht2.size
      have hi2 := hI _ _ _ _ _ hi ht2 (fun b hb => .inl hb)
      have ho2 : ∀ b, O b → (W.putObj (w.heap.size + 1) (.loop (rec .busy none))).heap[b]? = W.heap[b]? := fun b hb => World.putObj_heap_other fun e => hne b (.inr e) hb
      have hat2 : AtRow w.heap.size (fun b => b = w.heap.size ∨ b = w.heap.size + 1 ∨ O b) G x (W.putObj (w.heap.size + 1) (.loop (rec .busy none))) := by
        refine ⟨own_base (own_keep hat.own fun b hb => World.putObj_heap_other fun e => ?_) (by omega), fun b hb => .inr (.inr (hat.inO b hb)), hat.good⟩
        have := (hat.own.lt b hb.symm).1; omega
      have hlt1 : ∀ b, some b = (ordV x).ownBlock → w.heap.size + 2 ≤ b := fun b hb => by have := (hat.own.lt b hb.symm).1; omega
      have hD : Less (fun b => b = w.heap.size ∨ b = w.heap.size + 1 ∨ O b) x w.heap.size := ⟨.inl rfl, fun e => by have := hlt1 _ e; omega⟩
      have hL : Less (fun b => b = w.heap.size ∨ b = w.heap.size + 1 ∨ O b) x (w.heap.size + 1) := ⟨.inr (.inl rfl), fun e => by have := hlt1 _ e; omega⟩
      have hLe : ∀ b, Less O x b → Less (fun b => b = w.heap.size ∨ b = w.heap.size + 1 ∨ O b) x b := fun b hb => ⟨.inr (.inr hb.1), hb.2⟩
      refine wpIn_mono (hbody _ pre x _ _ hi2 (fun b hb => ?lo2) (fun b hb => ?up2) hat2) ?after
      case lo2 =>
        rcases hb with rfl | rfl | hb
        · right; omega
        · right; omega
        · rcases hlo b hb with h | h
          · exact .inl h
          · right; omega
      case up2 =>
        rcases hb with rfl | rfl | hb
        · omega
        · omega
        · have := hup b hb; omega
      generalize W.putObj (w.heap.size + 1) (.loop (rec .busy none)) = W2 at *
      rintro e a3 W3 hp
      cases e with
      | normal =>
        obtain ⟨hi3, ht3⟩ := hp
        have hl3 : W3.heap[w.heap.size + 1]? = some (.loop (rec .busy none)) := (ht3.block _ (Array.getElem?_eq_some_iff.1 hl2).1 (fun h => h hL)).trans hl2
        have hk3 : W3.heap[w.heap.size]? = some (.deferred (some [])) := (ht3.block _ (Array.getElem?_eq_some_iff.1 hk2).1 (fun h => h hD)).trans hk2
        have hr := run_endRound (P := P) none hl3
        rw [hrec] at hr
        have ht4 : Turns (fun b => b = w.heap.size + 1) W3 (W3.putObj (w.heap.size + 1) (.loop (rec .ready none))) := (Turns.refl (fun b => b = w.heap.size + 1) W3).putObj (l := w.heap.size + 1) rfl _
        refine ⟨_, _, hr, rfl, ⟨fun b hb => hlo b hb.1, hI _ _ _ _ _ hi3 (by rw [hrec] at ht4; exact ht4.mono fun b hb => hb ▸ hL) (fun b hb => .inl (by rcases hb with rfl | rfl | hb; exact hD; exact hL; exact hLe b hb)), by rw [hrec]; exact World.putObj_heap_same (Array.getElem?_eq_some_iff.1 hl3).1, (World.putObj_heap_other (by omega)).trans hk3⟩, ?_⟩
        rw [hrec] at ht4
        refine ⟨ht4.os.trans (ht3.os.trans ht2.os), ht4.tape.trans (ht3.tape.trans ht2.tape), ht4.output.trans (ht3.output.trans ht2.output), Nat.le_trans ht2.size (Nat.le_trans ht3.size ht4.size), fun b hb hO => ?_⟩
        have hOb : Less O x b := Classical.byContradiction hO
        exact (World.putObj_heap_other fun e => hne b (.inr e) hOb.1).trans ((ht3.block b (by omega) fun h => h (hLe b hOb)).trans (ho2 b hOb.1))
      | ret => exact hp.elim
      | exit id => exact hp.elim
      | goto t => exact hp.elim
      | panic ch => exact hp.elim
      | outgrown => exact hp.elim
    case behind =>
      rintro e W2 ⟨⟨v, rfl⟩, xs, O, hS, hlo, hi, hl, hk⟩
      have ht4 : Turns (fun b => b = w.heap.size ∨ b = w.heap.size + 1 ∨ O b) W2 (W2.putObj (w.heap.size + 1) (.loop (rec .exhausted none))) := (Turns.refl _ W2).putObj (.inr (.inl rfl)) _
      exact ⟨none, _, by have := run_endLoop (P := P) hl (by rw [hrec]; simp); rw [hrec] at this ⊢; exact this, hdone _ xs _ _ (by omega) (.inl rfl) hS (hI _ _ _ _ _ hi ht4 (fun b hb => .inl hb)) ((World.putObj_heap_other (by omega)).trans hk)⟩
end Go.Proofs.YtbldpojkpmafpaaGreatDoor
