/- Words for a walk that appends to two slices of its own. -/
import Derived.Test.YtpibknhnhegebaaGreatDoorTooth
import Derived.Test.YtpibknhnhegebaaGreatDoorTopLaw
import Derived.Maps.AppendAt
import Derived.IntWalk
namespace Go.Proofs.YtpibknhnhegebaaGreatDoor
open Go.RowKit

theorem Row.news {w : World} {B b off : Nat} {vs : List Value} (h : Row w B (some ⟨b, off, none⟩) vs) : ∀ j u, vs[j]? = some u → w.cell? ((⟨b, off, none⟩ : Addr).add j) = some u := by
  intro j u hu
  have hj : j < vs.length := (List.getElem?_eq_some_iff.1 hu).1
  obtain ⟨b', off', e, hb, hc⟩ := h.open (by omega)
  injection e with e; injection e with e1 e2; subst e1; subst e2
  have e : (⟨b, off, none⟩ : Addr).add j = ⟨b, off + j, none⟩ := by
    rcases Nat.eq_zero_or_pos j with rfl | hp
    · rfl
    · simp [Addr.add]; omega
  rw [e, hc j hj, List.getD_eq_getElem?_getD, hu]; rfl
theorem Row.take {w : World} {B n : Nat} {A : Option Addr} {vs : List Value} (h : Row w B A vs) : Row w B A (vs.take n) := by
  rcases h with rfl | ⟨b, off, rfl, hb, hc⟩
  · exact .inl (by simp)
  · refine .inr ⟨b, off, rfl, hb, fun i hi => ?_⟩
    rw [List.length_take] at hi
    rw [hc i (by omega), List.getD_eq_getElem?_getD, List.getD_eq_getElem?_getD, List.getElem?_take_of_lt (by omega)]
theorem Row.some {w : World} {B : Nat} {A : Option Addr} {vs : List Value} (h : Row w B A vs) (hn : 0 < vs.length) : ∃ b off, A = some ⟨b, off, none⟩ := by
  obtain ⟨b, off, h1, _⟩ := h.open hn
  exact ⟨b, off, h1⟩
/-- two slices of the call's own do not share a block -/
def Sep (v u : Value) : Prop := ∀ g, v.ownBlock = some g → u.ownBlock ≠ some g
theorem Sep.symm {v u : Value} (h : Sep v u) : Sep u v := fun g h1 h2 => h g h2 h1
theorem Sep.nil {u : Value} : Sep (.slice none 0 0) u := fun g h => by cases h
/-- what an append to v leaves of u -/
theorem sep_step {wr w1 : World} {B n size : Nat} {e : TypeId} {v v' u : Value} {us : List Value} {o : Obj} (hu : wr.ownsRow B e size u n us) (hs : Sep v u)
    (hg : (wr.alloc o).grownBy w1 v.ownBlock) (hat : v'.ownBlock = v.ownBlock ∨ v'.ownBlock = some (wr.heap.size + 1)) : w1.ownsRow B e size u n us ∧ Sep v' u := by
  constructor
  · refine (hu.alloc o).kept hg ?_
    cases hb : u.ownBlock with
    | none => exact .inl rfl
    | some g => exact .inr fun e => hs g e.symm hb
  · intro g h1 h2
    rcases hat with h | h
    · exact hs g (h.symm.trans h1) h2
    · have := (hu.lt g h2).2
      rw [h] at h1
      injection h1 with h1
      omega
theorem cell_far {wr w1 : World} {B : Nat} {e : TypeId} {size n : Nat} {v : Value} {vs : List Value} {o : Obj} (hv : wr.ownsRow B e size v n vs) (hg : (wr.alloc o).grownBy w1 v.ownBlock) {b i : Nat} {x : Value}
    (hc : wr.cell? ⟨b, i, none⟩ = some x) (hb : b < B) : w1.cell? ⟨b, i, none⟩ = some x := by
  have hlt := World.block_lt_of_cell? wr _ hc
  refine hg.cell ((World.cell?_alloc_lt wr o ⟨b, i, none⟩ hlt).trans hc) ?_
  intro e
  have := (hv.lt b e.symm).1
  omega

/-- what the first loop of TopPlays holds after k rounds -/
def PlaysRel (l0 b s0 : Int) (xs : List Int) (w0 : World) (T : TypeId) (v u mo le la ot i : Value) (wr : World) : Prop :=
  ∃ k m : Nat, k ≤ xs.length ∧ i = .int .i64 k ∧ m ≤ 2 * k ∧ 2 * k ≤ m + 1 ∧ (k = 0 → m = 0) ∧
    wr.ownsRow w0.heap.size T 1 v m ((Play.slow (xs.take k)).map (Value.int .i64)) ∧ wr.ownsRow w0.heap.size T 1 u k ((Play.upFrom 0 (xs.take k)).map (Value.int .i64)) ∧ Sep v u ∧
    mo = .int .i64 (Play.mv l0 s0 (xs.take k)) ∧ le = .int .i64 (Play.mv b s0 (xs.take k)) ∧ la = .int .i64 (Play.lastSeen l0 s0 (xs.take k)) ∧ ot = .int .i64 (Play.lastSeen b s0 (xs.take k)) ∧
    Below w0.heap.size w0 wr
theorem plays_zero {l0 b s0 mo le la ot p q x : Int} {xs : List Int} {w0 W2 : World} {T : TypeId} {v u : Value} (hk : 0 + 1 ≤ xs.length)
    (hn : Play.mv l0 s0 (xs.take (0 + 1)) = mo + max (p - la) (la - p) ∧ Play.mv b s0 (xs.take (0 + 1)) = le + max (q - ot) (ot - q) ∧ Play.lastSeen l0 s0 (xs.take (0 + 1)) = p ∧ Play.lastSeen b s0 (xs.take (0 + 1)) = q ∧ Play.upFrom 0 (xs.take (0 + 1)) = Play.upFrom 0 (xs.take 0) ++ [x + ((0 % 3 : Nat) : Int)])
    (hx : xs[0]? = some x ∧ xs.take (0 + 1) = xs.take 0 ++ [x])
    (hv : W2.ownsRow w0.heap.size T 1 v (0 + 1) ((Play.slow (xs.take 0)).map (Value.int .i64) ++ [.int .i64 x]))
    (hu : W2.ownsRow w0.heap.size T 1 u (0 + 1) ((Play.upFrom 0 (xs.take 0)).map (Value.int .i64) ++ [.int .i64 x])) (hs : Sep v u) (hb : Below w0.heap.size w0 W2) :
    PlaysRel l0 b s0 xs w0 T v u (.int .i64 (mo + max (p - la) (la - p))) (.int .i64 (le + max (q - ot) (ot - q))) (.int .i64 p) (.int .i64 q) (.int .i64 1) W2 := by
  obtain ⟨n1, n2, n3, n4, n5⟩ := hn
  refine ⟨0 + 1, 0 + 1, hk, rfl, by omega, by omega, by omega, ?_, ?_, hs, by rw [n1], by rw [n2], by rw [n3], by rw [n4], hb⟩
  · rw [hx.2]; simpa [Play.slow, Play.slowFrom] using hv
  · rw [n5]; simpa [Play.upFrom] using hu
theorem plays_more {l0 b s0 mo le la ot p q x y : Int} {xs : List Int} {w0 W2 : World} {T : TypeId} {v u : Value} {j m : Nat} (hk : j + 1 + 1 ≤ xs.length)
    (hn : Play.mv l0 s0 (xs.take (j + 1 + 1)) = mo + max (p - la) (la - p) ∧ Play.mv b s0 (xs.take (j + 1 + 1)) = le + max (q - ot) (ot - q) ∧ Play.lastSeen l0 s0 (xs.take (j + 1 + 1)) = p ∧ Play.lastSeen b s0 (xs.take (j + 1 + 1)) = q ∧ Play.upFrom 0 (xs.take (j + 1 + 1)) = Play.upFrom 0 (xs.take (j + 1)) ++ [x + (((j + 1) % 3 : Nat) : Int)])
    (hx : xs[j + 1]? = some x ∧ xs.take (j + 1 + 1) = xs.take (j + 1) ++ [x]) (hy : xs[j]? = some y) (hm1 : m ≤ 2 * (j + 1)) (hm2 : 2 * (j + 1) ≤ m + 1)
    (hv : W2.ownsRow w0.heap.size T 1 v (m + 1 + 1) ((Play.slow (xs.take (j + 1))).map (Value.int .i64) ++ [.int .i64 (y + (x - y).tdiv 2)] ++ [.int .i64 x]))
    (hu : W2.ownsRow w0.heap.size T 1 u (j + 1 + 1) ((Play.upFrom 0 (xs.take (j + 1))).map (Value.int .i64) ++ [.int .i64 (x + ((j : Int) + 1) % 3)])) (hs : Sep v u) (hb : Below w0.heap.size w0 W2) :
    PlaysRel l0 b s0 xs w0 T v u (.int .i64 (mo + max (p - la) (la - p))) (.int .i64 (le + max (q - ot) (ot - q))) (.int .i64 p) (.int .i64 q) (.int .i64 ((j : Int) + 1 + 1)) W2 := by
  obtain ⟨n1, n2, n3, n4, n5⟩ := hn
  refine ⟨j + 1 + 1, m + 1 + 1, hk, by congr 1, by omega, by omega, by omega, ?_, ?_, hs, by rw [n1], by rw [n2], by rw [n3], by rw [n4], hb⟩
  · have e : xs.take (j + 1) = xs.take j ++ [y] := by rw [List.take_add_one, hy]; rfl
    rw [hx.2, e, List.append_assoc]
    rw [e] at hv
    show W2.ownsRow _ _ _ _ _ ((Play.slow (xs.take j ++ [y, x])).map _)
    rw [Play.slow_snoc]
    simpa [Play.mid] using hv
  · rw [n5, show (((j + 1) % 3 : Nat) : Int) = ((j : Int) + 1) % 3 by omega]; simpa using hu
/-- append onto a slice of the call's own, at an operation whose guard says yes. -/
theorem append_want {P : Program} {w : World} {ops : Array Oper} {rest : List Oper} {o : Oper} {a : Act} {Q : Exit → Act → World → Prop} (hw : Region.wanted o (yielded ops a.tmps) = true) (s x : Operand) (t : TypeId)
    (ho : o.op = .call { callee := .builtin .append, args := #[s, x], argTypes := #[t, t] })
    (base : Nat) (e : TypeId) (i : TypeInfo) (z : Value) (size bytes : Nat) (ht : P.underlying t = some (.slice e)) (hi : P.info? e = some i) (hz : i.zero = some z)
    (hsize : i.size = size) (hby : i.bytes = bytes) (hzs : z.cells.size = size) (hsz : 0 < size)
    (v : Value) (n : Nat) (xs : List Value) (hs : a.eval s = v) (hown : w.ownsRow base e size v n xs)
    (ad : Addr) (m c : Nat) (news : List Value) (hx : a.eval x = .slice (some ad) m c) (hl : news.length = m * size) (hnews : ∀ j u, news[j]? = some u → w.cell? (ad.add j) = some u) (h1 : ∀ u ∈ news, u.oneCell' = true)
    (h63 : n + m ≤ maxLen) (hbytes : (n + m) * bytes ≤ 140737488355328) (hbase : base ≤ w.heap.size)
    (h : ∀ v' w', w'.ownsRow base e size v' (n + m) (xs ++ news) → w.grownBy w' v.ownBlock → (v' = .slice none 0 0 ↔ v = .slice none 0 0 ∧ m = 0) → (v'.ownBlock = v.ownBlock ∨ v'.ownBlock = some w.heap.size) → wpList P ops Q rest (a.put o.dst v') w') :
    wpList P ops Q (o :: rest) a w := by
  refine BigFrame.wpList_want hw fun K hK => ?_
  obtain ⟨v', w', hr, h2, h3, h4, h5⟩ := run_append_own_at (P := P) w base t o.type e i z size bytes ht hi hz hsize hby hzs hsz v n xs hown ad m c news hl hnews h1 h63 hbytes hbase
  unfold Oper.wp execOp
  simp only [ho, resolve, invoke, builtin, Sem.run_bind, Sem.run_pure, Result.andThen_ok, List.map_toArray, List.map_cons, List.map_nil, hs, hx, hr]
  exact hK _ _ (h v' w' h2 h3 h4 h5)

end Go.Proofs.YtpibknhnhegebaaGreatDoor
