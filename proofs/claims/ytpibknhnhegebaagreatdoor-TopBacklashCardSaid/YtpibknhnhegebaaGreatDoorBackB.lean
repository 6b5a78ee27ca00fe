/- Words for the walk of integraphtop.TopBacklash: three slices of its own, and the plain law. -/
import Derived.Test.YtpibknhnhegebaaGreatDoorPlaysB
namespace Go.Proofs.YtpibknhnhegebaaGreatDoor
open Go.RowKit

namespace Play
theorem see_zero (s x : Int) : see 0 s x = x := by unfold see; omega
theorem plays_none : ∀ (l : List Int) (s : Int), plays 0 s l = l
  | [], _ => rfl
  | x :: r, s => by simp [plays, see_zero, plays_none r]
theorem plays_in (a B : Int) (ha : 0 ≤ a) : ∀ (l : List Int) (s : Int), (∀ x ∈ l, -B ≤ x ∧ x ≤ B) → -B ≤ s → ∀ x ∈ plays a s l, -B ≤ x ∧ x ≤ B
  | [], _, _, _ => by intro x hx; simp [plays] at hx
  | y :: r, s, h, hs => by
      have hy := h y (by simp)
      have h1 : -B ≤ see a s y ∧ see a s y ≤ B := by unfold see; omega
      intro x hx
      simp only [plays, List.mem_cons] at hx
      rcases hx with rfl | hx
      · exact h1
      · exact plays_in a B ha r (see a s y) (fun z hz => h z (by simp [hz])) h1.1 x hx
/-- one more play behind the others -/
theorem plays_next (S n : Nat) (s : Int) (l : List Int) : plays (n : Int) s (plays (S : Int) s l) = plays ((S + n : Nat) : Int) s l := by
  rw [plays_plays (S : Int) (n : Int) (by omega) (by omega) l s s (by omega) (by omega), Int.natCast_add]
/-- behind a great movement upwards -/
theorem plays_far (S : Nat) (s : Int) (l : List Int) (hS : S ≤ 1000) (h : ∀ x ∈ l, -100000 ≤ x ∧ x ≤ 100000) (h1 : -32768 ≤ s) (h2 : s ≤ 32767) :
    plays (S : Int) s (l ++ [200000]) = plays (S : Int) s l ++ [200000 - (S : Int)] := by
  have hb := lastSeen_bd (S : Int) s 100000 (by omega) l h (by omega) (by omega)
  rw [plays_snoc]
  congr 2
  unfold see; omega
end Play

theorem okPos_plays {S n : Nat} {s : Int} {xs : List Int} (h : okPos xs = true) (hs : -32768 ≤ s) : okPos (Play.plays (n : Int) s (Play.plays (S : Int) s xs)) = true := by
  obtain ⟨h1, h2⟩ := of_decide_eq_true h
  rw [Play.plays_next]
  exact decide_eq_true ⟨by rw [Play.plays_len]; exact h1, Play.plays_in _ 100000 (by omega) xs s h2 (by omega)⟩

/-- the train of the law, and the texts of the lost motions -/
def trainOf (k : Nat) : List (Int × Int) := (List.range k).map fun (i : Nat) => (20 + (i : Int), 20 + (i : Int))
theorem trainOf_len (k : Nat) : (trainOf k).length = k := by simp [trainOf]
theorem trainOf_succ (k : Nat) : trainOf (k + 1) = trainOf k ++ [(20 + (k : Int), 20 + (k : Int))] := by simp [trainOf, List.range_succ]
theorem trainOf_cells (k : Nat) : pcells (trainOf (k + 1)) = pcells (trainOf k) ++ [.int .i64 (20 + (k : Int)), .int .i64 (20 + (k : Int))] := by
  rw [trainOf_succ]; simp [pcells]
theorem trainOf_eq (k : Nat) : ∀ p ∈ trainOf k, p.1 = p.2 := by
  intro p hp
  obtain ⟨i, _, rfl⟩ := List.mem_map.1 hp
  rfl
theorem trainOf_fine (k : Nat) (h : k ≤ 300) : (trainOf k).all fine = true := by
  rw [List.all_eq_true]
  intro p hp
  obtain ⟨i, hi, rfl⟩ := List.mem_map.1 hp
  have := List.mem_range.1 hi
  exact decide_eq_true ⟨by show (1 : Int) ≤ 20 + i; omega, by show (20 : Int) + i ≤ 400; omega, by show (1 : Int) ≤ 20 + i; omega, by show (20 : Int) + i ≤ 400; omega⟩
def turnsOf (ns : List Nat) : List ByteArray := ns.map fun n => ⟨(Lib.decDigits n).toArray⟩
theorem turnsOf_len (ns : List Nat) : (turnsOf ns).length = ns.length := by simp [turnsOf]
theorem turnsOf_snoc (ns : List Nat) (k n : Nat) (h : ns[k]? = some n) : (turnsOf (ns.take (k + 1))).map Value.string = (turnsOf (ns.take k)).map Value.string ++ [.string ⟨(Lib.decDigits n).toArray⟩] := by
  rw [List.take_add_one, h]; simp [turnsOf]
theorem turnsOf_dec (ns : List Nat) (i : Nat) (s : ByteArray) (n : Nat) (h1 : (turnsOf ns)[i]? = some s) (h2 : ns[i]? = some n) : IsDec s n := by
  simp only [turnsOf, List.getElem?_map, h2, Option.map_some, Option.some.injEq] at h1
  subst h1
  simp [IsDec]

theorem own_below {w w' : World} {base size n : Nat} {e : TypeId} {v : Value} {vs : List Value} (h : w.ownsRow base e size v n vs) (hb : Below w.heap.size w w') : w'.ownsRow base e size v n vs := by
  refine ⟨h.1, ?_⟩
  rcases h.2 with h2 | ⟨g, cap, cur, h1, h2, h3, h4⟩
  · exact .inl h2
  · exact .inr ⟨g, cap, cur, h1, h2, (hb.block g (Array.getElem?_eq_some_iff.1 h3).1).trans h3, h4⟩
theorem own_cap {w : World} {base size n : Nat} {e : TypeId} {v : Value} {vs : List Value} (h : w.ownsRow base e size v n vs) : ∃ A c, v = .slice A n c ∧ n ≤ c ∧ Row w w.heap.size A vs := by
  obtain ⟨A, c, rfl, _, hr⟩ := Row.of_own h
  refine ⟨A, c, rfl, ?_, hr⟩
  rcases h.2 with ⟨h1, h2⟩ | ⟨g, cap, cur, h1, _, _, h4, _⟩
  · omega
  · injection h1 with _ _ h1; omega

/-- what a slice reads is apart from a slice of the call's own -/
def Apart (A : Option Addr) (vs : List Value) (w : World) (v : Value) : Prop := vs = [] ∨ ∃ b off, A = some ⟨b, off, none⟩ ∧ b < w.heap.size ∧ v.ownBlock ≠ some b
theorem Apart.nil {A : Option Addr} {vs : List Value} {w : World} {B : Nat} (h : Row w B A vs) (hB : B ≤ w.heap.size) : Apart A vs w (.slice none 0 0) := by
  rcases h with rfl | ⟨b, off, rfl, hb, _⟩
  · exact .inl rfl
  · exact .inr ⟨b, off, rfl, by omega, fun h => by cases h⟩
theorem Apart.more {A : Option Addr} {vs : List Value} {w w' : World} {v : Value} (h : Apart A vs w v) (hs : w.heap.size ≤ w'.heap.size) : Apart A vs w' v := by
  rcases h with rfl | ⟨b, off, rfl, hb, hn⟩
  · exact .inl rfl
  · exact .inr ⟨b, off, rfl, by omega, hn⟩
theorem Apart.new {A : Option Addr} {vs us : List Value} {w w' : World} {B base size n : Nat} {e : TypeId} {v : Value} (h : Row w' B A vs) (hB : B ≤ w'.heap.size) (hv : w.ownsRow base e size v n us) (hf : ∀ a, A = some a → w.heap.size ≤ a.block) : Apart A vs w' v := by
  rcases h with rfl | ⟨b, off, rfl, hb, _⟩
  · exact .inl rfl
  · refine .inr ⟨b, off, rfl, by omega, fun h => ?_⟩
    have h1 := (hv.lt b h).2
    have h2 := hf _ rfl
    simp only at h2
    omega
/-- what an append to v leaves of what another slice reads -/
theorem apart_step {wr w1 : World} {A : Option Addr} {vs : List Value} {v v' u : Value} {o : Obj} (h : Row wr wr.heap.size A vs) (ha : Apart A vs wr v) (hu : Apart A vs wr u)
    (hg : (wr.alloc o).grownBy w1 v.ownBlock) (hs : wr.heap.size ≤ w1.heap.size) (hat : v'.ownBlock = v.ownBlock ∨ v'.ownBlock = some (wr.heap.size + 1)) : Row w1 w1.heap.size A vs ∧ Apart A vs w1 v' ∧ Apart A vs w1 u := by
  refine ⟨?_, ?_, hu.more hs⟩
  · rcases ha with rfl | ⟨b, off, rfl, hb, hn⟩
    · exact .inl rfl
    · rcases h with rfl | ⟨b', off', e, hb', hc⟩
      · exact .inl rfl
      · injection e with e; injection e with e1 e2; subst e1; subst e2
        exact .inr ⟨_, _, rfl, by omega, fun i hi => hg.cell ((World.cell?_alloc_lt wr o ⟨_, _ + i, none⟩ (by show _ < _; omega)).trans (hc i hi)) (fun e => hn e.symm)⟩
  · rcases ha with rfl | ⟨b, off, rfl, hb, hn⟩
    · exact .inl rfl
    · refine .inr ⟨b, off, rfl, by omega, fun e => ?_⟩
      rcases hat with h1 | h1
      · exact hn (h1.symm.trans e)
      · rw [h1] at e; injection e with e; omega

theorem run_append_none {P : Program} {w : World} (base : Nat) (t ty e : TypeId) (i : TypeInfo) (size : Nat) (ht : P.underlying t = some (.slice e)) (hi : P.info? e = some i)
    (v : Value) (n c : Nat) (xs : List Value) (hown : w.ownsRow base e size v n xs) :
    (Builtin.append_ #[t, t] ty #[v, .slice none 0 c]).run P w = .ok v w := by
  rcases hown.2 with ⟨rfl, rfl⟩ | ⟨g, cap, cur, rfl, _, _, hnc, _⟩
  · simp [Builtin.append_, run_underlying ht, sizeOf, typeInfo, hi, Builtin.lenOf, Builtin.firstCells]
  · simp [Builtin.append_, run_underlying ht, sizeOf, typeInfo, hi, Builtin.lenOf, Builtin.firstCells, hnc, storeCells]
/-- append of whatever a row reads, onto a slice of the call's own -/
theorem append_row {P : Program} {w : World} {ops : Array Oper} {rest : List Oper} {o : Oper} {a : Act} {Q : Exit → Act → World → Prop} (hw : Region.wanted o (yielded ops a.tmps) = true) (s x : Operand) (t : TypeId)
    (ho : o.op = .call { callee := .builtin .append, args := #[s, x], argTypes := #[t, t] })
    (base : Nat) (e : TypeId) (i : TypeInfo) (z : Value) (size bytes : Nat) (ht : P.underlying t = some (.slice e)) (hi : P.info? e = some i) (hz : i.zero = some z)
    (hsize : i.size = size) (hby : i.bytes = bytes) (hzs : z.cells.size = size) (hsz : 0 < size)
    (v : Value) (n : Nat) (xs : List Value) (hs : a.eval s = v) (hown : w.ownsRow base e size v n xs)
    (A : Option Addr) (B m c : Nat) (news : List Value) (hx : a.eval x = .slice A m c) (hl : news.length = m * size) (hnews : Row w B A news) (h1 : ∀ u ∈ news, u.oneCell' = true)
    (h63 : n + m ≤ maxLen) (hbytes : (n + m) * bytes ≤ 140737488355328) (hbase : base ≤ w.heap.size)
    (h : ∀ v' w', w'.ownsRow base e size v' (n + m) (xs ++ news) → w.grownBy w' v.ownBlock → (v'.ownBlock = v.ownBlock ∨ v'.ownBlock = some w.heap.size) → wpList P ops Q rest (a.put o.dst v') w') :
    wpList P ops Q (o :: rest) a w := by
  cases A with
  | none =>
    obtain rfl : news = [] := by
      rcases hnews with h | ⟨_, _, h, _⟩
      · exact h
      · cases h
    obtain rfl : m = 0 := by
      rcases Nat.eq_zero_or_pos m with h | h
      · exact h
      · have := Nat.mul_pos h hsz
        simp at hl; omega
    have hr := run_append_none (P := P) (w := w) base t o.type e i size ht hi v n c xs hown
    refine BigFrame.wpList_want hw fun K hK => ?_
    unfold Oper.wp execOp
    simp only [ho, resolve, invoke, builtin, Sem.run_bind, Sem.run_pure, Result.andThen_ok, List.map_toArray, List.map_cons, List.map_nil, hs, hx, hr]
    exact hK _ _ (h v w (by simpa using hown) ⟨rfl, rfl, rfl, Nat.le_refl _, fun _ _ _ => rfl⟩ (.inl rfl))
  | some ad =>
    refine append_want hw s x t ho base e i z size bytes ht hi hz hsize hby hzs hsz v n xs hs hown ad m c news hx hl ?_ h1 h63 hbytes hbase fun v' w' h2 h3 _ h5 => h v' w' h2 h3 h5
    intro j u hu
    obtain ⟨b, off, h4, h6, _⟩ := hnews.open (by have := (List.getElem?_eq_some_iff.1 hu).1; omega)
    injection h4 with h4
    subst h4
    exact hnews.news j u hu

/-- the k-th byte, under a name of its own -/
theorem row_byte {w : World} {B : Nat} {A : Option Addr} {ns : List Nat} (h : Row w B A (ns.map fun (n : Nat) => Value.int .u8 (n : Int))) (k : Nat) (hk : k < ns.length) :
    ∃ b off n, A = some ⟨b, off, none⟩ ∧ b < B ∧ ns[k]? = some n ∧ w.cell? ⟨b, off + k, none⟩ = some (.int .u8 (n : Int)) := by
  obtain ⟨b, off, h1, h2, h3⟩ := h.open (by simp; omega)
  refine ⟨b, off, ns[k], h1, h2, List.getElem?_eq_getElem hk, ?_⟩
  rw [h3 k (by simpa using hk)]; simp [List.getD_eq_getElem?_getD, hk]

/-- what the loop of TopBacklash holds after k rounds -/
def BackRel (s0 : Int) (ns : List Nat) (xs : List Int) (w0 : World) (TP TS : TypeId) (train turns sum l i : Value) (wr : World) : Prop :=
  ∃ (k : Nat) (A : Option Addr) (c : Nat), k ≤ ns.length ∧ i = .int .i64 k ∧ sum = .int .i64 (sumTo ns k : Nat) ∧ l = .slice A xs.length c ∧
    wr.ownsRow w0.heap.size TP 2 train k (pcells (trainOf k)) ∧ wr.ownsRow w0.heap.size TS 1 turns k ((turnsOf (ns.take k)).map Value.string) ∧ Sep train turns ∧
    Row wr wr.heap.size A ((Play.plays (sumTo ns k : Nat) s0 xs).map (Value.int .i64)) ∧
    Apart A ((Play.plays (sumTo ns k : Nat) s0 xs).map (Value.int .i64)) wr train ∧ Apart A ((Play.plays (sumTo ns k : Nat) s0 xs).map (Value.int .i64)) wr turns ∧ Below w0.heap.size w0 wr

theorem back_start {s0 : Int} {ns : List Nat} {xs : List Int} {A : Option Addr} {c : Nat} {w : World} {TP TS : TypeId} (h : Row w w.heap.size A (xs.map (Value.int .i64))) :
    BackRel s0 ns xs w TP TS (.slice none 0 0) (.slice none 0 0) (.int .i64 0) (.slice A xs.length c) (.int .i64 0) w := by
  have e : Play.plays (sumTo ns 0 : Nat) s0 xs = xs := Play.plays_none xs s0
  refine ⟨0, A, c, Nat.zero_le _, rfl, rfl, rfl, World.ownsRow_nil _ _ _ _, World.ownsRow_nil _ _ _ _, Sep.nil, ?_, ?_, ?_, Below.refl _ _⟩
  · rw [e]; exact h
  · rw [e]; exact Apart.nil h (Nat.le_refl _)
  · rw [e]; exact Apart.nil h (Nat.le_refl _)
theorem back_step {s0 : Int} {ns : List Nat} {xs : List Int} {A : Option Addr} {c k n S : Nat} {w wr : World} {TP TS : TypeId} {train turns : Value} (hk : k + 1 ≤ ns.length) (hn : ns[k]? = some n) (hS : sumTo ns k = S)
    (hv : wr.ownsRow w.heap.size TP 2 train (k + 1) (pcells (trainOf k) ++ [.int .i64 (20 + (k : Int)), .int .i64 (20 + (k : Int))]))
    (hu : wr.ownsRow w.heap.size TS 1 turns (k + 1) ((turnsOf (ns.take k)).map Value.string ++ [.string ⟨(Lib.decDigits n).toArray⟩])) (hsep : Sep train turns)
    (hr : Row wr wr.heap.size A ((Play.plays ((S + n : Nat) : Int) s0 xs).map (Value.int .i64)))
    (h1 : Apart A ((Play.plays ((S + n : Nat) : Int) s0 xs).map (Value.int .i64)) wr train) (h2 : Apart A ((Play.plays ((S + n : Nat) : Int) s0 xs).map (Value.int .i64)) wr turns) (hb : Below w.heap.size w wr) :
    BackRel s0 ns xs w TP TS train turns (.int .i64 ((S : Int) + (n : Int))) (.slice A xs.length c) (.int .i64 ((k : Int) + 1)) wr := by
  have hs := sumTo_succ ns k n hn
  rw [hS] at hs
  refine ⟨k + 1, A, c, hk, rfl, by rw [hs]; rfl, rfl, ?_, ?_, hsep, by rw [hs]; exact hr, by rw [hs]; exact h1, by rw [hs]; exact h2, hb⟩
  · rw [trainOf_cells]; exact hv
  · rw [turnsOf_snoc ns k n hn]; exact hu

/-- one more play behind the others, and a single play -/
theorem back_play (A : Option Addr) (c B S n : Nat) (s0 : Int) (xs : List Int) (w : World) (hok : okPos xs = true) (hn : n ≤ 1000) (hs : -32768 ≤ s0) (hs' : s0 ≤ 32767)
    (h : Row w B A ((Play.plays (S : Int) s0 xs).map (Value.int .i64))) (hB : B ≤ w.heap.size) :
    Calls Tryz.prog 34 #[.int .i64 (n : Int), .int .i64 s0, .slice A xs.length c] w fun e w' =>
      ∃ A' c', e = .returned (.tuple #[.slice A' xs.length c', .int .i64 0]) ∧ Row w' w'.heap.size A' ((Play.plays ((S + n : Nat) : Int) s0 xs).map (Value.int .i64)) ∧ Below w.heap.size w w' ∧ ∀ a, A' = some a → w.heap.size ≤ a.block := by
  obtain ⟨h1, h2⟩ := of_decide_eq_true hok
  have hl := Play.plays_len (S : Int) s0 xs
  have H := play_new A c B (n : Int) s0 (Play.plays (S : Int) s0 xs) w (by omega) h hB (by omega) (by omega) (by omega) (by omega)
    (fun x hx => by have := Play.plays_in (S : Int) 100000 (by omega) xs s0 h2 (by omega) x hx; omega)
  rw [hl, Play.plays_next] at H
  refine H.mono fun e w' ⟨A', c', h3, h4, h5, h6⟩ => ⟨A', c', ?_, h4, h5, h6⟩
  rw [Play.plays_len] at h3
  exact h3
theorem back_play0 (A : Option Addr) (c B n : Nat) (s0 : Int) (xs : List Int) (w : World) (hok : okPos xs = true) (hn : n ≤ 1000) (hs : -32768 ≤ s0) (hs' : s0 ≤ 32767)
    (h : Row w B A (xs.map (Value.int .i64))) (hB : B ≤ w.heap.size) :
    Calls Tryz.prog 34 #[.int .i64 (n : Int), .int .i64 s0, .slice A xs.length c] w fun e w' =>
      ∃ A' c', e = .returned (.tuple #[.slice A' xs.length c', .int .i64 0]) ∧ Row w' w'.heap.size A' ((Play.plays (n : Int) s0 xs).map (Value.int .i64)) ∧ Below w.heap.size w w' := by
  have H := back_play A c B 0 n s0 xs w hok hn hs hs' (by rw [show ((0 : Nat) : Int) = 0 from rfl, Play.plays_none]; exact h) hB
  rw [Nat.zero_add] at H
  exact H.mono fun e w' ⟨A', c', h3, h4, h5, _⟩ => ⟨A', c', h3, h4, h5⟩
theorem back_far (A : Option Addr) (c B n : Nat) (s0 : Int) (xs : List Int) (w : World) (hok : okPos xs = true) (hn : n ≤ 1000) (hs : -32768 ≤ s0) (hs' : s0 ≤ 32767)
    (h : Row w B A (xs.map (Value.int .i64) ++ [.int .i64 200000])) (hB : B ≤ w.heap.size) :
    Calls Tryz.prog 34 #[.int .i64 (n : Int), .int .i64 s0, .slice A (xs.length + 1) c] w fun e w' =>
      ∃ A' c', e = .returned (.tuple #[.slice A' (xs.length + 1) c', .int .i64 0]) ∧ (∃ b off, A' = some ⟨b, off, none⟩ ∧ w'.cell? ⟨b, off + xs.length, none⟩ = some (.int .i64 (200000 - (n : Int)))) ∧ Below w.heap.size w w' := by
  obtain ⟨h1, h2⟩ := of_decide_eq_true hok
  have hl : (xs ++ [200000]).length = xs.length + 1 := by simp
  have e1 : xs.map (Value.int .i64) ++ [.int .i64 200000] = (xs ++ [200000]).map (Value.int .i64) := by simp
  rw [e1] at h
  have H := play_any A c B (n : Int) s0 (xs ++ [200000]) w (by omega) h hB (by omega) (by omega) (by omega) (by omega)
    (fun x hx => by
      rcases List.mem_append.1 hx with h | h
      · have := h2 x h; omega
      · simp at h; omega)
  rw [hl, Play.plays_far n s0 xs hn h2 hs hs'] at H
  refine H.mono fun e w' ⟨A', c', h3, h4, h5⟩ => ⟨A', c', ?_, ?_, h5⟩
  · rw [List.length_append, Play.plays_len] at h3
    exact h3
  · obtain ⟨b, off, x, h6, _, h7, h8⟩ := h4.int xs.length (by rw [List.length_append, Play.plays_len]; simp)
    refine ⟨b, off, h6, ?_⟩
    rw [List.getElem?_append_right (by rw [Play.plays_len]; exact Nat.le_refl _), Play.plays_len] at h7
    simp at h7
    rw [h8, ← h7]
theorem back_small (A : Option Addr) (c B S : Nat) (s0 : Int) (xs : List Int) (w : World) (hok : okPos xs = true) (hs : -32768 ≤ s0)
    (h : Row w B A ((Play.plays (S : Int) s0 xs).map (Value.int .i64))) :
    Calls Tryz.prog 32 #[.slice A xs.length c] w fun e w' => e = .returned (.bool true) ∧ w = w' := by
  obtain ⟨h1, h2⟩ := of_decide_eq_true hok
  have hl := Play.plays_len (S : Int) s0 xs
  have H := toothPositions_any A c B (Play.plays (S : Int) s0 xs) w (by omega) h
  have e : okPos (Play.plays (S : Int) s0 xs) = true := decide_eq_true ⟨by omega, Play.plays_in (S : Int) 100000 (by omega) xs s0 h2 (by omega)⟩
  rw [hl, e] at H
  exact H
theorem back_same (A A2 : Option Addr) (c c2 B S : Nat) (s0 : Int) (xs : List Int) (w : World) (hok : okPos xs = true)
    (h : Row w B A ((Play.plays (S : Int) s0 xs).map (Value.int .i64))) (h2 : Row w B A2 ((Play.plays (S : Int) s0 xs).map (Value.int .i64))) (hB : B ≤ w.heap.size) :
    Calls Tryz.prog 35 #[.slice A xs.length c, .slice A2 xs.length c2] w fun e w' => e = .returned (.bool true) ∧ Below w.heap.size w w' := by
  obtain ⟨h1, _⟩ := of_decide_eq_true hok
  have hl := Play.plays_len (S : Int) s0 xs
  have H := SameInts_any A A2 c c2 B (Play.plays (S : Int) s0 xs) (Play.plays (S : Int) s0 xs) w (by omega) (by omega) h h2 hB
  rw [hl, decide_eq_true (rfl : Play.plays (S : Int) s0 xs = Play.plays (S : Int) s0 xs)] at H
  exact H
theorem back_lost (A A2 : Option Addr) (c c2 B : Nat) (ns : List Nat) (w : World) (hE : Env w) (h3 : ns.length ≤ 3) (hns : ∀ n ∈ ns, n ≤ 255) (hc : ns.length ≤ c)
    (h : Row w B A (pcells (trainOf ns.length))) (h2 : Row w B A2 ((turnsOf ns).map Value.string)) (hB : B ≤ w.heap.size) :
    Calls Tryz.prog 17 #[.slice A ns.length c, .slice A2 ns.length c2] w fun e w' => e = .returned (.tuple #[.string ⟨(Lib.decDigits (sumTo ns ns.length)).toArray⟩, .int .i64 0]) ∧ Below w.heap.size w w' := by
  have hl := trainOf_len ns.length
  have H := Lost_equal A A2 c c2 B (trainOf ns.length) (turnsOf ns) ns w hE (by omega) (trainOf_fine _ (by omega)) (trainOf_eq _) (by omega) (by rw [turnsOf_len, hl]) hl.symm (turnsOf_dec ns) (fun n hn => by have := hns n hn; omega) h h2 hB
  rw [hl] at H
  exact H
end Go.Proofs.YtpibknhnhegebaaGreatDoor
