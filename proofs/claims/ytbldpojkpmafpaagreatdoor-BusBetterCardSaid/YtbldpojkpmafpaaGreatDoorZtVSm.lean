/- A row of the bus in the runner: what 'stand' and the row's methods come to, as known functions. -/
import Derived.Test.YtbldpojkpmafpaaGreatDoorZtVRng
import Derived.Test.YtbldpojkpmafpaaGreatDoorZtVCr
import Derived.Test.YtbldpojkpmafpaaGreatDoorZtNetKit
import Derived.Test.YtbldpojkpmafpaaGreatDoorZtBusRefNets
import Derived.Test.YtbldpojkpmafpaaGreatDoorZtBusOwn
import Derived.Test.YtbldpojkpmafpaaGreatDoorZtBusTracks
namespace Go.Proofs.YtbldpojkpmafpaaGreatDoor
open Go.RowKit Sv
set_option maxRecDepth 100000
set_option linter.unusedVariables false
noncomputable section
def tI97 : Nat → Ty
  | 0 => .unit
  | n + 1 => .pair (.int .i64) (tI97 n)
abbrev tRow : Ty := .pair (.list false tN) (.pair (tI97 97) (.list false tP))
def mkI (f : Nat → Int) : (n k : Nat) → (tI97 n).den
  | 0, _ => ()
  | n + 1, k => (f k, mkI f n (k + 1))
def getI : (n : Nat) → (tI97 n).den → Nat → Int
  | 0, _, _ => 0
  | _ + 1, d, 0 => d.1
  | n + 1, d, i + 1 => getI n d.2 i
theorem getI_mkI (f : Nat → Int) : ∀ (n k i : Nat), i < n → getI n (mkI f n k) i = f (k + i)
  | 0, _, _, h => absurd h (Nat.not_lt_zero _)
  | n + 1, k, 0, _ => rfl
  | n + 1, k, i + 1, h => by
    show getI n (mkI f n (k + 1)) i = _
    rw [getI_mkI f n (k + 1) i (by omega)]
    congr 1; omega
theorem tI97_len : ∀ n, (tI97 n).size = n
  | 0 => rfl
  | n + 1 => by show 1 + (tI97 n).size = n + 1; rw [tI97_len n]; omega
theorem tI97_at : ∀ (n : Nat) (d : (tI97 n).den) (i : Nat), i < n → ((tI97 n).cells d)[i]? = some (.raw (.int .i64 (getI n d i)))
  | 0, _, _, h => absurd h (Nat.not_lt_zero _)
  | n + 1, d, 0, _ => rfl
  | n + 1, d, i + 1, h => tI97_at n d.2 i (by omega)
abbrev RowD : Type := List (Int × List Int) × ((tI97 97).den × List (Int × Int))
def rowD (nets : List (Int × List Int)) (order : List Int) : List (Int × List Int) × ((tI97 97).den × List (Int × Int)) := (nets, (mkI (Bus.atUp order order.length) 97 0, extsOf nets order))
theorem row_at0 (d : RowD) : (tRow.cells d)[0]? = some (nv d.1) := rfl
theorem row_len (d : RowD) : (tRow.cells d).length = 99 := by
  rw [Ty.cells_len]; show 1 + ((tI97 97).size + 1) = 99; rw [tI97_len]
theorem row_at1 (d : RowD) (i : Nat) (h : i < 97) : (tRow.cells d)[1 + i]? = some (iv (getI 97 d.2.1 i)) := by
  show (nv d.1 :: ((tI97 97).cells d.2.1 ++ [pv d.2.2]))[1 + i]? = _
  rw [Nat.add_comm, List.getElem?_cons_succ, List.getElem?_append_left (by rw [Ty.cells_len, tI97_len]; exact h)]
  exact tI97_at 97 d.2.1 i h
theorem row_at98 (d : RowD) : (tRow.cells d)[98]? = some (pv d.2.2) := by
  show (nv d.1 :: ((tI97 97).cells d.2.1 ++ [pv d.2.2]))[97 + 1]? = _
  have hl : ((tI97 97).cells d.2.1).length = 97 := by rw [Ty.cells_len, tI97_len]
  rw [List.getElem?_cons_succ, List.getElem?_append_right (by omega), hl]; rfl
section
variable {P : Program} {B : Nat} {ρ : Env} {H : AHeap} {w : World}
theorem argF_ok (hH : HDen P B ρ H w) (hG : Glob ρ) : OkF w (argF false w ρ) := by
  refine ⟨fun i x hx => ?_, fun g hg => ?_, fun b A hb => (hH.fz b A hb).1⟩
  · have hx : (if i < 64 then ρ i else none) = some x := hx
    by_cases h : i < 64
    · exact h
    · rw [if_neg h] at hx; cases hx
  · obtain ⟨c', hc'⟩ := hG g hg
    exact ⟨c', by show (if g < 64 then ρ g else none) = _; rw [if_pos hg]; exact hc'⟩
theorem post_of (hH : HDen P B ρ H w) {f : FuncId} {xs : List Value} {v : AV} {m : Nat} (hi : avIds v = []) (hc : Calls P f xs.toArray w fun e w' => ∃ x F', e = .returned x ∧ Den F' v x ∧ OkF w' F' ∧ (∀ b A, F'.fz b = some A → ρ.fz b = some A ∨ w.heap.size ≤ b) ∧ Below w.heap.size w w') :
    CallsIn (FF none) m P f xs.toArray w (CallPost P B ρ H w v H) := by
  have hin : CallsIn (FF none) m P f xs.toArray w _ := callsIn_wide.2 hc
  refine hin.mono ?_
  rintro e w' ⟨x, F', rfl, hx, hF', hfz, hb⟩
  have hfzlt : ∀ b A, ρ.fz b = some A → b < w.heap.size := fun b A h => by
    obtain ⟨⟨e, fr, h⟩, _⟩ := hH.fz b A h
    exact (Array.getElem?_eq_some_iff.1 h).1
  have hle : Le ρ ⟨ρ.at', fun b => if w.heap.size ≤ b then F'.fz b else ρ.fz b⟩ := ⟨fun _ _ h => h, fun b A h => by
    show (if w.heap.size ≤ b then F'.fz b else ρ.fz b) = some A
    rw [if_neg (by have := hfzlt b A h; omega)]; exact h⟩
  refine ⟨x, ⟨ρ.at', fun b => if w.heap.size ≤ b then F'.fz b else ρ.fz b⟩, rfl, den_pins (ρ := F') (fun b A hbA => ?_) (fun i h => by rw [hi] at h; cases h) hx, ⟨fun i k hi => ?_, hH.inj, hH.lt, Nat.le_trans hH.base hb.size, fun b A hbA => ?_⟩,
    ⟨hle, fun _ _ => rfl, Nat.le_refl _, hb.size, hb.os, hb.tape, hb.output, fun b hlt _ => hb.block b hlt, fun _ _ h => h, fun _ _ h => h, fun b A hbA => ?_⟩⟩
  · show (if w.heap.size ≤ b then F'.fz b else ρ.fz b) = some A
    by_cases h0 : w.heap.size ≤ b
    · rw [if_pos h0]; exact hbA
    · rw [if_neg h0]
      rcases hfz b A hbA with h3 | h3
      · exact h3
      · exact absurd h3 h0
  · obtain ⟨b, c', o, e1, e2, e3, e4⟩ := hH.blk i k hi
    have hlt := (Array.getElem?_eq_some_iff.1 e2).1
    exact ⟨b, c', o, e1, (hb.block b hlt).trans e2, e3.mono hle, e4⟩
  · have hbA : (if w.heap.size ≤ b then F'.fz b else ρ.fz b) = some A := hbA
    by_cases h0 : w.heap.size ≤ b
    · rw [if_pos h0] at hbA
      refine ⟨hF'.fz b A hbA, fun i k c' hi hr => ?_⟩
      obtain ⟨b', c2, o, e1, e2, _⟩ := hH.blk i k hi
      have hr : ρ i = some (b, c') := hr
      rw [hr] at e1; cases e1
      have := (Array.getElem?_eq_some_iff.1 e2).1
      omega
    · rw [if_neg h0] at hbA
      obtain ⟨⟨e, fr, h3⟩, h4⟩ := hH.fz b A hbA
      exact ⟨⟨e, fr, (hb.block b (by omega)).trans h3⟩, h4⟩
  · have hbA : (if w.heap.size ≤ b then F'.fz b else ρ.fz b) = some A := hbA
    by_cases h0 : w.heap.size ≤ b
    · exact .inr (.inl h0)
    · rw [if_neg h0] at hbA; exact .inl hbA
def rowArg {β : Type} (H : AHeap) (no : Tst β) (v : AV) (f : RowD → Tst β) : Tst β := match v with
  | .optr _ _ i 0 0 => (match H.get i with
    | some (.own e u [d]) => if h : u = tRow then (match Nat.beq e 138 with | true => f (h ▸ d : tRow.den) | false => no) else no
    | _ => no)
  | _ => no
theorem rowArg_gr {β : Type} {no : Tst β} {b : β} (hno : no.gr ≠ some b) {v : AV} {f : RowD → Tst β} (h : (rowArg H no v f).gr = some b) : ∃ (e : TypeId) (u : Ty) (i : Nat) (d : RowD), v = .optr e u i 0 0 ∧ H.get i = some (.own 138 tRow [d]) ∧ (f d).gr = some b := by
  unfold rowArg at h
  split at h
  · rename_i e0 u0 i
    split at h
    · rename_i e u d hg
      split at h
      · rename_i hu
        subst hu
        split at h
        · rename_i he
          have he := Nat.eq_of_beq_eq_true he
          subst he
          exact ⟨e0, u0, i, d, rfl, hg, h⟩
        · exact absurd h hno
      · exact absurd h hno
    · exact absurd h hno
  · exact absurd h hno
theorem rowp_den {B : Nat} {ρ : Env} {H : AHeap} {w : World} (hH : HDen Tryz.prog B ρ H w) (hG : Glob ρ) {i : Nat} {d : RowD} {e : TypeId} {u : Ty} {x : Value} (hi : H.get i = some (.own 138 tRow [d])) (hx : Den ρ (.optr e u i 0 0) x) (hg : GoodNets d.1) :
    ∃ (g : Nat) (A : Option Addr) (c : Nat) (l : List NetAt) (Ax : Option Addr) (cx : Nat), x = .pointer (some ⟨g, 0, none⟩) ∧ l.map NetAt.net = d.1 ∧ NetsIn w w.heap.size A l ∧ Row w w.heap.size Ax (xcells d.2.2) ∧
      RowAt w g (.slice A l.length c) (getI 97 d.2.1) (.slice Ax d.2.2.length cx) := by
  obtain ⟨g, c, hr, rfl⟩ := hx.optr_inv
  obtain ⟨ys, h1, h2, h3, h4, _, _⟩ := own_at hH hi hr
  have hfl : Ty.flat tRow [d] = tRow.cells d := by show tRow.cells d ++ [] = _; rw [List.append_nil]
  rw [hfl, row_len] at h2 h4
  have hF := argF_ok hH hG
  have hcell : ∀ j v, (tRow.cells d)[j]? = some v → ∃ y, ys[j]? = some y ∧ Den ρ v y := fun j v hj => by
    obtain ⟨y, e1, e2⟩ := h2.get hj
    rw [List.getElem?_take] at e1
    split at e1
    · exact ⟨y, by rw [← Array.getElem?_toList]; exact e1, e2⟩
    · cases e1
  obtain ⟨V, v1, v2⟩ := hcell 0 _ (row_at0 d)
  obtain ⟨E, x1, x2⟩ := hcell 98 _ (row_at98 d)
  have v3 : Den (argF false w ρ) (nv d.1) V := den_pins (ρ := ρ) (ρ' := argF false w ρ) (fun _ _ h => h) (fun i h => by cases h) v2
  have x3 : Den (argF false w ρ) (pv d.2.2) E := den_pins (ρ := ρ) (ρ' := argF false w ρ) (fun _ _ h => h) (fun i h => by cases h) x2
  obtain ⟨A, c1, l, rfl, n1, n2⟩ := den_nets hF hg v3
  obtain ⟨Ax, cx, ys2, rfl, hcx, hds, hrow⟩ := den_row hF x3
  have hxc : ys2 = xcells d.2.2 := by
    have := dens_raws (F := argF false w ρ) (vs := xcells d.2.2) (ys := ys2) (by
      have e : (xcells d.2.2).map AV.raw = Ty.flat tP d.2.2 := by
        induction d.2.2 with
        | nil => rfl
        | cons p l ih => show AV.raw _ :: AV.raw _ :: (xcells l).map AV.raw = _; rw [ih]; rfl
      rw [e]; exact hds)
    exact this
  subst hxc
  refine ⟨g, A, c1, l, Ax, cx, by simp, n1, n2, hrow, ?_, fun j hj => ?_, ?_, fun j => ?_, ys, c, h1, ?_⟩
  · rw [cell_of_row w g 0 ys 138 (0, 0) h1]; exact v1
  · rw [cell_of_row w g (1 + j) ys 138 (0, 0) h1]
    obtain ⟨y, e1, e2⟩ := hcell _ _ (row_at1 d j hj)
    rw [e1, e2.raw_eq]
  · rw [cell_of_row w g 98 ys 138 (0, 0) h1]; exact x1
  · exact Blk.frozen (show Blk w g 138 ys from h1) j
  · have e : Tryz.prog.cellsOf 138 = 99 := by kernel_rfl
    rw [e] at h3; exact h3
end
def trkD (d : RowD) : List Int := toI (tracksOf d.2.2).2
def numD (d : RowD) : Int := ((tracksOf d.2.2).1.length : Int)
def crossD (d : RowD) (ts : List Int) (most : Int) : Int := (crossRun (tapF d.2.2 ts (tapFrom (getI 97 d.2.1) 0 (d.1.map Prod.snd))) most 0 (List.range (tapFrom (getI 97 d.2.1) 0 (d.1.map Prod.snd)).length)).1
def lenD (d : RowD) : Int := sumExt d.2.2
def okRow (d : RowD) : Bool := goodB d.1 && (decide (d.1.length = d.2.2.length) && (decide (d.2.2.length < 20) && (d.2.2.all (fun p => decide (-1000 ≤ p.1 ∧ p.1 ≤ 1000 ∧ -1000 ≤ p.2 ∧ p.2 ≤ 1000)) && (d.1.all (fun n => n.2.all fun c => decide (0 ≤ c ∧ c < 97)) && decide ((tapFrom (getI 97 d.2.1) 0 (d.1.map Prod.snd)).length ≤ 1000000)))))
def okStand (nets : List (Int × List Int)) (order : List Int) : Bool := goodB nets && decide (Bus.bothErr nets order.length order = 0)
def rowCs : VCaller := fun f args H => match Nat.beq f 42 with
  | true => argsH H false (.ret .no) [.list false tN, .list false (.int .i64)] args fun d => .must (okStand d.1 d.2.1) (.ret (.ok (.optr 138 tRow H.next 0 0) (H.new (.own 138 tRow [rowD d.1 d.2.1]))))
  | false => match Nat.beq f 43 with
    | true => (match args with
      | [r] => rowArg H (.ret .no) r fun d => .must (okRow d) (.ret (.ok (.tuple [lv (trkD d), iv (numD d)]) H))
      | _ => .ret .no)
    | false => match Nat.beq f 44 with
      | true => (match args with
        | [r, t, m] => rowArg H (.ret .no) r fun d => argsH H false (.ret .no) [.list false (.int .i64), .int .i64] [t, m] fun e => .must (okRow d && decide (List.length (α := Int) e.1 = d.1.length)) (.ret (.ok (iv (crossD d e.1 e.2.1)) H))
        | _ => .ret .no)
      | false => match Nat.beq f 45 with
        | true => (match args with
          | [r] => rowArg H (.ret .no) r fun d => .must (okRow d) (.ret (.ok (iv (lenD d)) H))
          | _ => .ret .no)
        | false => .ret .no
theorem okRow_iff {d : RowD} (h : okRow d = true) : GoodNets d.1 ∧ d.1.length = d.2.2.length ∧ d.2.2.length < 20 ∧ (∀ p ∈ d.2.2, smallExt p) ∧ (∀ n ∈ d.1, ∀ c ∈ n.2, 0 ≤ c ∧ c < 97) ∧ (tapFrom (getI 97 d.2.1) 0 (d.1.map Prod.snd)).length ≤ 1000000 := by
  unfold okRow at h
  simp only [Bool.and_eq_true, decide_eq_true_eq, List.all_eq_true] at h
  obtain ⟨h1, h2, h3, h4, h5, h6⟩ := h
  exact ⟨goodB_iff.1 h1, h2, h3, h4, h5, h6⟩
theorem must_gr {β : Type} {b : Bool} {t : Tst β} {r : β} (h : (Tst.must b t).gr = some r) : b = true ∧ t.gr = some r := by
  cases b with
  | false => cases h
  | true => exact ⟨rfl, h⟩
theorem cols_of {l : List NetAt} {nets : List (Int × List Int)} (h : l.map NetAt.net = nets) : l.map NetAt.cols = nets.map Prod.snd := by
  rw [← h, List.map_map]; rfl
theorem goodL {l : List NetAt} {nets : List (Int × List Int)} (h : l.map NetAt.net = nets) (hc : ∀ n ∈ nets, ∀ c ∈ n.2, 0 ≤ c ∧ c < 97) : ∀ x ∈ l, ∀ c ∈ x.cols, 0 ≤ c ∧ c < 97 := fun x hx c hcx => hc x.net (by rw [← h]; exact List.mem_map_of_mem hx) c hcx
section
variable {B : Nat} {ρ : Env} {H : AHeap} {w : World}
theorem post_int (hH : HDen Tryz.prog B ρ H w) (hG : Glob ρ) {f : FuncId} {xs : List Value} {m : Nat} {k : Int} (hc : Calls Tryz.prog f xs.toArray w fun e w' => e = .returned (.int .i64 k) ∧ Below w.heap.size w w') :
    CallsIn (FF none) m Tryz.prog f xs.toArray w (CallPost Tryz.prog B ρ H w (iv k) H) :=
  post_of hH rfl (hc.mono fun e w' ⟨h1, h2⟩ => ⟨_, ⟨(argF false w ρ).at', fun _ => none⟩, h1, .raw _, ⟨(argF_ok hH hG).glob, (argF_ok hH hG).all, fun b A h => by cases h⟩, (fun b A h => by cases h), h2⟩)
theorem tracks_call (hH : HDen Tryz.prog B ρ H w) (hG : Glob ρ) {i : Nat} {d : RowD} {e : TypeId} {u : Ty} {x : Value} {m : Nat} (hi : H.get i = some (.own 138 tRow [d])) (hx : Den ρ (.optr e u i 0 0) x) (hok : okRow d = true) :
    CallsIn (FF none) m Tryz.prog 43 [x].toArray w (CallPost Tryz.prog B ρ H w (.tuple [lv (trkD d), iv (numD d)]) H) := by
  obtain ⟨k1, k2, k3, k4, k5, k6⟩ := okRow_iff hok
  obtain ⟨g, A, c, l, Ax, cx, rfl, n1, n2, n3, n4⟩ := rowp_den hH hG hi hx k1
  have hll : l.length = d.2.2.length := by rw [← k2, ← n1, List.length_map]
  have hF := argF_ok hH hG
  refine post_of hH rfl ?_
  by_cases h0 : 0 < d.2.2.length
  · rw [hll] at n4
    refine (tracks_any g _ Ax A cx c w.heap.size d.2.2 w n4 n3 (Nat.le_refl _) h0 k3).mono ?_
    rintro e w' ⟨Ao, co, rfl, h1, h2, h3, h4⟩
    have hint : ((tracksOf d.2.2).2.map fun x => Value.int .i64 ((x : Nat) : Int)) = (trkD d).map (Value.int .i64) := by unfold trkD toI; rw [List.map_map]; rfl
    rw [hint] at h1
    have htl : (trkD d).length = d.2.2.length := by unfold trkD toI; rw [List.length_map]; exact tracksOf_len _
    have hd := ints_den (n0 := w.heap.size) (at' := (argF false w ρ).at') h1 (.inr h3) (by rw [htl]; exact h4)
    rw [htl] at hd
    refine ⟨_, ⟨(argF false w ρ).at', fun b => if w.heap.size ≤ b then cellsOf? w' b else none⟩, rfl, .tuple (.cons hd (.cons (.raw _) .nil)), ⟨hF.glob, hF.all, fun b A hb => ?_⟩, fun b A hb => .inr ?_, h2⟩
    · have hb : (if w.heap.size ≤ b then cellsOf? w' b else none) = some A := hb
      split at hb
      · exact cellsOf?_some.1 hb
      · cases hb
    · have hb : (if w.heap.size ≤ b then cellsOf? w' b else none) = some A := hb
      split at hb
      · assumption
      · cases hb
  · have h00 : d.2.2 = [] := List.eq_nil_of_length_eq_zero (by omega)
    have hl0 : l.length = 0 := by rw [hll, h00]; rfl
    rw [hl0] at n4
    have e1 : trkD d = [] := by unfold trkD; rw [h00]; rfl
    have e2 : numD d = 0 := by unfold numD; rw [h00]; rfl
    rw [e1, e2]
    rw [h00] at n4
    refine (tracks_nil g _ Ax A cx c w n4).mono ?_
    rintro e w' ⟨Ao, co, rfl, h1⟩
    exact ⟨_, ⟨(argF false w ρ).at', fun _ => none⟩, rfl, .tuple (.cons (.lstNil fun e => by cases e) (.cons (.raw _) .nil)), ⟨hF.glob, hF.all, fun b A h => by cases h⟩, (fun b A h => by cases h), h1⟩
theorem cross_call (hH : HDen Tryz.prog B ρ H w) (hG : Glob ρ) {i : Nat} {d : RowD} {e : TypeId} {u : Ty} {x y z : Value} {ts : List Int} {most : Int} {m : Nat} (hi : H.get i = some (.own 138 tRow [d])) (hx : Den ρ (.optr e u i 0 0) x) (hy : Den (argF false w ρ) (lv ts) y) (hz : Den (argF false w ρ) (iv most) z) (hok : okRow d = true) (htl : ts.length = d.1.length) :
    CallsIn (FF none) m Tryz.prog 44 [x, y, z].toArray w (CallPost Tryz.prog B ρ H w (iv (crossD d ts most)) H) := by
  obtain ⟨k1, k2, k3, k4, k5, k6⟩ := okRow_iff hok
  obtain ⟨g, A, c, l, Ax, cx, rfl, n1, n2, n3, n4⟩ := rowp_den hH hG hi hx k1
  have hll : l.length = d.2.2.length := by rw [← k2, ← n1, List.length_map]
  obtain ⟨A3, c3, rfl, _, h3⟩ := den_ints (argF_ok hH hG) hy
  rw [hz.raw_eq]
  refine post_int hH hG ?_
  have hk : (tapFrom (getI 97 d.2.1) 0 (l.map NetAt.cols)).length ≤ 1000000 := by rw [cols_of n1]; exact k6
  have := crossings_any g A Ax A3 c cx c3 d.2.2 ts (getI 97 d.2.1) l most w n4 n3 n2 h3 (by omega) (by omega) (by omega) (goodL n1 k5) hk
  rw [cols_of n1] at this
  exact this
theorem len_call (hH : HDen Tryz.prog B ρ H w) (hG : Glob ρ) {i : Nat} {d : RowD} {e : TypeId} {u : Ty} {x : Value} {m : Nat} (hi : H.get i = some (.own 138 tRow [d])) (hx : Den ρ (.optr e u i 0 0) x) (hok : okRow d = true) :
    CallsIn (FF none) m Tryz.prog 45 [x].toArray w (CallPost Tryz.prog B ρ H w (iv (lenD d)) H) := by
  obtain ⟨k1, k2, k3, k4, k5, k6⟩ := okRow_iff hok
  obtain ⟨g, A, c, l, Ax, cx, rfl, n1, n2, n3, n4⟩ := rowp_den hH hG hi hx k1
  exact post_int hH hG (rowLength_any g _ _ Ax cx w.heap.size d.2.2 w n4 n3 (Nat.le_refl _) k4 (by omega))
theorem stand_call (hH : HDen Tryz.prog B ρ H w) (hG : Glob ρ) (hf : ρ H.next = none) {nets : List (Int × List Int)} {order : List Int} {x y : Value} {m : Nat} (hx : Den (argF false w ρ) (nv nets) x) (hy : Den (argF false w ρ) (lv order) y) (hok : okStand nets order = true) :
    CallsIn (FF none) m Tryz.prog 42 [x, y].toArray w (CallPost Tryz.prog B ρ H w (.optr 138 tRow H.next 0 0) (H.new (.own 138 tRow [rowD nets order]))) := by
  unfold okStand at hok
  simp only [Bool.and_eq_true, decide_eq_true_eq] at hok
  obtain ⟨hg, hE⟩ := hok
  have hg := goodB_iff.1 hg
  obtain ⟨e1, e2⟩ := both_iff.1 hE
  have hF := argF_ok hH hG
  obtain ⟨A, c, l, rfl, n1, n2⟩ := den_nets hF hg hx
  obtain ⟨A2, c2, rfl, _, h3⟩ := den_ints hF hy
  have hin : CallsIn (FF none) m Tryz.prog 42 [.slice A l.length c, .slice A2 order.length c2].toArray w _ := callsIn_wide.2 (stand_any A A2 c c2 w.heap.size l order order.length w n2 h3 (Nat.le_refl _) e2 (by rw [n1]; exact e1))
  refine hin.mono ?_
  rintro e w' ⟨g, v, rfl, hgs, hrow, hown, hb⟩
  obtain ⟨cs, q, hblk, hcs⟩ := hrow.blk
  have hfzlt : ∀ b A, ρ.fz b = some A → b < w.heap.size := fun b A h => by
    obtain ⟨⟨e, fr, h⟩, _⟩ := hH.fz b A h
    exact (Array.getElem?_eq_some_iff.1 h).1
  obtain ⟨Ax, cx, rfl, hcx, hrx⟩ := own_cap hown
  have hle : Le ρ ⟨fun j => if j = H.next then some (g, q) else ρ j, fun b => if w.heap.size ≤ b ∧ b ≠ g then cellsOf? w' b else ρ.fz b⟩ := ⟨fun j y hj => by
      show (if j = H.next then some (g, q) else ρ j) = some y
      rw [if_neg (fun e => by rw [e, hf] at hj; cases hj)]; exact hj, fun b A h => by
      show (if w.heap.size ≤ b ∧ b ≠ g then cellsOf? w' b else ρ.fz b) = some A
      rw [if_neg (by have := hfzlt b A h; omega)]; exact h⟩
  have hfl : Ty.flat tRow [rowD nets order] = tRow.cells (rowD nets order) := by show tRow.cells _ ++ [] = _; rw [List.append_nil]
  have hsz := hb.size
  have hrowsz : 99 ≤ cs.size := by
    have := Blk.cell hblk 98
    rw [hrow.ext] at this
    have := (Array.getElem?_eq_some_iff.1 this.symm).1
    omega
  refine ⟨_, ⟨fun j => if j = H.next then some (g, q) else ρ j, fun b => if w.heap.size ≤ b ∧ b ≠ g then cellsOf? w' b else ρ.fz b⟩, rfl, ?den, ⟨fun j k hj => ?_, fun i1 i2 k1 k2 b c1 c2 q1 q2 q3 q4 => ?_, fun j k hj => ?_, Nat.le_trans hH.base hb.size, fun b A' hbA => ?_⟩,
    ⟨hle, fun j hj => ?_, Nat.le_succ _, hb.size, hb.os, hb.tape, hb.output, fun b hlt _ => hb.block b hlt, fun b hlt hh => ?_, fun b hlt hh => ?_, fun b A' hbA => ?_⟩⟩
  case den =>
    have := Den.optr (ρ := ⟨fun j => if j = H.next then some (g, q) else ρ j, fun b => if w.heap.size ≤ b ∧ b ≠ g then cellsOf? w' b else ρ.fz b⟩) (e := 138) (t := tRow) (i := H.next) (k := 0) (off := 0) (b := g) (c := q) (if_pos rfl)
    simpa using this
  · rw [AHeap.get_new] at hj
    split at hj
    · rename_i hjn
      subst hjn
      cases hj
      refine ⟨g, q, _, if_pos rfl, hblk, ⟨⟨cs, (0, 0), rfl, fun _ => rfl, ?_, fun e => (by cases e), fun _ => ⟨g, q, if_pos rfl, ?_⟩⟩, ?_, ?_⟩, fun _ => Nat.le_trans hH.base hgs⟩
      · rw [hfl, row_len]
        refine Dens.of_get (by rw [row_len]; simp; omega) fun j u y hj hy => ?_
        have hj99 : j < 99 := by have := (List.getElem?_eq_some_iff.1 hj).1; rw [row_len] at this; exact this
        rw [List.getElem?_take, if_pos hj99, Array.getElem?_toList] at hy
        have hcj := Blk.cell hblk j
        rw [hy] at hcj
        rcases Nat.lt_or_ge j 1 with h0 | h1
        · obtain rfl : j = 0 := by omega
          rw [row_at0] at hj; cases hj
          rw [hrow.nets] at hcj; cases hcj
          exact (den_pins (ρ := ρ) (fun b A h => hle.fz _ _ h) (fun i h => by cases h) (den_pins (ρ := argF false w ρ) (ρ' := ρ) (fun _ _ h => h) (fun i h => by cases h) hx))
        · rcases Nat.lt_or_ge j 98 with h2 | h2
          · obtain ⟨k, rfl⟩ : ∃ k, j = 1 + k := ⟨j - 1, by omega⟩
            rw [row_at1 _ k (by omega)] at hj; cases hj
            rw [hrow.pos k (by omega)] at hcj; cases hcj
            have : getI 97 (rowD nets order).2.1 k = Bus.atUp order order.length k := by
              show getI 97 (mkI (Bus.atUp order order.length) 97 0) k = _
              rw [getI_mkI _ _ _ _ (by omega), Nat.zero_add]
            rw [this]
            exact .raw _
          · obtain rfl : j = 98 := by omega
            rw [row_at98] at hj; cases hj
            rw [hrow.ext] at hcj; cases hcj
            have hxe : Bus.exts (Bus.atUp order order.length) (l.map NetAt.net) = extsOf nets order := by rw [n1]
            rw [hxe] at hown
            have hxl : (extsOf nets order).length = l.length := by rw [extsOf_len, ← n1, List.length_map]
            show Den _ (pv (extsOf nets order)) (.slice Ax l.length cx)
            rcases hown with ⟨hl0, ⟨hv, hx0⟩ | ⟨gb, cap, cur, hv, hbase, hcur, hcap, hmax, hsize, htake⟩⟩
            · have hnil : extsOf nets order = [] := List.eq_nil_of_length_eq_zero (by omega)
              rw [hnil, hx0]
              exact .lstNil fun e => by cases e
            · cases hv
              have hfl2 : (Ty.flat tP (extsOf nets order)).length = l.length * 2 := by rw [Ty.flat_len, hxl]; rfl
              rw [← hxl]
              refine .lst (A := cur) (b := gb) (off := 0) ?_ (by rw [hfl2]; omega) rfl ?_ (by rw [hxl]; exact hcap) fun e => by cases e
              · show (if w.heap.size ≤ gb ∧ gb ≠ g then cellsOf? w' gb else ρ.fz gb) = some cur
                rw [if_pos (by omega)]
                exact cellsOf?_some.2 ⟨_, _, hcur⟩
              · rw [hfl2, List.drop_zero, htake]
                exact pairs_den _
      · have e : Tryz.prog.cellsOf 138 = 99 := by kernel_rfl
        rw [e]; exact hcs
      · have e : Tryz.prog.cellsOf 138 = 99 := by kernel_rfl
        rw [e]
        show 99 = 1 + ((tI97 97).size + 1)
        rw [tI97_len]
      · show 1 ≤ 1 + _
        omega
    · obtain ⟨b, c', o, q1, q2, q3, q4⟩ := hH.blk j k hj
      have hlt := (Array.getElem?_eq_some_iff.1 q2).1
      exact ⟨b, c', o, hle _ _ q1, (hb.block b hlt).trans q2, q3.mono hle, q4⟩
  · have key : ∀ (j : Nat) (k : ABlk) (b c' : Nat), (H.new (.own 138 tRow [rowD nets order])).get j = some k → (if j = H.next then some (g, q) else ρ j) = some (b, c') → (j = H.next ∧ b = g) ∨ (j ≠ H.next ∧ ∃ k', H.get j = some k' ∧ ρ j = some (b, c') ∧ b < w.heap.size) := fun j k b c' hj hr => by
      rw [AHeap.get_new] at hj
      split at hj
      · rename_i hjn
        rw [if_pos hjn.symm] at hr; cases hr
        exact .inl ⟨hjn.symm, rfl⟩
      · rename_i hjn
        rw [if_neg (fun e => hjn e.symm)] at hr
        obtain ⟨b', c2, o, r1, r2, _⟩ := hH.blk j k hj
        rw [hr] at r1; cases r1
        exact .inr ⟨fun e => hjn e.symm, k, hj, hr, (Array.getElem?_eq_some_iff.1 r2).1⟩
    rcases key _ _ _ _ q1 q3 with ⟨a1, a2⟩ | ⟨a1, k', a2, a3, a4⟩ <;> rcases key _ _ _ _ q2 q4 with ⟨b1, b2⟩ | ⟨b1, k'', b2, b3, b4⟩
    · rw [a1, b1]
    · omega
    · omega
    · exact hH.inj _ _ _ _ _ _ _ a2 b2 a3 b3
  · rw [AHeap.get_new] at hj
    split at hj
    · rename_i hjn; subst hjn; exact Nat.lt_succ_self _
    · exact Nat.lt_succ_of_lt (hH.lt j k hj)
  · have hbA : (if w.heap.size ≤ b ∧ b ≠ g then cellsOf? w' b else ρ.fz b) = some A' := hbA
    by_cases h0 : w.heap.size ≤ b ∧ b ≠ g
    · rw [if_pos h0] at hbA
      refine ⟨cellsOf?_some.1 hbA, fun j k c' hj hr => ?_⟩
      have hr : (if j = H.next then some (g, q) else ρ j) = some (b, c') := hr
      rw [AHeap.get_new] at hj
      split at hj
      · rename_i hjn
        rw [if_pos hjn.symm] at hr; cases hr
        exact absurd rfl h0.2
      · rename_i hjn
        rw [if_neg (fun e => hjn e.symm)] at hr
        obtain ⟨b', c2, o, r1, r2, _⟩ := hH.blk j k hj
        rw [hr] at r1; cases r1
        have := (Array.getElem?_eq_some_iff.1 r2).1
        omega
    · rw [if_neg h0] at hbA
      have hlt := hfzlt b A' hbA
      obtain ⟨⟨e', fr, h3'⟩, h4⟩ := hH.fz b A' hbA
      refine ⟨⟨e', fr, (hb.block b hlt).trans h3'⟩, fun j k c' hj hr => ?_⟩
      have hr : (if j = H.next then some (g, q) else ρ j) = some (b, c') := hr
      rw [AHeap.get_new] at hj
      split at hj
      · rename_i hjn
        rw [if_pos hjn.symm] at hr; cases hr
        omega
      · rename_i hjn
        rw [if_neg (fun e => hjn e.symm)] at hr
        exact h4 j k c' hj hr
  · show (if j = H.next then some (g, q) else ρ j) = ρ j
    rcases hj with hj | hj
    · rw [if_neg (by omega)]
    · have hj : H.next + 1 ≤ j := hj
      rw [if_neg (by omega)]
  · obtain ⟨j, k, c', r1, r2, r3⟩ := hh
    have r3 : (if j = H.next then some (g, q) else ρ j) = some (b, c') := r3
    rw [AHeap.get_new] at r1
    split at r1
    · rename_i hjn
      rw [if_pos hjn.symm] at r3; cases r3
      omega
    · rename_i hjn
      rw [if_neg (fun e => hjn e.symm)] at r3
      exact ⟨j, k, c', r1, r2, r3⟩
  · obtain ⟨j, k, c', r1, r3⟩ := hh
    have r3 : (if j = H.next then some (g, q) else ρ j) = some (b, c') := r3
    rw [AHeap.get_new] at r1
    split at r1
    · rename_i hjn
      rw [if_pos hjn.symm] at r3; cases r3
      omega
    · rename_i hjn
      rw [if_neg (fun e => hjn e.symm)] at r3
      exact ⟨j, k, c', r1, r3⟩
  · have hbA : (if w.heap.size ≤ b ∧ b ≠ g then cellsOf? w' b else ρ.fz b) = some A' := hbA
    by_cases h0 : w.heap.size ≤ b ∧ b ≠ g
    · exact .inr (.inl h0.1)
    · rw [if_neg h0] at hbA; exact .inl hbA
end
theorem no_gr {v : AV} {H' : AHeap} : (Tst.ret VR.no).gr ≠ some (VR.ok v H') := by simp [Tst.gr]
theorem rowCs_ok : CallOk Tryz.prog (gS rowCs) where
  mono f args H v H' h := by
    replace h := gS_some h
    unfold rowCs at h
    split at h
    · obtain ⟨d, h1⟩ := argsH_inv no_gr _ h
      obtain ⟨_, h1⟩ := must_gr h1
      cases h1
      exact Nat.le_succ _
    split at h
    · split at h
      · obtain ⟨_, _, _, d, _, _, h1⟩ := rowArg_gr no_gr h
        obtain ⟨_, h1⟩ := must_gr h1
        cases h1
        exact Nat.le_refl _
      · cases h
    split at h
    · split at h
      · obtain ⟨_, _, _, d, _, _, h1⟩ := rowArg_gr no_gr h
        obtain ⟨e, h2⟩ := argsH_inv no_gr _ h1
        obtain ⟨_, h2⟩ := must_gr h2
        cases h2
        exact Nat.le_refl _
      · cases h
    split at h
    · split at h
      · obtain ⟨_, _, _, d, _, _, h1⟩ := rowArg_gr no_gr h
        obtain ⟨_, h1⟩ := must_gr h1
        cases h1
        exact Nat.le_refl _
      · cases h
    · cases h
  sim f args H v H' h B ρ xs w m hH hG hd hf := by
    replace h := gS_some h
    unfold rowCs at h
    split at h
    · rename_i hb
      replace hb := Nat.eq_of_beq_eq_true hb
      subst hb
      obtain ⟨d, h1, h2⟩ := argsH_den (w := w) hH no_gr _ h
      obtain ⟨hok, h1⟩ := must_gr h1
      cases h1
      have hds := h2 xs hd
      cases hds with
      | cons d1 d2 =>
        cases d2 with
        | cons d2 d3 =>
          cases d3
          exact stand_call hH hG (hf H.next (Nat.le_refl _) (Nat.lt_succ_self _)) d1 d2 hok
    split at h
    · rename_i hb
      replace hb := Nat.eq_of_beq_eq_true hb
      subst hb
      split at h
      · obtain ⟨e, u, i, d, rfl, hi, h1⟩ := rowArg_gr no_gr h
        obtain ⟨hok, h1⟩ := must_gr h1
        cases h1
        cases hd with
        | cons d1 d2 =>
          cases d2
          exact tracks_call hH hG hi d1 hok
      · cases h
    split at h
    · rename_i hb
      replace hb := Nat.eq_of_beq_eq_true hb
      subst hb
      split at h
      · obtain ⟨e, u, i, d, rfl, hi, h1⟩ := rowArg_gr no_gr h
        cases hd with
        | cons d1 d2 =>
          obtain ⟨q, h2, h3⟩ := argsH_den (w := w) hH no_gr _ h1
          obtain ⟨hok, h2⟩ := must_gr h2
          cases h2
          rw [Bool.and_eq_true] at hok
          have hds := h3 _ d2
          cases hds with
          | cons e1 e2 =>
            cases e2 with
            | cons e2 e3 =>
              cases e3
              exact cross_call hH hG hi d1 e1 e2 hok.1 (of_decide_eq_true hok.2)
      · cases h
    split at h
    · rename_i hb
      replace hb := Nat.eq_of_beq_eq_true hb
      subst hb
      split at h
      · obtain ⟨e, u, i, d, rfl, hi, h1⟩ := rowArg_gr no_gr h
        obtain ⟨hok, h1⟩ := must_gr h1
        cases h1
        cases hd with
        | cons d1 d2 =>
          cases d2
          exact len_call hH hG hi d1 hok
      · cases h
    · cases h
def orCs (l : List FuncId) (A B : VCaller) : VCaller := fun f args H => match l.any (Nat.beq f) with
  | true => A f args H
  | false => B f args H
theorem orCs_ok {P : Program} {l : List FuncId} {A C : VCaller} (hA : CallOk P (gS A)) (hC : CallOk P (gS C)) : CallOk P (gS (orCs l A C)) := by
  have key : ∀ f args H, gS (orCs l A C) f args H = gS A f args H ∨ gS (orCs l A C) f args H = gS C f args H := fun f args H => by
    unfold gS orCs
    cases l.any (Nat.beq f) with
    | true => exact .inl rfl
    | false => exact .inr rfl
  refine ⟨fun f args H v H' h => ?_, fun f args H v H' h B ρ xs w m hH hG hd hf => ?_⟩
  · rcases key f args H with e | e <;> rw [e] at h
    · exact hA.mono _ _ _ _ _ h
    · exact hC.mono _ _ _ _ _ h
  · rcases key f args H with e | e <;> rw [e] at h
    · exact hA.sim _ _ _ _ _ h B ρ xs w m hH hG hd hf
    · exact hC.sim _ _ _ _ _ h B ρ xs w m hH hG hd hf
def rowFs : List FuncId := [42, 43, 44, 45]
end
end Go.Proofs.YtbldpojkpmafpaaGreatDoor

/- All orders of the numbers below n, in plain Lean: by prefixes, by levels; what is the least of them. -/
namespace Go.Proofs.YtbldpojkpmafpaaGreatDoor
def ext (m : Nat) : Nat → List Int → List (List Int)
  | 0, ch => [ch]
  | d + 1, ch => (List.range m).flatMap fun k : Nat => if (k : Int) ∈ ch then [] else ext m d (ch ++ [(k : Int)])
def extTo (m d : Nat) (ch : List Int) (k : Nat) : List (List Int) := (List.range k).flatMap fun k : Nat => if (k : Int) ∈ ch then [] else ext m d (ch ++ [(k : Int)])
theorem extTo_next (m d : Nat) (ch : List Int) (k : Nat) : extTo m d ch (k + 1) = extTo m d ch k ++ if (k : Int) ∈ ch then [] else ext m d (ch ++ [(k : Int)]) := by
  unfold extTo
  rw [List.range_succ, List.flatMap_append]
  simp
theorem extTo_all (m d : Nat) (ch : List Int) : extTo m d ch m = ext m (d + 1) ch := rfl
def moreTo (l : List Int) (k : Nat) : List (List Int) := (List.range k).flatMap fun k : Nat => if (k : Int) ∈ l then [] else [l ++ [(k : Int)]]
def nextTo (n : Nat) (ls : List (List Int)) (i : Nat) : List (List Int) := (ls.take i).flatMap fun l => moreTo l n
def level (n : Nat) : Nat → List (List Int)
  | 0 => [[]]
  | k + 1 => nextTo n (level n k) (level n k).length
structure IsOrd (m : Nat) (p : List Int) : Prop where
  len : p.length = m
  bd : ∀ x ∈ p, 0 ≤ x ∧ x < m
  nd : p.Nodup
theorem ext_mem (m : Nat) : ∀ (d : Nat) (ch p : List Int), p ∈ ext m d ch ↔ ∃ t, p = ch ++ t ∧ t.length = d ∧ (∀ x ∈ t, 0 ≤ x ∧ x < m ∧ x ∉ ch) ∧ t.Nodup
  | 0, ch, p => by
    show p ∈ [ch] ↔ _
    rw [List.mem_singleton]
    constructor
    · rintro rfl
      exact ⟨[], by simp, rfl, (fun x hx => by cases hx), List.nodup_nil⟩
    · rintro ⟨t, rfl, h, _⟩
      rw [List.eq_nil_of_length_eq_zero h, List.append_nil]
  | d + 1, ch, p => by
    show p ∈ (List.range m).flatMap _ ↔ _
    rw [List.mem_flatMap]
    constructor
    · rintro ⟨k, hk, hp⟩
      have hk := List.mem_range.1 hk
      by_cases hc : (k : Int) ∈ ch
      · rw [if_pos hc] at hp; cases hp
      · rw [if_neg hc, ext_mem m d] at hp
        obtain ⟨t, rfl, h1, h2, h3⟩ := hp
        refine ⟨(k : Int) :: t, by simp, by simp [h1], fun x hx => ?_, ?_⟩
        · rcases List.mem_cons.1 hx with rfl | hx
          · exact ⟨by omega, by omega, hc⟩
          · obtain ⟨a, b, c⟩ := h2 x hx
            exact ⟨a, b, fun h => c (List.mem_append_left _ h)⟩
        · refine List.nodup_cons.2 ⟨fun h => ?_, h3⟩
          exact (h2 _ h).2.2 (by simp)
    · rintro ⟨t, rfl, h1, h2, h3⟩
      cases t with
      | nil => cases h1
      | cons x t =>
        obtain ⟨a, b, c⟩ := h2 x List.mem_cons_self
        refine ⟨x.toNat, List.mem_range.2 (by omega), ?_⟩
        have e : ((x.toNat : Nat) : Int) = x := by omega
        rw [e, if_neg c, ext_mem m d]
        obtain ⟨n1, n2⟩ := List.nodup_cons.1 h3
        refine ⟨t, by simp, by simpa using h1, fun y hy => ?_, n2⟩
        obtain ⟨a', b', c'⟩ := h2 y (List.mem_cons_of_mem _ hy)
        refine ⟨a', b', fun h => ?_⟩
        rcases List.mem_append.1 h with h | h
        · exact c' h
        · rw [List.mem_singleton] at h
          subst h
          exact n1 hy
theorem ord_mem (m : Nat) (p : List Int) : p ∈ ext m m [] ↔ IsOrd m p := by
  rw [ext_mem]
  constructor
  · rintro ⟨t, rfl, h1, h2, h3⟩
    exact ⟨by simpa using h1, fun x hx => by have := h2 x (by simpa using hx); exact ⟨this.1, this.2.1⟩, by simpa using h3⟩
  · rintro ⟨h1, h2, h3⟩
    exact ⟨p, by simp, h1, fun x hx => ⟨(h2 x hx).1, (h2 x hx).2, by simp⟩, h3⟩

section
variable {α κ : Type} (key : α → κ) (lt : κ → κ → Bool)
def bestStep (st : Option α) (x : α) : Option α := match st with
  | none => some x
  | some b => if lt (key x) (key b) = true then some x else some b
def bestOf (l : List α) : Option α := l.foldl (bestStep key lt) none
theorem bestOf_snoc (l : List α) (x : α) : bestOf key lt (l ++ [x]) = bestStep key lt (bestOf key lt l) x := by
  unfold bestOf; rw [List.foldl_append]; rfl
theorem bestOf_mem : ∀ (l : List α), (l = [] ∧ bestOf key lt l = none) ∨ ∃ b, bestOf key lt l = some b ∧ b ∈ l := by
  intro l
  suffices h : ∀ (r : List α) (st : Option α), (r = [] ∧ r.foldl (bestStep key lt) st = st) ∨ ∃ b, r.foldl (bestStep key lt) st = some b ∧ (b ∈ r ∨ st = some b) by
    rcases h l none with h | ⟨b, h1, h2 | h2⟩
    · exact .inl h
    · exact .inr ⟨b, h1, h2⟩
    · cases h2
  intro r
  induction r with
  | nil => intro st; exact .inl ⟨rfl, rfl⟩
  | cons x r ih =>
    intro st
    right
    show ∃ b, r.foldl (bestStep key lt) (bestStep key lt st x) = some b ∧ _
    have hx : ∃ y, bestStep key lt st x = some y ∧ (y = x ∨ st = some y) := by
      cases st with
      | none => exact ⟨x, rfl, .inl rfl⟩
      | some b =>
        by_cases hl : lt (key x) (key b) = true
        · exact ⟨x, by simp [bestStep, hl], .inl rfl⟩
        · exact ⟨b, by simp [bestStep, hl], .inr rfl⟩
    obtain ⟨y, hy, hy2⟩ := hx
    rcases ih (bestStep key lt st x) with ⟨rfl, h⟩ | ⟨b, h1, h2⟩
    · rw [hy] at h ⊢
      refine ⟨y, rfl, ?_⟩
      rcases hy2 with rfl | h2
      · exact .inl List.mem_cons_self
      · exact .inr h2
    · refine ⟨b, h1, ?_⟩
      rcases h2 with h2 | h2
      · exact .inl (List.mem_cons_of_mem _ h2)
      · rw [hy] at h2
        cases h2
        rcases hy2 with rfl | h2
        · exact .inl List.mem_cons_self
        · exact .inr h2
structure KeyOrd : Prop where
  irr : ∀ a, lt a a = false
  tr : ∀ a b c, lt b a = false → lt c b = false → lt c a = false
  asymm : ∀ a b, lt a b = true → lt b a = false
theorem snoc_ind {β : Type} {motive : List β → Prop} (nil : motive []) (snoc : ∀ l x, motive l → motive (l ++ [x])) (l : List β) : motive l := by
  have h : ∀ r : List β, motive r.reverse := fun r => by
    induction r with
    | nil => exact nil
    | cons x r ih => rw [List.reverse_cons]; exact snoc _ _ ih
  have := h l.reverse
  rwa [List.reverse_reverse] at this
theorem bestOf_least (ho : KeyOrd lt) : ∀ (l : List α) (b : α), bestOf key lt l = some b → ∀ x ∈ l, lt (key x) (key b) = false := by
  intro l
  refine snoc_ind (motive := fun l => ∀ b, bestOf key lt l = some b → ∀ x ∈ l, lt (key x) (key b) = false) (fun b _ x hx => (by cases hx)) (fun l y ih => ?_) l
  · intro b hb x hx
    rw [bestOf_snoc] at hb
    cases hl : bestOf key lt l with
    | none =>
      rcases bestOf_mem key lt l with ⟨rfl, _⟩ | ⟨b', h, _⟩
      · rw [hl] at hb
        cases hb
        rcases List.mem_append.1 hx with hx | hx
        · cases hx
        · rw [List.mem_singleton] at hx; subst hx; exact ho.irr _
      · rw [hl] at h; cases h
    | some b0 =>
      rw [hl] at hb
      have h0 := ih b0 hl
      by_cases hlt : lt (key y) (key b0) = true
      · simp only [bestStep, hlt, if_true] at hb
        cases hb
        rcases List.mem_append.1 hx with hx | hx
        · exact ho.tr _ _ _ (ho.asymm _ _ hlt) (h0 x hx)
        · rw [List.mem_singleton] at hx; subst hx; exact ho.irr _
      · simp only [bestStep, hlt, Bool.false_eq_true, if_false] at hb
        cases hb
        rcases List.mem_append.1 hx with hx | hx
        · exact h0 x hx
        · rw [List.mem_singleton] at hx; subst hx; simpa using hlt
end
def lexB : List Int → List Int → Bool
  | a :: l, b :: m => if a = b then lexB l m else decide (a < b)
  | [], _ :: _ => true
  | _, [] => false
theorem lexB_ord : KeyOrd lexB := by
  refine ⟨fun a => ?_, fun a b c => ?_, fun a b => ?_⟩
  · induction a with
    | nil => rfl
    | cons x l ih => simp [lexB, ih]
  · induction a generalizing b c with
    | nil => intro _ _; cases c <;> rfl
    | cons x a ih =>
      intro h1 h2
      cases b with
      | nil => simp [lexB] at h1
      | cons y b =>
        cases c with
        | nil => simp [lexB] at h2
        | cons z c =>
          simp only [lexB] at h1 h2 ⊢
          by_cases e1 : y = x
          · subst e1
            rw [if_pos rfl] at h1
            by_cases e2 : z = y
            · subst e2
              rw [if_pos rfl] at h2 ⊢
              exact ih b c h1 h2
            · rw [if_neg e2] at h2 ⊢; exact h2
          · rw [if_neg e1] at h1
            have h1 := of_decide_eq_false h1
            by_cases e2 : z = y
            · subst e2
              rw [if_neg e1]; exact decide_eq_false h1
            · rw [if_neg e2] at h2
              have h2 := of_decide_eq_false h2
              rw [if_neg (by omega)]
              exact decide_eq_false (by omega)
  · induction a generalizing b with
    | nil => intro h; cases b with
      | nil => rfl
      | cons y b => rfl
    | cons x a ih =>
      intro h
      cases b with
      | nil => simp [lexB] at h
      | cons y b =>
        simp only [lexB] at h ⊢
        by_cases e : x = y
        · subst e
          rw [if_pos rfl] at h ⊢
          exact ih b h
        · rw [if_neg e] at h
          have h := of_decide_eq_true h
          rw [if_neg (fun e' => e e'.symm)]
          exact decide_eq_false (by omega)
end Go.Proofs.YtbldpojkpmafpaaGreatDoor

/- Lists of integers compared, by the library and by the reference. -/
namespace Go.Proofs.YtbldpojkpmafpaaGreatDoor
open Go.RowKit Sv
set_option maxRecDepth 100000
set_option linter.unusedVariables false
noncomputable section
def cmpI (a b : List Int) : Int := if lexB a b = true then -1 else if lexB b a = true then 1 else 0
def BCmp : Code := (Tryz.f46.body).getD .skip
def SCmp (a b : List Int) (i : Nat) : St := { n := 36, sl := [(0, lv a), (1, lv b), (9, lv a), (10, iv a.length), (11, iv i)], en := [], next := 64 }
theorem cmp_start (a b : List Int)  :
    Tst.path (vrun0 Tryz.prog (ctrs []) (fl BCmp []) 2 36 [lv a, lv b]) [] (toSt Tryz.prog 36 .normal [] (SCmp a b 0)) := by
  have eTst : (Tst.path (vrun0 Tryz.prog (ctrs []) (fl BCmp []) 2 36 [lv a, lv b]) [] (toSt Tryz.prog 36 .normal [] (SCmp a b 0))) = (((a) = (a)) ∧ ((b) = (b)) ∧ ((a) = (a)) ∧ (((↑(List.length a) : Int)) = ((↑(List.length a) : Int))) ∧ (((0 : Int)) = ((↑(0 : Nat) : Int))) ∧ True) := by kernel_rfl
  exact eTst.mpr ⟨rfl, ⟨rfl, ⟨rfl, ⟨rfl, ⟨rfl, trivial⟩⟩⟩⟩⟩
theorem cmp_far (a b : List Int) (i : Nat) (h1 : (↑i : Int) < (↑(List.length a) : Int)) (h2 : i < List.length a) (h3 : (↑i : Int) ≥ (↑(List.length b) : Int)) :
    Tst.path (vall Tryz.prog (ctrs []) (fl BCmp [1,0,1,0,0]) (SCmp a b i)) [true, true] (toRet Tryz.prog Tryz.f46 true (iv 1)) := by
  have eTst : (Tst.path (vall Tryz.prog (ctrs []) (fl BCmp [1,0,1,0,0]) (SCmp a b i)) [true, true] (toRet Tryz.prog Tryz.f46 true (iv 1))) = (((decide ((↑i : Int) < (↑(List.length a) : Int))) = true) ∧ ((decide ((0 : Int) ≤ (↑i : Int))) = true) ∧ ((decide (i < List.length a)) = true) ∧ ((decide ((↑i : Int) ≥ (↑(List.length b) : Int))) = true) ∧ ((1 : Int)) = ((1 : Int))) := by kernel_rfl
  exact eTst.mpr ⟨decide_eq_true h1, ⟨decide_eq_true (by omega), ⟨decide_eq_true h2, ⟨decide_eq_true h3, rfl⟩⟩⟩⟩
theorem cmp_lt (a b : List Int) (i : Nat) (h1 : (↑i : Int) < (↑(List.length a) : Int)) (h2 : i < List.length a) (h3 : ¬(↑i : Int) ≥ (↑(List.length b) : Int)) (h4 : i < List.length b) (h5 : List.getD a i (0 : Int) = List.getD a i (0 : Int)) (h6 : List.getD b i (0 : Int) = List.getD b i (0 : Int)) (h7 : List.getD a i (0 : Int) < List.getD b i (0 : Int)) :
    Tst.path (vall Tryz.prog (ctrs []) (fl BCmp [1,0,1,0,0]) (SCmp a b i)) [true, false, false, false, true, true] (toRet Tryz.prog Tryz.f46 true (iv (-1))) := by
  have eTst : (Tst.path (vall Tryz.prog (ctrs []) (fl BCmp [1,0,1,0,0]) (SCmp a b i)) [true, false, false, false, true, true] (toRet Tryz.prog Tryz.f46 true (iv (-1)))) = (((decide ((↑i : Int) < (↑(List.length a) : Int))) = true) ∧ ((decide ((0 : Int) ≤ (↑i : Int))) = true) ∧ ((decide (i < List.length a)) = true) ∧ ((decide ((↑i : Int) ≥ (↑(List.length b) : Int))) = false) ∧ ((decide ((0 : Int) ≤ (↑i : Int))) = true) ∧ ((decide (i < List.length b)) = true) ∧ ((List.getD a i (0 : Int) != List.getD a i (0 : Int)) = false) ∧ ((List.getD b i (0 : Int) != List.getD b i (0 : Int)) = false) ∧ ((decide (List.getD a i (0 : Int) < List.getD b i (0 : Int))) = true) ∧ (((-1 : Int) != (0 : Int)) = true) ∧ ((-1 : Int)) = ((-1 : Int))) := by kernel_rfl
  exact eTst.mpr ⟨decide_eq_true h1, ⟨decide_eq_true (by omega), ⟨decide_eq_true h2, ⟨decide_eq_false h3, ⟨decide_eq_true (by omega), ⟨decide_eq_true h4, ⟨bne_eq_false_iff_eq.mpr h5, ⟨bne_eq_false_iff_eq.mpr h6, ⟨decide_eq_true h7, ⟨rfl, rfl⟩⟩⟩⟩⟩⟩⟩⟩⟩⟩
theorem cmp_gt (a b : List Int) (i : Nat) (h1 : (↑i : Int) < (↑(List.length a) : Int)) (h2 : i < List.length a) (h3 : ¬(↑i : Int) ≥ (↑(List.length b) : Int)) (h4 : i < List.length b) (h5 : List.getD a i (0 : Int) = List.getD a i (0 : Int)) (h6 : List.getD b i (0 : Int) = List.getD b i (0 : Int)) (h7 : ¬List.getD a i (0 : Int) < List.getD b i (0 : Int)) (h8 : List.getD a i (0 : Int) > List.getD b i (0 : Int)) :
    Tst.path (vall Tryz.prog (ctrs []) (fl BCmp [1,0,1,0,0]) (SCmp a b i)) [true, false, false, false, false, true, true] (toRet Tryz.prog Tryz.f46 true (iv 1)) := by
  have eTst : (Tst.path (vall Tryz.prog (ctrs []) (fl BCmp [1,0,1,0,0]) (SCmp a b i)) [true, false, false, false, false, true, true] (toRet Tryz.prog Tryz.f46 true (iv 1))) = (((decide ((↑i : Int) < (↑(List.length a) : Int))) = true) ∧ ((decide ((0 : Int) ≤ (↑i : Int))) = true) ∧ ((decide (i < List.length a)) = true) ∧ ((decide ((↑i : Int) ≥ (↑(List.length b) : Int))) = false) ∧ ((decide ((0 : Int) ≤ (↑i : Int))) = true) ∧ ((decide (i < List.length b)) = true) ∧ ((List.getD a i (0 : Int) != List.getD a i (0 : Int)) = false) ∧ ((List.getD b i (0 : Int) != List.getD b i (0 : Int)) = false) ∧ ((decide (List.getD a i (0 : Int) < List.getD b i (0 : Int))) = false) ∧ ((decide (List.getD a i (0 : Int) > List.getD b i (0 : Int))) = true) ∧ (((1 : Int) != (0 : Int)) = true) ∧ ((1 : Int)) = ((1 : Int))) := by kernel_rfl
  exact eTst.mpr ⟨decide_eq_true h1, ⟨decide_eq_true (by omega), ⟨decide_eq_true h2, ⟨decide_eq_false h3, ⟨decide_eq_true (by omega), ⟨decide_eq_true h4, ⟨bne_eq_false_iff_eq.mpr h5, ⟨bne_eq_false_iff_eq.mpr h6, ⟨decide_eq_false h7, ⟨decide_eq_true h8, ⟨rfl, rfl⟩⟩⟩⟩⟩⟩⟩⟩⟩⟩⟩
theorem cmp_go (a b : List Int) (i : Nat) (h1 : (↑i : Int) < (↑(List.length a) : Int)) (h2 : i < List.length a) (h3 : ¬(↑i : Int) ≥ (↑(List.length b) : Int)) (h4 : i < List.length b) (h5 : List.getD a i (0 : Int) = List.getD a i (0 : Int)) (h6 : List.getD b i (0 : Int) = List.getD b i (0 : Int)) (h7 : ¬List.getD a i (0 : Int) < List.getD b i (0 : Int)) (h8 : ¬List.getD a i (0 : Int) > List.getD b i (0 : Int)) (h9 : -9223372036854775808 ≤ (↑i : Int) + (1 : Int) ∧ (↑i : Int) + (1 : Int) ≤ 9223372036854775807) :
    Tst.path (vall Tryz.prog (ctrs []) (fl BCmp [1,0,1,0,0]) (SCmp a b i)) [true, false, false, false, false, false, false] (toSt Tryz.prog 36 .normal [] (SCmp a b (i + 1))) := by
  have eTst : (Tst.path (vall Tryz.prog (ctrs []) (fl BCmp [1,0,1,0,0]) (SCmp a b i)) [true, false, false, false, false, false, false] (toSt Tryz.prog 36 .normal [] (SCmp a b (i + 1)))) = (((decide ((↑i : Int) < (↑(List.length a) : Int))) = true) ∧ ((decide ((0 : Int) ≤ (↑i : Int))) = true) ∧ ((decide (i < List.length a)) = true) ∧ ((decide ((↑i : Int) ≥ (↑(List.length b) : Int))) = false) ∧ ((decide ((0 : Int) ≤ (↑i : Int))) = true) ∧ ((decide (i < List.length b)) = true) ∧ ((List.getD a i (0 : Int) != List.getD a i (0 : Int)) = false) ∧ ((List.getD b i (0 : Int) != List.getD b i (0 : Int)) = false) ∧ ((decide (List.getD a i (0 : Int) < List.getD b i (0 : Int))) = false) ∧ ((decide (List.getD a i (0 : Int) > List.getD b i (0 : Int))) = false) ∧ (((0 : Int) != (0 : Int)) = false) ∧ ((fits IntKind.i64 ((↑i : Int) + (1 : Int))) = true) ∧ ((a) = (a)) ∧ ((b) = (b)) ∧ ((a) = (a)) ∧ (((↑(List.length a) : Int)) = ((↑(List.length a) : Int))) ∧ (((↑i : Int) + (1 : Int)) = ((↑(i + (1 : Nat)) : Int))) ∧ True) := by kernel_rfl
  exact eTst.mpr ⟨decide_eq_true h1, ⟨decide_eq_true (by omega), ⟨decide_eq_true h2, ⟨decide_eq_false h3, ⟨decide_eq_true (by omega), ⟨decide_eq_true h4, ⟨bne_eq_false_iff_eq.mpr h5, ⟨bne_eq_false_iff_eq.mpr h6, ⟨decide_eq_false h7, ⟨decide_eq_false h8, ⟨rfl, ⟨fits_i64 h9, ⟨rfl, ⟨rfl, ⟨rfl, ⟨rfl, ⟨(by omega), trivial⟩⟩⟩⟩⟩⟩⟩⟩⟩⟩⟩⟩⟩⟩⟩⟩⟩
theorem cmp_end (a b : List Int) (i : Nat) (h1 : ¬(↑i : Int) < (↑(List.length a) : Int)) :
    Tst.path (vall Tryz.prog (ctrs []) (fl BCmp [1,0,1,0,0]) (SCmp a b i)) [false] (toSt Tryz.prog 36 (.exit 0) [] (SCmp a b i)) := by
  have eTst : (Tst.path (vall Tryz.prog (ctrs []) (fl BCmp [1,0,1,0,0]) (SCmp a b i)) [false] (toSt Tryz.prog 36 (.exit 0) [] (SCmp a b i))) = (((decide ((↑i : Int) < (↑(List.length a) : Int))) = false) ∧ ((a) = (a)) ∧ ((b) = (b)) ∧ ((a) = (a)) ∧ (((↑(List.length a) : Int)) = ((↑(List.length a) : Int))) ∧ (((↑i : Int)) = ((↑i : Int))) ∧ True) := by kernel_rfl
  exact eTst.mpr ⟨decide_eq_false h1, ⟨rfl, ⟨rfl, ⟨rfl, ⟨rfl, ⟨rfl, trivial⟩⟩⟩⟩⟩⟩
theorem cmp_short (a b : List Int) (i : Nat) (h1 : (↑(List.length a) : Int) < (↑(List.length b) : Int)) :
    Tst.path (vall Tryz.prog (ctrs []) (List.drop 3 (fl BCmp [])) (SCmp a b i)) [true] (toRet Tryz.prog Tryz.f46 true (iv (-1))) := by
  have eTst : (Tst.path (vall Tryz.prog (ctrs []) (List.drop 3 (fl BCmp [])) (SCmp a b i)) [true] (toRet Tryz.prog Tryz.f46 true (iv (-1)))) = (((decide ((↑(List.length a) : Int) < (↑(List.length b) : Int))) = true) ∧ ((-1 : Int)) = ((-1 : Int))) := by kernel_rfl
  exact eTst.mpr ⟨decide_eq_true h1, rfl⟩
theorem cmp_same (a b : List Int) (i : Nat) (h1 : ¬(↑(List.length a) : Int) < (↑(List.length b) : Int)) :
    Tst.path (vall Tryz.prog (ctrs []) (List.drop 3 (fl BCmp [])) (SCmp a b i)) [false] (toRet Tryz.prog Tryz.f46 true (iv 0)) := by
  have eTst : (Tst.path (vall Tryz.prog (ctrs []) (List.drop 3 (fl BCmp [])) (SCmp a b i)) [false] (toRet Tryz.prog Tryz.f46 true (iv 0))) = (((decide ((↑(List.length a) : Int) < (↑(List.length b) : Int))) = false) ∧ ((0 : Int)) = ((0 : Int))) := by kernel_rfl
  exact eTst.mpr ⟨decide_eq_false h1, rfl⟩
noncomputable def cCmp : Ctr := { f := 46, ps := [.list false (.int .i64), .list false (.int .i64)], rs := [.int .i64], fresh := true, pre := fun d => decide (List.length (α := Int) d.1 ≤ 1000000), fn := fun d => (cmpI d.1 d.2.1, ()) }
theorem drop_at {l : List Int} {i : Nat} (h : i < l.length) : l.drop i = l.getD i 0 :: l.drop (i + 1) := by
  rw [getD_lt h]; exact List.drop_eq_getElem_cons h
theorem lexB_pre : ∀ (i : Nat) (a b : List Int), a.take i = b.take i → i ≤ a.length → i ≤ b.length → lexB a b = lexB (a.drop i) (b.drop i)
  | 0, _, _, _, _, _ => rfl
  | i + 1, [], _, _, h, _ => by simp at h
  | i + 1, _ :: _, [], _, _, h => by simp at h
  | i + 1, x :: a, y :: b, e, h1, h2 => by
    rw [List.take_succ_cons, List.take_succ_cons] at e
    have e1 := (List.cons.inj e).1
    have e2 := (List.cons.inj e).2
    subst e1
    show (if x = x then lexB a b else _) = _
    rw [if_pos rfl]
    exact lexB_pre i a b e2 (by simpa using h1) (by simpa using h2)
theorem lexB_lt {x y : Int} {l m : List Int} (h : x < y) : lexB (x :: l) (y :: m) = true := by
  show (if x = y then lexB l m else decide (x < y)) = true
  rw [if_neg (by omega)]; exact decide_eq_true h
theorem lexB_gt {x y : Int} {l m : List Int} (h : y < x) : lexB (x :: l) (y :: m) = false := by
  show (if x = y then lexB l m else decide (x < y)) = false
  rw [if_neg (by omega)]; exact decide_eq_false (by omega)
theorem cmp_holds (a b : List Int) (hl : a.length ≤ 1000000) : Holds Tryz.prog true 46 [lv a, lv b] (iv (cmpI a b)) := by
  have hS := none_ok
  refine holds_fl (c := BCmp) Tryz.func46 rfl rfl fun w F => ?_
  refine GoalL.to known mixed hS 2 _ (cmp_start a b) (by kernel_rfl) ?_
  refine GoalL.loop (ι := { i : Nat // i ≤ a.length ∧ i ≤ b.length ∧ a.take i = b.take i }) (id := 0) (b := cat BCmp [1,0,1,0,0]) (rest := List.drop 3 (fl BCmp [])) (by kernel_rfl) (fun i => SCmp a b i.1) (fun i => a.length - i.1) ⟨0, Nat.zero_le _, Nat.zero_le _, rfl⟩ (fun _ => rfl) ?_
  rintro ⟨i, h1, h2, h3⟩
  have hp := lexB_pre i a b h3 h1 h2
  have hq := lexB_pre i b a h3.symm h2 h1
  by_cases hlt : i < a.length
  · by_cases hb : i < b.length
    · rw [drop_at hlt, drop_at hb] at hp hq
      rcases Int.lt_trichotomy (a.getD i 0) (b.getD i 0) with h | h | h
      · refine GoalL.allRet (s := SCmp a b i) known mixed hS _ (cmp_lt a b i (by omega) hlt (by omega) hb rfl rfl h) fun T H g => ?_
        rw [show cmpI a b = -1 by unfold cmpI; rw [hp, lexB_lt h, if_pos rfl]]
        exact g
      · refine GoalL.all (s := SCmp a b i) known mixed hS _ (cmp_go a b i (by omega) hlt (by omega) hb rfl rfl (by omega) (by omega) (by omega)) (by kernel_rfl) ?_
        exact ⟨⟨i + 1, by omega, by omega, by rw [take_next hlt, take_next hb, h3, h]⟩, by simp; omega, rfl, rfl⟩
      · refine GoalL.allRet (s := SCmp a b i) known mixed hS _ (cmp_gt a b i (by omega) hlt (by omega) hb rfl rfl (by omega) (by omega)) fun T H g => ?_
        rw [show cmpI a b = 1 by unfold cmpI; rw [hp, hq, lexB_gt h, lexB_lt h, if_neg (by decide), if_pos rfl]]
        exact g
    · refine GoalL.allRet (s := SCmp a b i) known mixed hS _ (cmp_far a b i (by omega) hlt (by omega)) fun T H g => ?_
      rw [drop_at hlt, List.drop_of_length_le (show b.length ≤ i by omega)] at hp hq
      rw [show cmpI a b = 1 by unfold cmpI; rw [hp, hq]; rfl]
      exact g
  · refine GoalL.all (s := SCmp a b i) known mixed hS _ (cmp_end a b i (by omega)) (by kernel_rfl) ?_
    refine onN_exit (inB_exit ?_)
    obtain rfl : i = a.length := by omega
    rw [List.drop_of_length_le (Nat.le_refl _)] at hp hq
    by_cases hb : a.length < b.length
    · refine GoalL.allRet (s := SCmp a b a.length) known mixed hS _ (cmp_short a b _ (by omega)) fun T H g => ?_
      rw [drop_at hb] at hp
      rw [show cmpI a b = -1 by unfold cmpI; rw [hp]; rfl]
      exact g
    · refine GoalL.allRet (s := SCmp a b a.length) known mixed hS _ (cmp_same a b _ (by omega)) fun T H g => ?_
      rw [List.drop_of_length_le (show b.length ≤ a.length by omega)] at hp hq
      rw [show cmpI a b = 0 by unfold cmpI; rw [hp, hq]; rfl]
      exact g
theorem cCmp_ok : cCmp.Ok Tryz.prog := fun ⟨a, b, _⟩ h => cmp_holds a b (of_decide_eq_true h)
end
end Go.Proofs.YtbldpojkpmafpaaGreatDoor

/- Package bus and its reference: small functions as contracts: CheckNets, Length, the place of a number in a list, lists compared. -/
namespace Go.Proofs.YtbldpojkpmafpaaGreatDoor
open Go.RowKit Sv
set_option maxRecDepth 100000
set_option linter.unusedVariables false
noncomputable section
noncomputable def cNetsB : Ctr := { f := 39, ps := [.list false (.pair (.int .i64) (.list false (.int .i64))), .int .i64], rs := [.int .i64], fresh := true, pre := fun d => goodB d.1 && decide (List.length (α := Int × List Int) d.1 ≤ 140737488355328), fn := fun d => (Bus.netsErr d.1 d.2.1, ()) }
theorem cNetsB_ok : cNetsB.Ok Tryz.prog := fun ⟨nets, n, _⟩ h => holds_raw fun w F xs hF hd => by
  obtain ⟨h1, h2⟩ := Bool.and_eq_true_iff.1 h
  have hl := of_decide_eq_true h2
  cases hd with
  | cons d1 d2 =>
    cases d2 with
    | cons d2 d3 =>
      cases d3
      obtain ⟨A, c, l, rfl, rfl, hN⟩ := den_nets hF (goodB_iff.1 h1) d1
      rw [d2.raw_eq]
      refine CheckNets_any A c w.heap.size l n w hN (Nat.le_refl _) ?_
      simpa using hl
def lenB (nets : List (Int × List Int)) (n : Int) (order : List Int) : Int × Int := if Bus.bothErr nets n order = 0 then (sumExt (extsOf nets order), 0) else (0, Bus.bothErr nets n order)
noncomputable def cLenB : Ctr := { f := 26, ps := [.list false tN, .int .i64, .list false (.int .i64)], rs := [.int .i64, .int .i64], fresh := true, pre := fun d => okChk d.1 d.2.2.1, fn := fun d => ((lenB d.1 d.2.1 d.2.2.1).1, ((lenB d.1 d.2.1 d.2.2.1).2, ())) }
theorem cLenB_ok : cLenB.Ok Tryz.prog := fun ⟨nets, n, order, _⟩ h => holds_pair fun w F xs hF hd => by
  have h' : okChk nets order = true := h
  unfold okChk at h'
  simp only [Bool.and_eq_true, decide_eq_true_eq, List.all_eq_true] at h'
  obtain ⟨h1, h2, h3, h4⟩ := h'
  obtain ⟨A, A2, c, c2, l, rfl, hl, hN, hR⟩ := dens_bus hF (goodB_iff.1 h1) hd
  have hll : l.length = nets.length := by rw [← hl, List.length_map]
  show Calls _ _ _ _ fun e w' => e = .returned (.tuple #[.int .i64 (lenB nets n order).1, .int .i64 (lenB nets n order).2]) ∧ _
  by_cases hE : Bus.bothErr nets n order = 0
  · unfold lenB
    rw [if_pos hE, ← hl]
    exact Length_ok A A2 c c2 w.heap.size l order n w hN hR h4 (Nat.le_refl _) (by omega) (by omega) (by rw [hl]; exact hE)
  · unfold lenB
    rw [if_neg hE, ← hl]
    exact Length_bad A A2 c c2 w.heap.size l order n w hN hR h4 (Nat.le_refl _) (by omega) (by omega) _ rfl (by rw [hl]; exact hE)
noncomputable def cFirst : Ctr := { f := 38, ps := [.list false (.int .i64)], rs := [.int .i64], fresh := true, pre := fun d => decide (List.length (α := Int) d.1 ≤ 1000000), fn := fun d => (firstOf d.1, ()) }
theorem cFirst_ok : cFirst.Ok Tryz.prog := fun ⟨l, _⟩ h => holds_raw fun w F xs hF hd => by
  have hl := of_decide_eq_true h
  cases hd with
  | cons d1 d2 =>
    cases d2
    obtain ⟨A, c, rfl, hc, hR⟩ := den_ints hF d1
    exact (first_any A c w.heap.size l w hl hR).mono fun e w' ⟨h1, h2⟩ => ⟨h1, by subst h2; exact Below.refl _ _⟩
end
end Go.Proofs.YtbldpojkpmafpaaGreatDoor
