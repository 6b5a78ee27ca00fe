/-
  DERIVED: THE SHELF's CONTRACTS AT THIS DUMP, IN PLAIN WORDS (tools/lay-plain.mjs out of 'TryzShelf.lean', which tools/lay-shelf.mjs wrote): THE SAME DECLARATIONS UNDER THE SAME NAMES: 'import', 'namespace', 'open', 'def', 'theorem' AND NOTHING ELSE: no command of the shelf's: FOR A HAND-IN. Each laying: the table of numbers ('.._ren') and one theorem, a field a fact of the dump's own or the kernel's comparison; each contract: ONE APPLICATION.
-/
import Derived.Shelf.Small.Utf8
import Derived.Shelf.Small.Bits
import Derived.Shelf.Small.Strs
import Derived.Shelf.Small.Wraps
import Derived.Shelf.Strconv.Atoi
import Derived.Shelf.Strconv.Itoa0
import Derived.Shelf.Strconv.Itoa1
import Derived.Shelf.LaysM
import Derived.Shelf.Strconv.Itoa2
import Derived.Shelf.Strconv.Itoa3
import Derived.Shelf.Strconv.AtoiErrFast
import Derived.Shelf.Strconv.ParseIntEmpty
import Derived.Shelf.Strconv.AtoiFail
import Derived.Shelf.Strconv.Clone
import Derived.Shelf.Strconv.SyntaxError
import Derived.Shelf.LaysC
import Derived.Shelf.Strconv.ToError
import Derived.Shelf.Strconv.AtoiErr
import Derived.Shelf.Strconv.ErrVar
import Derived.Shelf.Strconv.Lower
import Derived.Shelf.Strconv.ParseUint10
import Derived.Shelf.Strconv.ParseUint10Empty
import Derived.Shelf.Strconv.ParseUint10Any
import Derived.Shelf.Strconv.ParseInt10
import Derived.Shelf.Strconv.AtoiLong
import Derived.Shelf.Strconv.AtoiInnerAll
import Derived.Shelf.Strconv.RangeError
import Derived.Shelf.Strconv.ToErrorRange
import Derived.Shelf.Strconv.AtoiAll
import Derived.Shelf.Strconv.ErrVarAll
import Derived.Shelf.Strconv.ParseUintEmpty
import Derived.Shelf.Strconv.ParseUint10b64
import Derived.Shelf.Strconv.ParseUint10b32
import Derived.Shelf.Strconv.ParseUint10b16
import Derived.Shelf.Strconv.ParseUint10b8
import Derived.Shelf.Strconv.ParseUint10At
import Derived.Shelf.Strings.Search1
import Derived.Shelf.Strings.Search2
import Derived.Shelf.Strings.Search3
import Derived.Shelf.Strings.Cut
import Derived.Shelf.Strings.Count
import Derived.Shelf.Strings.Shaped
import Derived.Shelf.Sort.Plain
import Derived.Shelf.Strings.Prefix
import Derived.Shelf.Strings.Runes
import Derived.Shelf.Strings.AsciiSet
import Derived.Shelf.Bits.Mul64
import Derived.Shelf.Unicode.DecodeSlow
import Derived.Shelf.Unicode.DecodeAny
import Derived.Shelf.Slices.Turned
import Derived.Shelf.Slices.Reverse
import Derived.Ground.Names2Prog
import Derived.Shelf.Slices.Clone
import Derived.Shelf.Slices.CompactI
import Derived.Shelf.Slices.SearchI
import Derived.Shelf.Slices.Cells
import Derived.Shelf.Slices.In.SortNone
import Derived.Ground.SlgnProg
import Derived.Shelf.SlicesE.Clone
import Derived.Test.YtbldpojkpmafpaaGreatDoorProg
import Derived.Test.YtbldpojkpmafpaaGreatDoorZdBusTab
import Derived.Lib.RowBridge
import Derived.StillTail
import Derived.RangeFuncFrom
namespace Go.Proofs
open Go.Shelf
def Tryz.lays189_ren : Go.Shelf.Ren := ⟨fun | 189 => 66 | 125 => 116 | 257 => 115 | 128 => 159 | 129 => 160 | 294 => 150 | 295 => 151 | 296 => 152 | 297 => 153 | 298 => 154 | 299 => 155 | 216 => 156 | 300 => 157 | 301 => 158 | 328 => 199 | 329 => 200 | 330 => 201 | 331 => 202 | 332 => 203 | 215 => 132 | 343 => 242 | n => n, fun | 28 => 24 | 3 => 3 | 46 => 173 | 0 => 0 | 51 => 223 | 53 => 225 | 4 => 4 | 183 => 216 | 182 => 215 | 131 => 220 | 5 => 5 | 9 => 9 | 218 => 253 | 222 => 257 | 228 => 292 | 229 => 147 | n => n, fun | n => n⟩
theorem Tryz.lays189 : Go.Proofs.Lays.n189 Tryz.prog Tryz.lays189_ren := {
  mixed := by kernel_rfl
  f125 := Tryz.func116.trans (congrArg some (by kernel_rfl))
  f128 := Tryz.func159.trans (congrArg some (by kernel_rfl))
  f129 := Tryz.func160.trans (congrArg some (by kernel_rfl))
  f189 := Tryz.func66.trans (congrArg some (by kernel_rfl))
  f215 := Tryz.func132.trans (congrArg some (by kernel_rfl))
  f216 := Tryz.func156.trans (congrArg some (by kernel_rfl))
  f257 := Tryz.func115.trans (congrArg some (by kernel_rfl))
  f294 := Tryz.func150.trans (congrArg some (by kernel_rfl))
  f295 := Tryz.func151.trans (congrArg some (by kernel_rfl))
  f296 := Tryz.func152.trans (congrArg some (by kernel_rfl))
  f297 := Tryz.func153.trans (congrArg some (by kernel_rfl))
  f298 := Tryz.func154.trans (congrArg some (by kernel_rfl))
  f299 := Tryz.func155.trans (congrArg some (by kernel_rfl))
  f300 := Tryz.func157.trans (congrArg some (by kernel_rfl))
  f301 := Tryz.func158.trans (congrArg some (by kernel_rfl))
  f328 := Tryz.func199.trans (congrArg some (by kernel_rfl))
  f329 := Tryz.func200.trans (congrArg some (by kernel_rfl))
  f330 := Tryz.func201.trans (congrArg some (by kernel_rfl))
  f331 := Tryz.func202.trans (congrArg some (by kernel_rfl))
  f332 := Tryz.func203.trans (congrArg some (by kernel_rfl))
  f343 := Tryz.func242.trans (congrArg some (by kernel_rfl))
  t0 := Tryz.underlying0
  a0 := Tryz.isAgg0
  z0 := Tryz.sizeOf0
  v0 := Tryz.zeroValue0
  t3 := Tryz.underlying3
  a3 := Tryz.isAgg3
  z3 := Tryz.sizeOf3
  v3 := Tryz.zeroValue3
  t4 := Tryz.underlying4
  a4 := Tryz.isAgg4
  z4 := Tryz.sizeOf4
  v4 := Tryz.zeroValue4
  t5 := Tryz.underlying5
  a5 := Tryz.isAgg5
  z5 := Tryz.sizeOf5
  v5 := Tryz.zeroValue5
  t9 := Tryz.underlying9
  a9 := Tryz.isAgg9
  z9 := Tryz.sizeOf9
  v9 := Tryz.zeroValue9
  t28 := Tryz.underlying24
  a28 := Tryz.isAgg24
  z28 := Tryz.sizeOf24
  v28 := Tryz.zeroValue24
  t46 := Tryz.underlying173
  a46 := Tryz.isAgg173
  z46 := Tryz.sizeOf173
  v46 := Tryz.zeroValue173
  t51 := Tryz.underlying223
  a51 := Tryz.isAgg223
  z51 := Tryz.sizeOf223
  v51 := Tryz.zeroValue223
  t53 := Tryz.underlying225
  a53 := Tryz.isAgg225
  z53 := Tryz.sizeOf225
  v53 := Tryz.zeroValue225
  t131 := Tryz.underlying220
  a131 := Tryz.isAgg220
  z131 := Tryz.sizeOf220
  v131 := Tryz.zeroValue220
  t182 := Tryz.underlying215
  a182 := Tryz.isAgg215
  z182 := Tryz.sizeOf215
  v182 := Tryz.zeroValue215
  t183 := Tryz.underlying216
  a183 := Tryz.isAgg216
  z183 := Tryz.sizeOf216
  v183 := Tryz.zeroValue216
  t218 := Tryz.underlying253
  a218 := Tryz.isAgg253
  z218 := Tryz.sizeOf253
  v218 := Tryz.zeroValue253
  t222 := Tryz.underlying257
  a222 := Tryz.isAgg257
  z222 := Tryz.sizeOf257
  v222 := Tryz.zeroValue257
  t228 := Tryz.underlying292
  a228 := Tryz.isAgg292
  z228 := Tryz.sizeOf292
  v228 := Tryz.zeroValue292
  t229 := Tryz.underlying147
  a229 := Tryz.isAgg147
  z229 := Tryz.sizeOf147
  v229 := Tryz.zeroValue147 }
open Go.Sort Go.RowKit in
theorem Tryz.slices_Sort_int (blk off cap : Nat) (zs : List Int) (w : World) (hH : Holds (Value.int .i64) w blk off zs.toArray) (hblk : blk < w.heap.size) (hsz : zs.length < 4611686018427387904) :
    Calls Tryz.prog 66 #[.slice (some ⟨blk, off, none⟩) zs.length cap] w fun e w' =>
      e = .returned (.tuple #[]) ∧ ∃ n os, w' = grow (putRow (Value.int .i64) (Sort.ahead w n) blk off (zs.mergeSort fun x y => decide (x ≤ y)).toArray) os := Any.slices_Sort_int Tryz.lays189 blk off cap zs w hH hblk hsz
def Tryz.lays108_ren : Go.Shelf.Ren := ⟨fun | 108 => 61 | n => n, fun | 28 => 24 | 3 => 3 | 0 => 0 | 4 => 4 | n => n, fun | n => n⟩
theorem Tryz.lays108 : Go.Proofs.Lays.n108 Tryz.prog Tryz.lays108_ren := {
  mixed := by kernel_rfl
  f108 := Tryz.func61.trans (congrArg some (by kernel_rfl))
  t0 := Tryz.underlying0
  a0 := Tryz.isAgg0
  z0 := Tryz.sizeOf0
  v0 := Tryz.zeroValue0
  t3 := Tryz.underlying3
  a3 := Tryz.isAgg3
  z3 := Tryz.sizeOf3
  v3 := Tryz.zeroValue3
  t4 := Tryz.underlying4
  a4 := Tryz.isAgg4
  z4 := Tryz.sizeOf4
  v4 := Tryz.zeroValue4
  t28 := Tryz.underlying24
  a28 := Tryz.isAgg24
  z28 := Tryz.sizeOf24
  v28 := Tryz.zeroValue24 }
open Go.Lib in
theorem Tryz.slices_Index_int (b off n c : Nat) (zs : List Int) (x : Int) (w : World) (hz : n ≤ zs.length) (hbig : n ≤ 9223372036854775807) (hc : ∀ j, j < zs.length → w.cell? ⟨b, off + j, none⟩ = some (.int .i64 (zs.getD j 0))) :
    Calls Tryz.prog 61 #[.slice (some ⟨b, off, none⟩) n c, .int .i64 x] w fun e w' => e = .returned (.int .i64 (Lib.idxOf (zs.take n) x)) ∧ w' = w := Any.slices_Index_int Tryz.lays108 b off n c zs x w hz hbig hc
open Go.Lib in
theorem Tryz.slices_Index_int_empty (a : Option Addr) (c : Nat) (x : Int) (w : World) :
    Calls Tryz.prog 61 #[.slice a 0 c, .int .i64 x] w fun e w' => e = .returned (.int .i64 (Lib.idxOf [] x)) ∧ w' = w := Any.slices_Index_int_empty Tryz.lays108 a c x w
def Tryz.laysNm215_ren : Go.Shelf.Ren := ⟨fun | 15 => 53 | n => n, fun | 22 => 24 | 3 => 3 | 4 => 4 | n => n, fun | n => n⟩
theorem Tryz.laysNm215 : Go.Proofs.Lays2.n15 Tryz.prog Tryz.laysNm215_ren := {
  mixed := by kernel_rfl
  f15 := Tryz.func53.trans (congrArg some (by kernel_rfl))
  t3 := Tryz.underlying3
  a3 := Tryz.isAgg3
  z3 := Tryz.sizeOf3
  v3 := Tryz.zeroValue3
  t4 := Tryz.underlying4
  a4 := Tryz.isAgg4
  z4 := Tryz.sizeOf4
  v4 := Tryz.zeroValue4
  t22 := Tryz.underlying24
  a22 := Tryz.isAgg24
  z22 := Tryz.sizeOf24
  v22 := Tryz.zeroValue24
  i3 := by kernel_rfl }
open Go.RowKit Go.Lib in
theorem Tryz.slices_Clone_int (b off n c : Nat) (zs : List Int) (w : World) (hz : n ≤ zs.length) (hbig : n * 8 ≤ 140737488355328) (hc : ∀ j, j < zs.length → w.cell? ⟨b, off + j, none⟩ = some (.int .i64 (zs.getD j 0))) :
    Calls Tryz.prog 53 #[.slice (some ⟨b, off, none⟩) n c] w fun e w' => ∃ v', e = .returned v' ∧ w'.ownsRow w.heap.size 3 1 v' n ((zs.take n).map (Value.int .i64)) ∧ v' ≠ .slice none 0 0 ∧ Below w.heap.size w w' := Any.slices_Clone_int Tryz.laysNm215 b off n c zs w hz hbig hc
open Go.RowKit Go.Lib in
theorem Tryz.slices_Clone_int_nil (n c : Nat) (w : World) :
    Calls Tryz.prog 53 #[.slice none n c] w fun e w' => e = .returned (.slice none 0 0) ∧ w' = w := Any.slices_Clone_int_nil Tryz.laysNm215 n c w
open Go.RowKit Go.Lib in
theorem Tryz.slices_Clone_int_zero (a : Addr) (c : Nat) (w : World) :
    Calls Tryz.prog 53 #[.slice (some a) 0 c] w fun e w' => ∃ v', e = .returned v' ∧ w'.ownsRow w.heap.size 3 1 v' 0 [] ∧ v' ≠ .slice none 0 0 ∧ Below w.heap.size w w' := Any.slices_Clone_int_zero Tryz.laysNm215 a c w
def Tryz.laysNm220_ren : Go.Shelf.Ren := ⟨fun | 20 => 67 | n => n, fun | 22 => 24 | 3 => 3 | 4 => 4 | 0 => 0 | n => n, fun | n => n⟩
theorem Tryz.laysNm220 : Go.Proofs.Lays2.n20 Tryz.prog Tryz.laysNm220_ren := {
  mixed := by kernel_rfl
  f20 := Tryz.func67.trans (congrArg some (by kernel_rfl))
  t0 := Tryz.underlying0
  a0 := Tryz.isAgg0
  z0 := Tryz.sizeOf0
  v0 := Tryz.zeroValue0
  t3 := Tryz.underlying3
  a3 := Tryz.isAgg3
  z3 := Tryz.sizeOf3
  v3 := Tryz.zeroValue3
  t4 := Tryz.underlying4
  a4 := Tryz.isAgg4
  z4 := Tryz.sizeOf4
  v4 := Tryz.zeroValue4
  t22 := Tryz.underlying24
  a22 := Tryz.isAgg24
  z22 := Tryz.sizeOf24
  v22 := Tryz.zeroValue24
  i3 := by kernel_rfl }
open Go.RowKit Go.Lib Go.Sort in
theorem Tryz.slices_Compact_int (blk off cap : Nat) (zs : List Int) (w : World) (hH : Holds (Value.int .i64) w blk off zs.toArray) (hsz : zs.length ≤ 9223372036854775807) (hcap : zs.length ≤ cap) :
    Calls Tryz.prog 67 #[.slice (some ⟨blk, off, none⟩) zs.length cap] w fun e w' => e = .returned (.slice (some ⟨blk, off, none⟩) (Lib.compact zs).length cap) ∧ ∃ q, w' = putRow (Value.int .i64) (Sort.ahead w q) blk off (Lib.compact zs ++ List.replicate (zs.length - (Lib.compact zs).length) 0).toArray := Any.slices_Compact_int Tryz.laysNm220 blk off cap zs w hH hsz hcap
open Go.RowKit Go.Lib Go.Sort in
theorem Tryz.slices_Compact_int_empty (a : Option Addr) (cap : Nat) (w : World) :
    Calls Tryz.prog 67 #[.slice a 0 cap] w fun e w' => e = .returned (.slice a 0 cap) ∧ w' = w := Any.slices_Compact_int_empty Tryz.laysNm220 a cap w
open Go.RowKit Go.Sort in
theorem Tryz.slices_Sort_int_none (p : Option Addr) (cap : Nat) (w : World) :
    Calls Tryz.prog 66 #[.slice p 0 cap] w fun e w' => e = .returned (.tuple #[]) ∧ w' = w := Any.slices_Sort_int_none Tryz.lays189 p cap w
end Go.Proofs

/- Go's library on rows of integers, at nil too: Clone, Sort, Compact, Index, Reverse. -/
namespace Go.Proofs.YtbldpojkpmafpaaGreatDoor
open Go.RowKit

abbrev ic (l : List Int) : List Value := l.map (Value.int .i64)
theorem ownI_some {w : World} {base n : Nat} {v : Value} {xs : List Int} (h : w.ownsRow base 3 1 v n (ic xs)) : xs.length = n ∧ ((v = .slice none 0 0 ∧ n = 0) ∨ ∃ g cap cur, v = .slice (some ⟨g, 0, none⟩) n cap ∧ base ≤ g ∧ w.heap[g]? = some (.cells cur 3 (0, 0)) ∧ n ≤ cap ∧ cap ≤ maxLen ∧ cur.size = cap ∧ cur.toList.take n = ic xs) := by
  obtain ⟨h1, h2⟩ := h
  simp only [Nat.mul_one, List.length_map] at h1 h2
  exact ⟨h1, h2⟩
theorem own_holds {w : World} {g n : Nat} {cur : Array Value} {xs : List Int} (hg : w.heap[g]? = some (.cells cur 3 (0, 0))) (ht : cur.toList.take n = ic xs) : Sort.Holds (Value.int .i64) w g 0 xs.toArray := fun j hj => by
  have hj : j < xs.length := by simpa using hj
  refine ⟨?_, ?_⟩
  · rw [Nat.zero_add, cell_of_row w g j cur _ _ hg]
    have h1 : (cur.toList.take n)[j]? = some (Value.int .i64 xs[j]) := by rw [ht]; simp [hj]
    rw [List.getElem?_take] at h1
    split at h1
    · simpa [hj] using h1
    · cases h1
  · simp [World.frozen?, hg]
theorem putRow_at {w : World} {g n : Nat} {cur : Array Value} {xs ys : List Int} (hg : w.heap[g]? = some (.cells cur 3 (0, 0))) (ht : cur.toList.take n = ic xs) (hl : ys.length = xs.length) (q : Nat) :
    (Sort.putRow (Value.int .i64) (Sort.ahead w q) g 0 ys.toArray).heap[g]? = some (.cells (Sort.putCells (Value.int .i64) 0 ys.toArray cur) 3 (0, 0)) ∧ (Sort.putCells (Value.int .i64) 0 ys.toArray cur).size = cur.size ∧ (Sort.putCells (Value.int .i64) 0 ys.toArray cur).toList.take ys.length = ic ys := by
  refine ⟨?_, by simp [Sort.putCells], ?_⟩
  · show (w.heap.modify g (Sort.onCells _))[g]? = _
    rw [Array.getElem?_modify, if_pos rfl, hg]; rfl
  · have hlen : ys.length ≤ cur.size := by
      have h1 := congrArg List.length ht
      simp at h1; omega
    apply List.ext_getElem?
    intro j
    rw [List.getElem?_take]
    by_cases hj : j < ys.length
    · rw [if_pos hj, Array.getElem?_toList]
      have hc : j < cur.size := by omega
      simp [Sort.putCells, hj, hc]
    · rw [if_neg hj, List.getElem?_eq_none (by simpa using hj)]
theorem putRow_grown {w : World} {g q : Nat} {d : Array Int} : w.grownBy (Sort.putRow (Value.int .i64) (Sort.ahead w q) g 0 d) (some g) :=
  ⟨rfl, rfl, rfl, Nat.le_of_eq (by simp), fun k _ hk => by
    show (w.heap.modify g (Sort.onCells _))[k]? = _
    rw [Array.getElem?_modify, if_neg (fun e => hk (by rw [e]))]⟩
theorem grown_refl (w : World) (r : Option Nat) : w.grownBy w r := ⟨rfl, rfl, rfl, Nat.le_refl _, fun _ _ _ => rfl⟩
theorem grown_grow {w w' : World} {r : Option Nat} (h : w.grownBy w' r) (os : Array Obj) : w.grownBy (Sort.grow w' os) r :=
  ⟨h.os, h.tape, h.output, Nat.le_trans h.size (by simp), fun k hk hn => (Sort.heap_grow_old w' os (Nat.lt_of_lt_of_le hk h.size)).trans (h.block k hk hn)⟩
theorem clone_any (A : Option Addr) (c B : Nat) (xs : List Int) (w : World) (h : Row w B A (ic xs)) (hl : xs.length ≤ 1000000) :
    Calls Tryz.prog 53 #[.slice A xs.length c] w fun e w' => ∃ v, e = .returned v ∧ w'.ownsRow w.heap.size 3 1 v xs.length (ic xs) ∧ Below w.heap.size w w' := by
  rcases h with h | ⟨b, off, rfl, _, hc⟩
  · obtain rfl : xs = [] := List.map_eq_nil_iff.1 h
    cases A with
    | none => exact (Tryz.slices_Clone_int_nil 0 c w).mono fun e w' ⟨h1, h2⟩ => by subst h2; exact ⟨_, h1, ⟨rfl, .inl ⟨rfl, rfl⟩⟩, Below.refl _ _⟩
    | some a => exact (Tryz.slices_Clone_int_zero a c w).mono fun e w' ⟨v, h1, h2, _, h3⟩ => ⟨v, h1, h2, h3⟩
  · refine (Tryz.slices_Clone_int b off xs.length c xs w (Nat.le_refl _) (by omega) fun j hj => ?_).mono fun e w' ⟨v, h1, h2, _, h3⟩ => ⟨v, h1, ?_, h3⟩
    · rw [hc j (by simpa using hj)]
      simp [List.getD_eq_getElem?_getD, hj]
    · rw [List.take_length] at h2; exact h2
theorem sort_any (base n : Nat) (v : Value) (xs : List Int) (w : World) (h : w.ownsRow base 3 1 v n (ic xs)) (hl : xs.length ≤ 1000000) :
    Calls Tryz.prog 66 #[v] w fun e w' => e = .returned (.tuple #[]) ∧ w'.ownsRow base 3 1 v n (ic (xs.mergeSort fun x y => decide (x ≤ y))) ∧ w.grownBy w' v.ownBlock := by
  obtain ⟨h0, h1⟩ := ownI_some h
  rcases h1 with ⟨rfl, rfl⟩ | ⟨g, cap, cur, rfl, hbg, hg, hn, hcap, hcs, ht⟩
  · obtain rfl : xs = [] := List.length_eq_zero_iff.1 h0
    exact (Tryz.slices_Sort_int_none none 0 w).mono fun e w' ⟨h1, h2⟩ => by subst h2; exact ⟨h1, by simpa using h, grown_refl _ _⟩
  · subst h0
    have hgl : g < w.heap.size := (Array.getElem?_eq_some_iff.1 hg).1
    refine (Tryz.slices_Sort_int g 0 cap xs w (own_holds hg ht) hgl (by omega)).mono fun e w' ⟨h1, q, os, h2⟩ => ?_
    subst h2
    have hl2 : (xs.mergeSort fun x y => decide (x ≤ y)).length = xs.length := List.length_mergeSort _
    obtain ⟨p1, p2, p3⟩ := putRow_at hg ht hl2 q
    refine ⟨h1, ⟨by simp [hl2], .inr ⟨g, cap, _, rfl, hbg, (Sort.heap_grow_old _ os (by simpa using hgl)).trans p1, hn, hcap, by rw [p2, hcs, Nat.mul_one], ?_⟩⟩, grown_grow putRow_grown os⟩
    rw [Nat.mul_one, ← hl2]; exact p3
theorem compact_any (base n : Nat) (v : Value) (xs : List Int) (w : World) (h : w.ownsRow base 3 1 v n (ic xs)) (hl : xs.length ≤ 1000000) :
    Calls Tryz.prog 67 #[v] w fun e w' => ∃ v', e = .returned v' ∧ w'.ownsRow base 3 1 v' (Lib.compact xs).length (ic (Lib.compact xs)) ∧ w.grownBy w' v.ownBlock := by
  obtain ⟨h0, h1⟩ := ownI_some h
  rcases h1 with ⟨rfl, rfl⟩ | ⟨g, cap, cur, rfl, hbg, hg, hn, hcap, hcs, ht⟩
  · obtain rfl : xs = [] := List.length_eq_zero_iff.1 h0
    exact (Tryz.slices_Compact_int_empty none 0 w).mono fun e w' ⟨h1, h2⟩ => by subst h2; exact ⟨_, h1, ⟨rfl, .inl ⟨rfl, rfl⟩⟩, grown_refl _ _⟩
  · subst h0
    have hcl : (Lib.compact xs).length ≤ xs.length := Lib.compact_length_le xs
    refine (Tryz.slices_Compact_int g 0 cap xs w (own_holds hg ht) (by omega) hn).mono fun e w' ⟨h1, q, h2⟩ => ?_
    subst h2
    obtain ⟨p1, p2, p3⟩ := putRow_at (ys := Lib.compact xs ++ List.replicate (xs.length - (Lib.compact xs).length) 0) hg ht (by simp; omega) q
    refine ⟨_, h1, ⟨by simp, .inr ⟨g, cap, _, rfl, hbg, p1, by omega, hcap, by rw [p2, hcs, Nat.mul_one], ?_⟩⟩, putRow_grown⟩
    have h3 := congrArg (List.take (Lib.compact xs).length) p3
    rw [List.take_take, Nat.min_eq_left (by simp)] at h3
    rw [Nat.mul_one, h3]
    simp [ic]
theorem index_any (A : Option Addr) (c B : Nat) (xs : List Int) (x : Int) (w : World) (h : Row w B A (ic xs)) (hl : xs.length ≤ 1000000) :
    Calls Tryz.prog 61 #[.slice A xs.length c, .int .i64 x] w fun e w' => e = .returned (.int .i64 (Lib.idxOf xs x)) ∧ w' = w := by
  rcases h with h | ⟨b, off, rfl, _, hc⟩
  · obtain rfl : xs = [] := List.map_eq_nil_iff.1 h
    exact Tryz.slices_Index_int_empty A c x w
  · have := Tryz.slices_Index_int b off xs.length c xs x w (Nat.le_refl _) (by omega) fun j hj => by
      rw [hc j (by simpa using hj)]
      simp [List.getD_eq_getElem?_getD, hj]
    rw [List.take_length] at this
    exact this
end Go.Proofs.YtbldpojkpmafpaaGreatDoor

/- A region that draws its order in a round, whose last operation writes: once, in the order of the text. -/
namespace Go.Proofs.YtbldpojkpmafpaaGreatDoor
open Go.RowKit Go.Shelf

def backB (md : Region.Mode) (ops : Array Oper) : Bool := (List.range ops.size).all fun j => match ops[j]? with | some o => o.after.all fun e => !Region.binds md e || decide (e.on < j) | none => true
section
variable {F : Fence} {n lp : Nat} {P : Program} {ops ops' : Array Oper} {C : World → Prop} {md : Region.Mode} {m : Nat} {o o' : Oper}
structure LastOf (md : Region.Mode) (ops ops' : Array Oper) (m : Nat) (o o' : Oper) : Prop where
  sz : ops.size = m + 1
  sz' : ops'.size = m + 1
  eq : ∀ i, i < m → ops'[i]? = ops[i]?
  at' : ops[m]? = some o
  at2 : ops'[m]? = some o'
  after : o'.after = o.after
  dst : o.dst = none
  dst' : o'.dst = none
  guard : o.guard = none
  sink : Region.sinkB md ops m = true
  chain : Region.chainB md ops m = true
  back : backB md ops = true
theorem LastOf.ready (h : LastOf md ops ops' m o o') (listed : Array Bool) : Region.ready md ops' listed = Region.ready md ops listed := by
  unfold Region.ready
  rw [h.sz, h.sz']
  refine List.filter_congr fun i hi => ?_
  have hi := List.mem_range.1 hi
  by_cases e : i = m
  · subst e
    rw [h.at', h.at2]
    simp only [Option.map_some, h.after]
  · rw [h.eq i (by omega)]
theorem LastOf.yields (h : LastOf md ops ops' m o o') (tmps : Array Value) : yielded ops' tmps = yielded ops tmps := by
  funext j
  unfold yielded
  rcases Nat.lt_trichotomy j m with g | g | g
  · rw [h.eq j g]
  · subst g
    rw [h.at', h.at2]
    simp only [Option.bind_some, h.dst, h.dst']
  · rw [Array.getElem?_eq_none (by rw [h.sz']; omega), Array.getElem?_eq_none (by rw [h.sz]; omega)]
theorem LastOf.goes (h : LastOf md ops ops' m o o') {listed : Array Bool} (inv : HeadInv md ops m listed) : Region.ready md ops listed ≠ [] := by
  have hex : ∃ j, j ≤ m ∧ listed.getD j true = false := ⟨m, Nat.le_refl _, inv.tail m (Nat.le_refl _) (by rw [h.sz]; omega)⟩
  have key : ∀ d j, j = d → j ≤ m → listed.getD j true = false → ∃ k, k ∈ Region.ready md ops listed := by
    intro d
    induction d using Nat.strongRecOn with
    | _ d ih =>
      rintro j rfl hj hun
      by_cases hall : ∀ i, i < j → listed.getD i true = true
      · have hjs : j < ops.size := by rw [h.sz]; omega
        refine ⟨j, mem_ready.2 ⟨hun, ops[j], Array.getElem?_eq_getElem hjs, fun e he hb => ?_⟩⟩
        have h1 := List.all_eq_true.1 h.back j (List.mem_range.2 hjs)
        rw [Array.getElem?_eq_getElem hjs] at h1
        have h2 := Array.all_eq_true_iff_forall_mem.1 h1 e he
        rw [hb] at h2
        have h3 : e.on < j := by simpa using h2
        have h4 := hall e.on h3
        have h5 : e.on < listed.size := by rw [inv.size]; omega
        simp [h5] at h4 ⊢; exact h4
      · obtain ⟨i, hi⟩ := Classical.not_forall.1 hall
        obtain ⟨hij, hi⟩ := Classical.not_imp.1 hi
        exact ih i hij i rfl (by omega) (by simpa using hi)
  obtain ⟨j, hj, hun⟩ := hex
  obtain ⟨k, hk⟩ := key j j rfl hj hun
  exact List.ne_nil_of_mem hk
theorem LastOf.done (h : LastOf md ops ops' m o o') {listed : Array Bool} (inv : HeadInv md ops m listed) (hm : m ∈ Region.ready md ops listed) : Region.ready md ops (listed.setIfInBounds m true) = [] := by
  refine List.eq_nil_iff_forall_not_mem.2 fun k hk => ?_
  obtain ⟨h1, ok, hok, _⟩ := mem_ready.1 hk
  have hkm : k < m + 1 := by have := (Array.getElem?_eq_some_iff.1 hok).1; rw [h.sz] at this; exact this
  by_cases e : k = m
  · subst e
    have hs : k < listed.size := by rw [inv.size, h.sz]; omega
    simp [hs] at h1
  · rw [getD_set_ne true (fun g => e g.symm)] at h1
    exact tail_waits h.sink h.chain (by rw [h.sz]; omega) inv (m - k) k rfl (by omega) h1 m (Nat.le_refl _) hm
theorem any_done {Q' : Exit → Act → World → Prop} {listed : Array Bool} (hr : Region.ready md ops listed = []) {a : Act} {w : World} (h : Q' .normal a w) : ∀ fuel, wpAnyIn F n P md ops Q' fuel listed a w
  | 0 => ⟨hr, h⟩
  | fuel + 1 => ⟨fun _ => h, fun i hi => by rw [hr] at hi; cases hi⟩
theorem quietT_any {Q : Act → Prop} {Q' : Exit → Act → World → Prop} (hro : F.round = some lp) (hnd : noDefer ops.toList = true) (h : LastOf md ops ops' m o o') (hQ : ∀ a w, C w → Q a → o.wpIn F n P a w (fun a' w' => Q' .normal a' w') Q') :
    ∀ (fuel : Nat) (listed : Array Bool) (a : Act) (w : World), HeadInv md ops m listed → C w → wpAnyQIn F n P md ops' C Q fuel listed a → wpAnyIn F n P md ops Q' fuel listed a w
  | 0, listed, a, w, inv, hw, hh => by
    have h1 := hh.1
    rw [h.ready] at h1
    exact absurd h1 (h.goes inv)
  | fuel + 1, listed, a, w, inv, hw, hh => by
    refine ⟨fun h0 => absurd h0 (h.goes inv), fun i hi => ?_⟩
    have h2 := hh.2 i (by rw [h.ready]; exact hi)
    have him : i < m + 1 := by
      obtain ⟨_, oi, hoi, _⟩ := mem_ready.1 hi
      have := (Array.getElem?_eq_some_iff.1 hoi).1; rw [h.sz] at this; exact this
    by_cases e : i = m
    · subst e
      have hQa : Q a := by
        unfold qOpIn at h2
        simp only [h.at2] at h2
        obtain ⟨_, h2⟩ := h2
        have fin : ∀ a' : Act, a' = a → wpAnyQIn F n P md ops' C Q fuel (listed.setIfInBounds i true) a' → Q a := fun a' ea hf => by
          subst ea
          cases fuel with
          | zero => exact hf.2
          | succ f => exact hf.1 (by rw [h.ready]; exact h.done inv hi)
        split at h2
        · obtain ⟨v, _, h3⟩ := h2
          exact fin _ (by rw [h.dst']; rfl) h3
        · exact fin _ (by rw [h.dst']; rfl) h2
      unfold wpOpIn
      simp only [h.at']
      have hwant : Region.wanted o (yielded ops a.tmps) = true := by unfold Region.wanted; rw [h.guard]
      rw [hwant]
      exact Oper.wpIn_mono (fun a' w' g => any_done (h.done inv hi) g fuel) (hQ a w hw hQa)
    · have h3 : qOpIn F n P ops C i (wpAnyQIn F n P md ops' C Q fuel (listed.setIfInBounds i true)) a := by
        unfold qOpIn at h2 ⊢
        rw [h.eq i (by omega), h.yields] at h2
        exact h2
      exact quietR_at hro hnd hw (fun a' w' hw' hk => quietT_any hro hnd h hQ fuel _ a' w' (inv.set hi (by omega)) hw' hk) h3
theorem head_start (md : Region.Mode) (ops : Array Oper) (m : Nat) : HeadInv md ops m (Array.replicate ops.size false) :=
  ⟨by simp, fun j oj _ hl => (by rw [getD_replicate_false] at hl; cases hl), fun t _ ht => (by simp [ht])⟩
theorem quietT_region {id : Nat} {Q : Exit → Act → World → Prop} {a : Act} {w : World} {l l' : List Oper} (hro : F.round = some lp) (hnd : noDefer l = true) (hm : P.follows .mixedOrders = true) (hB : Region.lexB .any l'.toArray = true) (hl : LastOf .any l.toArray l'.toArray m o o')
    (h : wpQuietIn F n P l'.toArray (fun w' => ∃ n, w' = w.drewN n) (fun a' => ∀ w', (∃ n, w' = w.drewN n) → o.wpIn F n P a' w' (fun a'' w'' => Q .normal a'' w'') Q) l' a) : (Code.region id l.toArray true).wpIn F n P Q a w := by
  simp only [Region.lexB, Bool.and_eq_true] at hB
  refine wpIn_region_any hm (quietT_any (C := fun w' => ∃ n, w' = w.drewN n) (Q := fun a' => ∀ w', (∃ n, w' = w.drewN n) → o.wpIn F n P a' w' (fun a'' w'' => Q .normal a'' w'') Q) hro hnd hl (fun _ w' hw' h => h w' hw') _ _ _ _ (head_start _ _ _) ⟨1, rfl⟩ ?_)
  have := wpAnyQIn_lex (F := F) (n := n) (C := fun w' => ∃ n, w' = w.drewN n) (md := .any) hB.1 l' 0 (Array.replicate l'.toArray.size false) a (by simp) (by simpa using hB.2) h
  have hs : l.toArray.size = l'.length := by have := hl.sz; have h2 := hl.sz'; simp at this h2 ⊢; omega
  rw [hs]
  simpa using this
def noop (o : Oper) : Oper := { o with op := .move (.const undef) }
theorem quietT_lit {id : Nat} {Q : Exit → Act → World → Prop} {a : Act} {w : World} {l : List Oper} (ho : l[m]? = some o) (hsz : l.length = m + 1) (hd : o.dst = none) (hg : o.guard = none) (hro : F.round = some lp) (hnd : noDefer l = true) (hm : P.follows .mixedOrders = true)
    (hB : Region.lexB .any (l.take m ++ [noop o]).toArray = true) (hs : Region.sinkB .any l.toArray m = true) (hc : Region.chainB .any l.toArray m = true) (hb : backB .any l.toArray = true)
    (h : wpQuietIn F n P (l.take m ++ [noop o]).toArray (fun w' => ∃ n, w' = w.drewN n) (fun a' => ∀ w', (∃ n, w' = w.drewN n) → o.wpIn F n P a' w' (fun a'' w'' => Q .normal a'' w'') Q) (l.take m ++ [noop o]) a) : (Code.region id l.toArray true).wpIn F n P Q a w := by
  have hlt : (l.take m).length = m := by rw [List.length_take, hsz]; omega
  refine quietT_region (m := m) (o := o) (o' := noop o) hro hnd hm hB ⟨by simp [hsz], by simp [hlt], fun i hi => ?_, by simpa using ho, ?_, rfl, hd, hd, hg, hs, hc, hb⟩ h
  · rw [List.getElem?_toArray, List.getElem?_toArray, List.getElem?_append_left (by rw [hlt]; exact hi), List.getElem?_take, if_pos hi]
  · rw [List.getElem?_toArray, List.getElem?_append_right (by rw [hlt]; exact Nat.le_refl _), hlt, Nat.sub_self]; rfl
end
end Go.Proofs.YtbldpojkpmafpaaGreatDoor

/- Rows of the walk's own: facts. -/
namespace Go.Proofs.YtbldpojkpmafpaaGreatDoor
open Go.RowKit
theorem own_apart {w : World} {base size n c : Nat} {e : TypeId} {U : Option Addr} {vs : List Value} (h : w.ownsRow base e size (.slice U n c) n vs) {b : Nat} (hb : b < base ∨ w.heap.size ≤ b) : some b ≠ (Value.slice U n c).ownBlock := by
  rcases h.2 with ⟨hv, _⟩ | ⟨g, cap, cur, hv, hbg, hg, _⟩
  · cases hv; intro h; cases h
  · cases hv
    have hgl : g < w.heap.size := (Array.getElem?_eq_some_iff.1 hg).1
    intro h
    have h : some b = some g := h
    injection h with h
    omega
theorem own_keep {w w' : World} {base size n : Nat} {e : TypeId} {v : Value} {vs : List Value} (h : w.ownsRow base e size v n vs) (hk : ∀ b, some b = v.ownBlock → w'.heap[b]? = w.heap[b]?) : w'.ownsRow base e size v n vs := by
  refine ⟨h.1, ?_⟩
  rcases h.2 with hn | ⟨g, cap, cur, rfl, hbg, hg, rest⟩
  · exact .inl hn
  · exact .inr ⟨g, cap, cur, rfl, hbg, (hk g rfl).trans hg, rest⟩
theorem own_base {w : World} {base base' size n : Nat} {e : TypeId} {v : Value} {vs : List Value} (h : w.ownsRow base e size v n vs) (hb : base' ≤ base) : w.ownsRow base' e size v n vs := by
  refine ⟨h.1, ?_⟩
  rcases h.2 with hn | ⟨g, cap, cur, rfl, hbg, hg, rest⟩
  · exact .inl hn
  · exact .inr ⟨g, cap, cur, rfl, by omega, hg, rest⟩
theorem own_alloc {w : World} {base size n : Nat} {e : TypeId} {v : Value} {vs : List Value} (h : w.ownsRow base e size v n vs) (o : Obj) : (w.alloc o).ownsRow base e size v n vs := by
  refine ⟨h.1, ?_⟩
  rcases h.2 with hn | ⟨g, cap, cur, rfl, hbg, hg, rest⟩
  · exact .inl hn
  · exact .inr ⟨g, cap, cur, rfl, hbg, (Below.heap_alloc w o g (Array.getElem?_eq_some_iff.1 hg).1).trans hg, rest⟩
theorem own_low {W : World} {base size n c : Nat} {e : TypeId} {A : Option Addr} {vs : List Value} (h : W.ownsRow base e size (.slice A n c) n vs) {b : Nat} (hb : some b = (Value.slice A n c).ownBlock) : base ≤ b ∧ b < W.heap.size := by
  constructor
  · rcases Nat.lt_or_ge b base with g | g
    · exact absurd hb (own_apart h (.inl g))
    · exact g
  · rcases Nat.lt_or_ge b W.heap.size with g | g
    · exact g
    · exact absurd hb (own_apart h (.inr g))
end Go.Proofs.YtbldpojkpmafpaaGreatDoor

/- A loop over an iterator that writes blocks of its own between two rounds, and that hands each round a new row. -/
namespace Go.Proofs.YtbldpojkpmafpaaGreatDoor
open Go.RowKit

structure Turns (O : Nat → Prop) (W W' : World) : Prop where
  os : W'.os = W.os
  tape : W'.tape = W.tape
  output : W'.output = W.output
  size : W.heap.size ≤ W'.heap.size
  block : ∀ k, k < W.heap.size → ¬ O k → W'.heap[k]? = W.heap[k]?
theorem Turns.refl (O : Nat → Prop) (W : World) : Turns O W W := ⟨rfl, rfl, rfl, Nat.le_refl _, fun _ _ _ => rfl⟩
theorem Turns.trans {O O' : Nat → Prop} {A B C : World} (h : Turns O A B) (k : Turns O' B C) (hO : ∀ b, b < A.heap.size → O' b → O b) : Turns O A C :=
  ⟨k.os.trans h.os, k.tape.trans h.tape, k.output.trans h.output, Nat.le_trans h.size k.size, fun i hi ho => (k.block i (Nat.lt_of_lt_of_le hi h.size) fun e => ho (hO i hi e)).trans (h.block i hi ho)⟩
theorem Turns.then {O : Nat → Prop} {A B C : World} (h : Turns O A B) (k : Turns O B C) : Turns O A C := h.trans k fun _ _ e => e
theorem Turns.mono {O O' : Nat → Prop} {A B : World} (h : Turns O A B) (hO : ∀ b, O b → O' b) : Turns O' A B := ⟨h.os, h.tape, h.output, h.size, fun i hi ho => h.block i hi fun e => ho (hO i e)⟩
theorem Turns.alloc {O : Nat → Prop} {A B : World} (h : Turns O A B) (o : Obj) : Turns O A (B.alloc o) :=
  ⟨h.os, h.tape, h.output, by simp; have := h.size; omega, fun i hi ho => (Below.heap_alloc B o i (Nat.lt_of_lt_of_le hi h.size)).trans (h.block i hi ho)⟩
theorem Turns.setCell {O : Nat → Prop} {A B : World} (h : Turns O A B) {p : Addr} (hp : O p.block) (u : Value) : Turns O A (B.setCell p u) :=
  ⟨h.os, h.tape, h.output, by simp [World.setCell]; exact h.size, fun i hi ho => (Below.heap_setCell B p u i fun e => ho (e ▸ hp)).trans (h.block i hi ho)⟩
theorem Turns.putObj {O : Nat → Prop} {A B : World} (h : Turns O A B) {l : Nat} (hp : O l) (o : Obj) : Turns O A (B.putObj l o) :=
  have g := grownBy_putObj' B l o
  ⟨g.os.trans h.os, g.tape.trans h.tape, g.output.trans h.output, Nat.le_trans h.size g.size, fun i hi ho => (g.block i (Nat.lt_of_lt_of_le hi h.size) fun e => ho (by injection e with e; rw [e]; exact hp)).trans (h.block i hi ho)⟩
theorem Turns.drew {O : Nat → Prop} {A B : World} (h : Turns O A B) : Turns O A B.drew := ⟨h.os, h.tape, h.output, h.size, h.block⟩
theorem Turns.drewN {O : Nat → Prop} {A B : World} (h : Turns O A B) (n : Nat) : Turns O A (B.drewN n) := ⟨h.os, h.tape, h.output, h.size, h.block⟩
theorem Turns.grown {O : Nat → Prop} {A B C : World} {row : Option Nat} (h : Turns O A B) (g : B.grownBy C row) (hr : ∀ r, row = some r → O r) : Turns O A C :=
  ⟨g.os.trans h.os, g.tape.trans h.tape, g.output.trans h.output, Nat.le_trans h.size g.size, fun i hi ho => (g.block i (Nat.lt_of_lt_of_le hi h.size) fun e => ho (hr i e.symm)).trans (h.block i hi ho)⟩
theorem Turns.after {O : Nat → Prop} {A B C : World} (h : Turns O A B) (k : Below B.heap.size B C) : Turns O A C :=
  ⟨k.os.trans h.os, k.tape.trans h.tape, k.output.trans h.output, Nat.le_trans h.size k.size, fun i hi ho => (k.block i (Nat.lt_of_lt_of_le hi h.size)).trans (h.block i hi ho)⟩
theorem Turns.below {O : Nat → Prop} {A B : World} {n : Nat} (h : Turns O A B) (hO : ∀ b, O b → n ≤ b) (hn : n ≤ A.heap.size) : Below n A B :=
  ⟨h.os, h.tape, h.output, h.size, fun i hi => h.block i (by omega) fun e => by have := hO i e; omega⟩
theorem Turns.blk {O : Nat → Prop} {A B : World} (h : Turns O A B) {b : Nat} {t : TypeId} {cs : Array Value} (hb : Blk A b t cs) (ho : ¬ O b) : Blk B b t cs := (h.block b hb.lt ho).trans hb
theorem Turns.own {O : Nat → Prop} {A B : World} (h : Turns O A B) {base size n : Nat} {e : TypeId} {v : Value} {vs : List Value} (ho : A.ownsRow base e size v n vs) (hO : ∀ b, some b = v.ownBlock → ¬ O b) : B.ownsRow base e size v n vs :=
  own_keep ho fun b hb => h.block b (ho.lt b hb.symm).2 (hO b hb)

theorem callsIn_any {n m : Nat} {P : Program} {f : FuncId} {args : Array Value} {w : World} {R : Ending → World → Prop} (h : CallsIn Fence.wide n P f args w R) : CallsIn Fence.wide m P f args w R := callsIn_wide.2 (callsIn_wide.1 h)
theorem roundIn_any {n m : Nat} {P : Program} {l : Nat} {f : FuncId} {tmps : Array Value} {assign body : Code} {w : World} {R : Ending → World → Prop} (h : RoundIn Fence.wide n P l f tmps assign body w R) : RoundIn Fence.wide m P l f tmps assign body w R :=
  ⟨h.1, fun c cs _ => h.2 c cs (room_wide _)⟩

abbrev Lst := Option Addr × Nat × List Int
def ordV (x : Lst) : Value := .slice x.1 x.2.2.length x.2.1
structure AtRow (B : Nat) (O : Nat → Prop) (G : List Int → Prop) (x : Lst) (W : World) : Prop where
  own : W.ownsRow B 3 1 (ordV x) x.2.2.length (ic x.2.2)
  inO : ∀ b, some b = (ordV x).ownBlock → O b
  good : G x.2.2
def Less (O : Nat → Prop) (x : Lst) : Nat → Prop := fun b => O b ∧ some b ≠ (ordV x).ownBlock
def AbidesSet (J : List Lst → (Nat → Prop) → World → Prop) : Prop :=
  ∀ pre (O O' : Nat → Prop) W1 W2, J pre O W1 → Turns O W1 W2 → (∀ b, O' b → O b ∨ W1.heap.size ≤ b) → J pre O' W2
def SeqOwn (P : Program) (g : FuncId) (lb : Array Value) (O0 : Nat → Prop) (G : List Int → Prop) (S : List (List Int) → Prop) (w : World) : Prop :=
  ∀ (l : Nat) (J : List Lst → (Nat → Prop) → World → Prop) (W : World), Below w.heap.size w W → AbidesSet J →
    (∀ pre x O W1, J pre O W1 → (∀ b, O b → O0 b ∨ W.heap.size ≤ b) → (∀ b, O b → b < W1.heap.size) → AtRow W.heap.size O G x W1 →
      YieldAt Fence.wide 0 P l #[ordV x] W1 fun e W' => e = .returned (.bool true) ∧ J (pre ++ [x]) (Less O x) W' ∧ Turns (fun b => ¬ Less O x b) W1 W') →
    J [] O0 W → CallsIn Fence.wide 0 P g (#[.func (.yield l) #[] #[]] ++ lb) W fun e W' => (∃ v, e = .returned v) ∧ ∃ xs O, S (xs.map fun x => x.2.2) ∧ J xs O W'
def setPost (I : List Lst → (Nat → Prop) → World → Prop) (O : Nat → Prop) (xs : List Lst) (W : World) : Exit → Act → World → Prop
  | .normal, _, W' => I xs O W' ∧ Turns (fun b => ¬ O b) W W'
  | _, _, _ => False

theorem wpIn_rangeFunc_set {n : Nat} {P : Program} {g : Operand} {ps : Array Tmp} {assign body : Code} {Q : Exit → Act → World → Prop} {a : Act} {w : World} {gf : Nat} {lb : Array Value} {O0 : Nat → Prop} {G : List Int → Prop} {S : List (List Int) → Prop} {w0 : World}
    (hg : a.eval g = .func (.func gf) #[] lb) (eg : ∀ args w, (callFunc gf args).run P w = .ok (.enter gf args) w) (hseq : SeqOwn P gf lb O0 G S w0) (hb0 : Below w0.heap.size w0 w) (hps : ps.size = 1) (hO0 : ∀ b, O0 b → b < w.heap.size)
    (I : List Lst → (Nat → Prop) → World → Prop) (hI : AbidesSet I) (h0 : I [] O0 w) (a₁ : Lst → Act)
    (hassign : ∀ (l : Nat) (x : Lst) (W : World) (K : Act → World → Prop), K (a₁ x) W → assign.wpIn (Fence.wide.inRound l) 0 P (Exit.then K (fun _ _ _ => False)) { tmps := (ps.zip #[ordV x]).foldl (fun t (p, v) => t.setIfInBounds p v) a.tmps, defers := [] } W)
    (hbody : ∀ (l : Nat) (pre : List Lst) (x : Lst) (O : Nat → Prop) (W : World), I pre O W → (∀ b, O b → O0 b ∨ w.heap.size ≤ b) → (∀ b, O b → b < W.heap.size) → AtRow w.heap.size O G x W → body.wpIn (Fence.wide.inRound l) 0 P (setPost I (Less O x) (pre ++ [x]) W) (a₁ x) W)
    (hdone : ∀ (D : Nat) (xs : List Lst) (O : Nat → Prop) (W : World), w.heap.size ≤ D → O D → S (xs.map fun x => x.2.2) → I xs O W → W.heap[D]? = some (.deferred (some [])) → Q .normal { a with defers := { target := .collected D, args := #[] } :: a.defers } W) :
    (Code.rangeFunc g ps assign body).wpIn Fence.wide n P Q a w := by
  refine wpIn_rangeFunc ?_
  intro fn hfn
  obtain ⟨rec, hrec⟩ : ∃ rec : LoopState → Option Code → Loop, rec = fun st pe => { state := st, pending := pe, fn, tmps := a.tmps, params := ps, assign, body, defers := w.heap.size } := ⟨_, rfl⟩
  obtain ⟨W1, hW1⟩ : ∃ W1, (w.alloc (.deferred (some []))).alloc (.loop (rec .ready none)) = W1 := ⟨_, rfl⟩
  have hs1 : W1.heap.size = w.heap.size + 2 := by rw [← hW1]; simp
  have hL1 : W1.heap[w.heap.size + 1]? = some (.loop (rec .ready none)) := by
    rw [← hW1]; have := World.alloc_heap_new (w.alloc (.deferred (some []))) (.loop (rec .ready none)); rwa [World.size_alloc] at this
  have hK1 : W1.heap[w.heap.size]? = some (.deferred (some [])) := by
    rw [← hW1]; exact (Below.heap_alloc _ _ _ (by simp)).trans (World.alloc_heap_new w _)
  have ht1 : Turns O0 w W1 := by rw [← hW1]; exact ((Turns.refl _ w).alloc _).alloc _
  have hb1 : Below w0.heap.size w0 W1 := by
    rw [← hW1]; exact hb0.trans ((((Below.refl _ w).alloc (Nat.le_refl _) _).alloc (by simp) _).mono hb0.size)
  have hrun := run_enterLoop_outer (P := P) (w := w) fn a.tmps ps assign body
  refine ⟨w.heap.size + 1, [{ target := .collected w.heap.size, args := #[] }], W1, { target := .fn (.func gf) lb, args := #[.func (.yield (w.heap.size + 1)) #[] #[]] }, W1, gf,
    #[.func (.yield (w.heap.size + 1)) #[] #[]] ++ lb, W1, ?_, ?_, ?_, ?_, fun h => by simp [Fence.wide] at h, ?_⟩
  · rw [← hW1, hrec]; exact hrun
  · simp only [resolve, hg]
    simp [go_sem]
  · intro f' hf'; trivial
  · simp [invoke, go_sem, eg]
  · -- the iterator's contract, where what the caller knows has the loop's own two blocks among those that turn
    refine (callsIn_any (hseq (w.heap.size + 1)
      (fun pre O W => (∀ b, O b → O0 b ∨ w.heap.size + 2 ≤ b) ∧ I pre (fun b => b = w.heap.size ∨ b = w.heap.size + 1 ∨ O b) W ∧ W.heap[w.heap.size + 1]? = some (.loop (rec .ready none)) ∧ W.heap[w.heap.size]? = some (.deferred (some [])))
      W1 hb1 ?abides ?round ⟨fun b hb => .inl hb, hI _ _ _ _ _ h0 ht1 (fun b hb => by rcases hb with rfl | rfl | hb <;> first | (right; omega) | exact .inl hb), hL1, hK1⟩)).mono ?behind
    case abides =>
      rintro pre O O' A B ⟨hlo, hi, hl, hk⟩ ht hO
      have hne : ∀ b, b = w.heap.size ∨ b = w.heap.size + 1 → ¬ O b := fun b hb e => by rcases hlo b e with h | h <;> first | omega | (have := hO0 b h; omega)
      have hlt : w.heap.size + 1 < A.heap.size := (Array.getElem?_eq_some_iff.1 hl).1
      refine ⟨fun b hb => ?_, hI _ _ _ _ _ hi (ht.mono fun b hb => .inr (.inr hb)) (fun b hb => ?_), (ht.block _ hlt (hne _ (.inr rfl))).trans hl, (ht.block _ (by omega) (hne _ (.inl rfl))).trans hk⟩
      · rcases hO b hb with h | h
        · exact hlo b h
        · right; omega
      · rcases hb with rfl | rfl | hb
        · exact .inl (.inl rfl)
        · exact .inl (.inr (.inl rfl))
        · rcases hO b hb with h | h
          · exact .inl (.inr (.inr h))
          · exact .inr h
    case round =>
      rintro pre x O W ⟨hlo, hi, hl, hk⟩ hlo2 hup hat
      have hne : ∀ b, b = w.heap.size ∨ b = w.heap.size + 1 → ¬ O b := fun b hb e => by rcases hlo b e with h | h <;> first | omega | (have := hO0 b h; omega)
      have hlt : w.heap.size + 1 < W.heap.size := (Array.getElem?_eq_some_iff.1 hl).1
      have hy := run_yield (P := P) (args := #[ordV x]) hl (by rw [hrec]; exact hps.symm)
      rw [hrec] at hy
      have hbr : (Instr.beginRound (w.heap.size + 1)).run P W = .ok () (W.putObj (w.heap.size + 1) (.loop (rec .busy none))) := by
        have := run_beginRound (P := P) hl (by rw [hrec])
        rw [hrec] at this ⊢
        exact this
      refine ⟨fn, _, assign, body, hy, roundIn_of_wpIn hfn (hassign _ x W _ ⟨_, hbr, ?_⟩)⟩
      have hl2 : (W.putObj (w.heap.size + 1) (.loop (rec .busy none))).heap[w.heap.size + 1]? = some (.loop (rec .busy none)) := World.putObj_heap_same hlt
      have hk2 : (W.putObj (w.heap.size + 1) (.loop (rec .busy none))).heap[w.heap.size]? = some (.deferred (some [])) := (World.putObj_heap_other (by omega)).trans hk
      have ht2 : Turns (fun b => b = w.heap.size ∨ b = w.heap.size + 1 ∨ O b) W (W.putObj (w.heap.size + 1) (.loop (rec .busy none))) := (Turns.refl _ W).putObj (.inr (.inl rfl)) _
      have hz2 := ht2.size
      have hi2 := hI _ _ _ _ _ hi ht2 (fun b hb => .inl hb)
      have ho2 : ∀ b, O b → (W.putObj (w.heap.size + 1) (.loop (rec .busy none))).heap[b]? = W.heap[b]? := fun b hb => World.putObj_heap_other fun e => hne b (.inr e) hb
      have hat2 : AtRow w.heap.size (fun b => b = w.heap.size ∨ b = w.heap.size + 1 ∨ O b) G x (W.putObj (w.heap.size + 1) (.loop (rec .busy none))) := by
        refine ⟨own_base (own_keep hat.own fun b hb => World.putObj_heap_other fun e => ?_) (by omega), fun b hb => .inr (.inr (hat.inO b hb)), hat.good⟩
        have := (hat.own.lt b hb.symm).1; omega
      have hlt1 : ∀ b, some b = (ordV x).ownBlock → w.heap.size + 2 ≤ b := fun b hb => by have := (hat.own.lt b hb.symm).1; omega
      have hD : Less (fun b => b = w.heap.size ∨ b = w.heap.size + 1 ∨ O b) x w.heap.size := ⟨.inl rfl, fun e => by have := hlt1 _ e; omega⟩
      have hL : Less (fun b => b = w.heap.size ∨ b = w.heap.size + 1 ∨ O b) x (w.heap.size + 1) := ⟨.inr (.inl rfl), fun e => by have := hlt1 _ e; omega⟩
      have hLe : ∀ b, Less O x b → Less (fun b => b = w.heap.size ∨ b = w.heap.size + 1 ∨ O b) x b := fun b hb => ⟨.inr (.inr hb.1), hb.2⟩
      refine wpIn_mono (hbody _ pre x _ _ hi2 (fun b hb => ?lo2) (fun b hb => ?up2) hat2) ?after
      case lo2 =>
        rcases hb with rfl | rfl | hb
        · right; omega
        · right; omega
        · rcases hlo b hb with h | h
          · exact .inl h
          · right; omega
      case up2 =>
        rcases hb with rfl | rfl | hb
        · omega
        · omega
        · have := hup b hb; omega
      generalize W.putObj (w.heap.size + 1) (.loop (rec .busy none)) = W2 at *
      rintro e a3 W3 hp
      cases e with
      | normal =>
        obtain ⟨hi3, ht3⟩ := hp
        have hl3 : W3.heap[w.heap.size + 1]? = some (.loop (rec .busy none)) := (ht3.block _ (Array.getElem?_eq_some_iff.1 hl2).1 (fun h => h hL)).trans hl2
        have hk3 : W3.heap[w.heap.size]? = some (.deferred (some [])) := (ht3.block _ (Array.getElem?_eq_some_iff.1 hk2).1 (fun h => h hD)).trans hk2
        have hr := run_endRound (P := P) none hl3
        rw [hrec] at hr
        have ht4 : Turns (fun b => b = w.heap.size + 1) W3 (W3.putObj (w.heap.size + 1) (.loop (rec .ready none))) := (Turns.refl (fun b => b = w.heap.size + 1) W3).putObj (l := w.heap.size + 1) rfl _
        refine ⟨_, _, hr, rfl, ⟨fun b hb => hlo b hb.1, hI _ _ _ _ _ hi3 (by rw [hrec] at ht4; exact ht4.mono fun b hb => hb ▸ hL) (fun b hb => .inl (by rcases hb with rfl | rfl | hb; exact hD; exact hL; exact hLe b hb)), by rw [hrec]; exact World.putObj_heap_same (Array.getElem?_eq_some_iff.1 hl3).1, (World.putObj_heap_other (by omega)).trans hk3⟩, ?_⟩
        rw [hrec] at ht4
        refine ⟨ht4.os.trans (ht3.os.trans ht2.os), ht4.tape.trans (ht3.tape.trans ht2.tape), ht4.output.trans (ht3.output.trans ht2.output), Nat.le_trans ht2.size (Nat.le_trans ht3.size ht4.size), fun b hb hO => ?_⟩
        have hOb : Less O x b := Classical.byContradiction hO
        exact (World.putObj_heap_other fun e => hne b (.inr e) hOb.1).trans ((ht3.block b (by omega) fun h => h (hLe b hOb)).trans (ho2 b hOb.1))
      | ret => exact hp.elim
      | exit id => exact hp.elim
      | goto t => exact hp.elim
      | panic ch => exact hp.elim
      | outgrown => exact hp.elim
    case behind =>
      rintro e W2 ⟨⟨v, rfl⟩, xs, O, hS, hlo, hi, hl, hk⟩
      have ht4 : Turns (fun b => b = w.heap.size ∨ b = w.heap.size + 1 ∨ O b) W2 (W2.putObj (w.heap.size + 1) (.loop (rec .exhausted none))) := (Turns.refl _ W2).putObj (.inr (.inl rfl)) _
      exact ⟨none, _, by have := run_endLoop (P := P) hl (by rw [hrec]; simp); rw [hrec] at this ⊢; exact this, hdone _ xs _ _ (by omega) (.inl rfl) hS (hI _ _ _ _ _ hi ht4 (fun b hb => .inl hb)) ((World.putObj_heap_other (by omega)).trans hk)⟩
end Go.Proofs.YtbldpojkpmafpaaGreatDoor
