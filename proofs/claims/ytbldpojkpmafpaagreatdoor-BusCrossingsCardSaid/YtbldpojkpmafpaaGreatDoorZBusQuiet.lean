/-
  DERIVED: THE SHELF's CONTRACTS AT THIS DUMP, IN PLAIN WORDS (tools/lay-plain.mjs out of 'TryzShelf.lean', which tools/lay-shelf.mjs wrote): THE SAME DECLARATIONS UNDER THE SAME NAMES: 'import', 'namespace', 'open', 'def', 'theorem' AND NOTHING ELSE: no command of the shelf's: FOR A HAND-IN. Each laying: the table of numbers ('.._ren') and one theorem, a field a fact of the dump's own or the kernel's comparison; each contract: ONE APPLICATION.
-/
import Derived.Shelf.Small.Utf8
import Derived.Shelf.Small.Strs
import Derived.Shelf.Strings.Search1
import Derived.Shelf.Strings.Search2
import Derived.Shelf.Strings.Search3
import Derived.Shelf.Strings.Cut
import Derived.Shelf.Strings.Count
import Derived.Shelf.LaysM
import Derived.Shelf.Strings.Shaped
import Derived.Shelf.Sort.Plain
import Derived.Shelf.Strings.Runes
import Derived.Shelf.Strings.AsciiSet
import Derived.Shelf.Bits.Mul64
import Derived.Shelf.Unicode.DecodeSlow
import Derived.Shelf.Slices.Turned
import Derived.Shelf.Slices.Reverse
import Derived.Ground.Names2Prog
import Derived.Shelf.Slices.Clone
import Derived.Shelf.Slices.CompactI
import Derived.Shelf.Slices.In.SortNone
import Derived.Test.YtbldpojkpmafpaaGreatDoorProg
import Derived.Test.YtbldpojkpmafpaaGreatDoorZBusTab
import Derived.Lib.RowBridge
import Derived.BigQuiet
import Derived.StillTail
namespace Go.Proofs
open Go.Shelf
def Tryz.lays189_ren : Go.Shelf.Ren := ⟨fun | 189 => 66 | 125 => 116 | 257 => 115 | 128 => 159 | 129 => 160 | 294 => 150 | 295 => 151 | 296 => 152 | 297 => 153 | 298 => 154 | 299 => 155 | 216 => 156 | 300 => 157 | 301 => 158 | 328 => 199 | 329 => 200 | 330 => 201 | 331 => 202 | 332 => 203 | 215 => 132 | 343 => 242 | n => n, fun | 28 => 24 | 3 => 3 | 46 => 173 | 0 => 0 | 51 => 223 | 53 => 225 | 4 => 4 | 183 => 216 | 182 => 215 | 131 => 220 | 5 => 5 | 9 => 9 | 218 => 253 | 222 => 257 | 228 => 292 | 229 => 147 | n => n, fun | n => n⟩
theorem Tryz.lays189 : Go.Proofs.Lays.n189 Tryz.prog Tryz.lays189_ren := {
  mixed := by kernel_rfl
  f125 := Tryz.func116.trans (congrArg some (by kernel_rfl))
  f128 := Tryz.func159.trans (congrArg some (by kernel_rfl))
  f129 := Tryz.func160.trans (congrArg some (by kernel_rfl))
  f189 := Tryz.func66.trans (congrArg some (by kernel_rfl))
  f215 := Tryz.func132.trans (congrArg some (by kernel_rfl))
  f216 := Tryz.func156.trans (congrArg some (by kernel_rfl))
  f257 := Tryz.func115.trans (congrArg some (by kernel_rfl))
  f294 := Tryz.func150.trans (congrArg some (by kernel_rfl))
  f295 := Tryz.func151.trans (congrArg some (by kernel_rfl))
  f296 := Tryz.func152.trans (congrArg some (by kernel_rfl))
  f297 := Tryz.func153.trans (congrArg some (by kernel_rfl))
  f298 := Tryz.func154.trans (congrArg some (by kernel_rfl))
  f299 := Tryz.func155.trans (congrArg some (by kernel_rfl))
  f300 := Tryz.func157.trans (congrArg some (by kernel_rfl))
  f301 := Tryz.func158.trans (congrArg some (by kernel_rfl))
  f328 := Tryz.func199.trans (congrArg some (by kernel_rfl))
  f329 := Tryz.func200.trans (congrArg some (by kernel_rfl))
  f330 := Tryz.func201.trans (congrArg some (by kernel_rfl))
  f331 := Tryz.func202.trans (congrArg some (by kernel_rfl))
  f332 := Tryz.func203.trans (congrArg some (by kernel_rfl))
  f343 := Tryz.func242.trans (congrArg some (by kernel_rfl))
  t0 := Tryz.underlying0
  a0 := Tryz.isAgg0
  z0 := Tryz.sizeOf0
  v0 := Tryz.zeroValue0
  t3 := Tryz.underlying3
  a3 := Tryz.isAgg3
  z3 := Tryz.sizeOf3
  v3 := Tryz.zeroValue3
  t4 := Tryz.underlying4
  a4 := Tryz.isAgg4
  z4 := Tryz.sizeOf4
  v4 := Tryz.zeroValue4
  t5 := Tryz.underlying5
  a5 := Tryz.isAgg5
  z5 := Tryz.sizeOf5
  v5 := Tryz.zeroValue5
  t9 := Tryz.underlying9
  a9 := Tryz.isAgg9
  z9 := Tryz.sizeOf9
  v9 := Tryz.zeroValue9
  t28 := Tryz.underlying24
  a28 := Tryz.isAgg24
  z28 := Tryz.sizeOf24
  v28 := Tryz.zeroValue24
  t46 := Tryz.underlying173
  a46 := Tryz.isAgg173
  z46 := Tryz.sizeOf173
  v46 := Tryz.zeroValue173
  t51 := Tryz.underlying223
  a51 := Tryz.isAgg223
  z51 := Tryz.sizeOf223
  v51 := Tryz.zeroValue223
  t53 := Tryz.underlying225
  a53 := Tryz.isAgg225
  z53 := Tryz.sizeOf225
  v53 := Tryz.zeroValue225
  t131 := Tryz.underlying220
  a131 := Tryz.isAgg220
  z131 := Tryz.sizeOf220
  v131 := Tryz.zeroValue220
  t182 := Tryz.underlying215
  a182 := Tryz.isAgg215
  z182 := Tryz.sizeOf215
  v182 := Tryz.zeroValue215
  t183 := Tryz.underlying216
  a183 := Tryz.isAgg216
  z183 := Tryz.sizeOf216
  v183 := Tryz.zeroValue216
  t218 := Tryz.underlying253
  a218 := Tryz.isAgg253
  z218 := Tryz.sizeOf253
  v218 := Tryz.zeroValue253
  t222 := Tryz.underlying257
  a222 := Tryz.isAgg257
  z222 := Tryz.sizeOf257
  v222 := Tryz.zeroValue257
  t228 := Tryz.underlying292
  a228 := Tryz.isAgg292
  z228 := Tryz.sizeOf292
  v228 := Tryz.zeroValue292
  t229 := Tryz.underlying147
  a229 := Tryz.isAgg147
  z229 := Tryz.sizeOf147
  v229 := Tryz.zeroValue147 }
open Go.Sort Go.RowKit in
theorem Tryz.slices_Sort_int (blk off cap : Nat) (zs : List Int) (w : World) (hH : Holds (Value.int .i64) w blk off zs.toArray) (hblk : blk < w.heap.size) (hsz : zs.length < 4611686018427387904) :
    Calls Tryz.prog 66 #[.slice (some ⟨blk, off, none⟩) zs.length cap] w fun e w' =>
      e = .returned (.tuple #[]) ∧ ∃ n os, w' = grow (putRow (Value.int .i64) (Sort.ahead w n) blk off (zs.mergeSort fun x y => decide (x ≤ y)).toArray) os := Any.slices_Sort_int Tryz.lays189 blk off cap zs w hH hblk hsz
def Tryz.lays108_ren : Go.Shelf.Ren := ⟨fun | 108 => 61 | n => n, fun | 28 => 24 | 3 => 3 | 0 => 0 | 4 => 4 | n => n, fun | n => n⟩
theorem Tryz.lays108 : Go.Proofs.Lays.n108 Tryz.prog Tryz.lays108_ren := {
  mixed := by kernel_rfl
  f108 := Tryz.func61.trans (congrArg some (by kernel_rfl))
  t0 := Tryz.underlying0
  a0 := Tryz.isAgg0
  z0 := Tryz.sizeOf0
  v0 := Tryz.zeroValue0
  t3 := Tryz.underlying3
  a3 := Tryz.isAgg3
  z3 := Tryz.sizeOf3
  v3 := Tryz.zeroValue3
  t4 := Tryz.underlying4
  a4 := Tryz.isAgg4
  z4 := Tryz.sizeOf4
  v4 := Tryz.zeroValue4
  t28 := Tryz.underlying24
  a28 := Tryz.isAgg24
  z28 := Tryz.sizeOf24
  v28 := Tryz.zeroValue24 }
open Go.Lib in
/-- slices.Index at []int: "Index returns the index of the first occurrence of v in s, or -1 if not present.": IT RETURNS 'Lib.idxOf (the elements) v'; the world is as it was. 'zs': what the cells behind the slice's address hold (its spare capacity too, if you have it); 'zs.take n': its elements. (LAID: no walk: one application.) -/
theorem Tryz.slices_Index_int (b off n c : Nat) (zs : List Int) (x : Int) (w : World) (hz : n ≤ zs.length) (hbig : n ≤ 9223372036854775807) (hc : ∀ j, j < zs.length → w.cell? ⟨b, off + j, none⟩ = some (.int .i64 (zs.getD j 0))) :
    Calls Tryz.prog 61 #[.slice (some ⟨b, off, none⟩) n c, .int .i64 x] w fun e w' => e = .returned (.int .i64 (Lib.idxOf (zs.take n) x)) ∧ w' = w := Any.slices_Index_int Tryz.lays108 b off n c zs x w hz hbig hc
open Go.Lib in
/-- The same at a slice of length 0, a nil one too: no cell is known, none is asked for. (LAID: no walk: one application.) -/
theorem Tryz.slices_Index_int_empty (a : Option Addr) (c : Nat) (x : Int) (w : World) :
    Calls Tryz.prog 61 #[.slice a 0 c, .int .i64 x] w fun e w' => e = .returned (.int .i64 (Lib.idxOf [] x)) ∧ w' = w := Any.slices_Index_int_empty Tryz.lays108 a c x w
def Tryz.lays112_ren : Go.Shelf.Ren := ⟨fun | 112 => 54 | n => n, fun | 28 => 24 | 3 => 3 | 4 => 4 | 0 => 0 | n => n, fun | n => n⟩
theorem Tryz.lays112 : Go.Proofs.Lays.n112 Tryz.prog Tryz.lays112_ren := {
  mixed := by kernel_rfl
  f112 := Tryz.func54.trans (congrArg some (by kernel_rfl))
  t0 := Tryz.underlying0
  a0 := Tryz.isAgg0
  z0 := Tryz.sizeOf0
  v0 := Tryz.zeroValue0
  t3 := Tryz.underlying3
  a3 := Tryz.isAgg3
  z3 := Tryz.sizeOf3
  v3 := Tryz.zeroValue3
  t4 := Tryz.underlying4
  a4 := Tryz.isAgg4
  z4 := Tryz.sizeOf4
  v4 := Tryz.zeroValue4
  t28 := Tryz.underlying24
  a28 := Tryz.isAgg24
  z28 := Tryz.sizeOf24
  v28 := Tryz.zeroValue24 }
open Go.RowKit Go.Lib Go.Sort in
/-- slices.Reverse at []int: "Reverse reverses the elements of the slice in place.": THE SLICE's CELLS HOLD 'zs.reverse' BEHIND THE CALL; all else is as it was, but for the count of draws (the exchange 's[i], s[j] = s[j], s[i]' draws its order, once a round). IN THE WORDS OF slices.Sort's CONTRACT: 'Holds': the cells hold zs and none is frozen; 'putRow': the world with those cells holding another array. A slice of length 0 that is not nil is among them ('zs = []'); nil: '.._nil'. (LAID: no walk: one application.) -/
theorem Tryz.slices_Reverse_int (blk off cap : Nat) (zs : List Int) (w : World) (hH : Holds (Value.int .i64) w blk off zs.toArray) (hsz : zs.length ≤ 9223372036854775807) :
    Calls Tryz.prog 54 #[.slice (some ⟨blk, off, none⟩) zs.length cap] w fun e w' => e = .returned (.tuple #[]) ∧ ∃ n, w' = putRow (Value.int .i64) (Sort.ahead w n) blk off zs.reverse.toArray := Any.slices_Reverse_int Tryz.lays112 blk off cap zs w hH hsz
open Go.RowKit Go.Lib Go.Sort in
/-- The same at a slice of length 0, a nil one too: nothing is read, nothing written, nothing drawn. (LAID: no walk: one application.) -/
theorem Tryz.slices_Reverse_int_empty (a : Option Addr) (cap : Nat) (w : World) :
    Calls Tryz.prog 54 #[.slice a 0 cap] w fun e w' => e = .returned (.tuple #[]) ∧ w' = w := Any.slices_Reverse_int_empty Tryz.lays112 a cap w
def Tryz.laysNm215_ren : Go.Shelf.Ren := ⟨fun | 15 => 53 | n => n, fun | 22 => 24 | 3 => 3 | 4 => 4 | n => n, fun | n => n⟩
theorem Tryz.laysNm215 : Go.Proofs.Lays2.n15 Tryz.prog Tryz.laysNm215_ren := {
  mixed := by kernel_rfl
  f15 := Tryz.func53.trans (congrArg some (by kernel_rfl))
  t3 := Tryz.underlying3
  a3 := Tryz.isAgg3
  z3 := Tryz.sizeOf3
  v3 := Tryz.zeroValue3
  t4 := Tryz.underlying4
  a4 := Tryz.isAgg4
  z4 := Tryz.sizeOf4
  v4 := Tryz.zeroValue4
  t22 := Tryz.underlying24
  a22 := Tryz.isAgg24
  z22 := Tryz.sizeOf24
  v22 := Tryz.zeroValue24
  i3 := by kernel_rfl }
open Go.RowKit Go.Lib in
/-- slices.Clone at []int: "Clone returns a copy of the slice. The elements are copied using assignment, so this is a shallow clone. The result may have additional unused capacity. The result preserves the nilness of s.": OF A SLICE THAT IS NOT nil IT RETURNS A SLICE THAT IS NOT nil, OF THE SAME ELEMENTS, IN MEMORY OF THE CALL's OWN: in the how-to's words (6f): 'w'.ownsRow B e 1 v' n cells': v' begins at the head of a row among the blocks from B on (B: the heap's size at the call), not frozen, whose first cells are the elements · 'Below B w w'': below B all is as it was. The capacity is whatever the run-time gives. 'zs': what the cells behind the slice's address hold; 'zs.take n': its elements. (LAID: no walk: one application.) -/
theorem Tryz.slices_Clone_int (b off n c : Nat) (zs : List Int) (w : World) (hz : n ≤ zs.length) (hbig : n * 8 ≤ 140737488355328) (hc : ∀ j, j < zs.length → w.cell? ⟨b, off + j, none⟩ = some (.int .i64 (zs.getD j 0))) :
    Calls Tryz.prog 53 #[.slice (some ⟨b, off, none⟩) n c] w fun e w' => ∃ v', e = .returned v' ∧ w'.ownsRow w.heap.size 3 1 v' n ((zs.take n).map (Value.int .i64)) ∧ v' ≠ .slice none 0 0 ∧ Below w.heap.size w w' := Any.slices_Clone_int Tryz.laysNm215 b off n c zs w hz hbig hc
open Go.RowKit Go.Lib in
/-- The same at nil: nil comes back; the world is as it was. (LAID: no walk: one application.) -/
theorem Tryz.slices_Clone_int_nil (n c : Nat) (w : World) :
    Calls Tryz.prog 53 #[.slice none n c] w fun e w' => e = .returned (.slice none 0 0) ∧ w' = w := Any.slices_Clone_int_nil Tryz.laysNm215 n c w
open Go.RowKit Go.Lib in
/-- The same at a slice of length 0 that is not nil, WHATEVER ITS ADDRESS (no cell is asked for): a slice that is not nil and owns nothing comes back. (LAID: no walk: one application.) -/
theorem Tryz.slices_Clone_int_zero (a : Addr) (c : Nat) (w : World) :
    Calls Tryz.prog 53 #[.slice (some a) 0 c] w fun e w' => ∃ v', e = .returned v' ∧ w'.ownsRow w.heap.size 3 1 v' 0 [] ∧ v' ≠ .slice none 0 0 ∧ Below w.heap.size w w' := Any.slices_Clone_int_zero Tryz.laysNm215 a c w
def Tryz.laysNm220_ren : Go.Shelf.Ren := ⟨fun | 20 => 67 | n => n, fun | 22 => 24 | 3 => 3 | 4 => 4 | 0 => 0 | n => n, fun | n => n⟩
theorem Tryz.laysNm220 : Go.Proofs.Lays2.n20 Tryz.prog Tryz.laysNm220_ren := {
  mixed := by kernel_rfl
  f20 := Tryz.func67.trans (congrArg some (by kernel_rfl))
  t0 := Tryz.underlying0
  a0 := Tryz.isAgg0
  z0 := Tryz.sizeOf0
  v0 := Tryz.zeroValue0
  t3 := Tryz.underlying3
  a3 := Tryz.isAgg3
  z3 := Tryz.sizeOf3
  v3 := Tryz.zeroValue3
  t4 := Tryz.underlying4
  a4 := Tryz.isAgg4
  z4 := Tryz.sizeOf4
  v4 := Tryz.zeroValue4
  t22 := Tryz.underlying24
  a22 := Tryz.isAgg24
  z22 := Tryz.sizeOf24
  v22 := Tryz.zeroValue24
  i3 := by kernel_rfl }
open Go.RowKit Go.Lib Go.Sort in
/-- slices.Compact at []int: "Compact replaces consecutive runs of equal elements with a single copy. This is like the uniq command found on Unix. Compact modifies the contents of the slice s and returns the modified slice, which may have a smaller length. Compact zeroes the elements between the new length and the original length. The result preserves the nilness of s.": IT RETURNS THE SLICE CUT TO 'Lib.compact zs'; ITS CELLS HOLD 'Lib.compact zs', THEN ZERO VALUES up to the old length; all else is as it was, but for the count of draws. IN THE WORDS OF slices.Sort's CONTRACT ('Holds', 'putRow'): so the everyday 'slices.Sort(xs); xs = slices.Compact(xs)' goes from the one contract to the other. It asks 'zs.length ≤ cap' (every slice's: the reslicing 's[:k]' looks at it). Length 0, nil: '.._empty'. (LAID: no walk: one application.) -/
theorem Tryz.slices_Compact_int (blk off cap : Nat) (zs : List Int) (w : World) (hH : Holds (Value.int .i64) w blk off zs.toArray) (hsz : zs.length ≤ 9223372036854775807) (hcap : zs.length ≤ cap) :
    Calls Tryz.prog 67 #[.slice (some ⟨blk, off, none⟩) zs.length cap] w fun e w' => e = .returned (.slice (some ⟨blk, off, none⟩) (Lib.compact zs).length cap) ∧ ∃ q, w' = putRow (Value.int .i64) (Sort.ahead w q) blk off (Lib.compact zs ++ List.replicate (zs.length - (Lib.compact zs).length) 0).toArray := Any.slices_Compact_int Tryz.laysNm220 blk off cap zs w hH hsz hcap
open Go.RowKit Go.Lib Go.Sort in
/-- The same at a slice of length 0, a nil one too: it comes back as it is. (LAID: no walk: one application.) -/
theorem Tryz.slices_Compact_int_empty (a : Option Addr) (cap : Nat) (w : World) :
    Calls Tryz.prog 67 #[.slice a 0 cap] w fun e w' => e = .returned (.slice a 0 cap) ∧ w' = w := Any.slices_Compact_int_empty Tryz.laysNm220 a cap w
open Go.RowKit Go.Sort in
/-- .. and plain. (LAID: no walk: one application.) -/
theorem Tryz.slices_Sort_int_none (p : Option Addr) (cap : Nat) (w : World) :
    Calls Tryz.prog 66 #[.slice p 0 cap] w fun e w' => e = .returned (.tuple #[]) ∧ w' = w := Any.slices_Sort_int_none Tryz.lays189 p cap w
end Go.Proofs

/- Go's library on rows of integers, at nil too: Clone, Sort, Compact, Index, Reverse. -/
namespace Go.Proofs.YtbldpojkpmafpaaGreatDoor
open Go.RowKit

abbrev ic (l : List Int) : List Value := l.map (Value.int .i64)
theorem ownI_some {w : World} {base n : Nat} {v : Value} {xs : List Int} (h : w.ownsRow base 3 1 v n (ic xs)) : xs.length = n ∧ ((v = .slice none 0 0 ∧ n = 0) ∨ ∃ g cap cur, v = .slice (some ⟨g, 0, none⟩) n cap ∧ base ≤ g ∧ w.heap[g]? = some (.cells cur 3 (0, 0)) ∧ n ≤ cap ∧ cap ≤ maxLen ∧ cur.size = cap ∧ cur.toList.take n = ic xs) := by
  obtain ⟨h1, h2⟩ := h
  simp only [Nat.mul_one, List.length_map] at h1 h2
  exact ⟨h1, h2⟩
theorem own_holds {w : World} {g n : Nat} {cur : Array Value} {xs : List Int} (hg : w.heap[g]? = some (.cells cur 3 (0, 0))) (ht : cur.toList.take n = ic xs) : Sort.Holds (Value.int .i64) w g 0 xs.toArray := fun j hj => by
  have hj : j < xs.length := by simpa using hj
  refine ⟨?_, ?_⟩
  · rw [Nat.zero_add, cell_of_row w g j cur _ _ hg]
    have h1 : (cur.toList.take n)[j]? = some (Value.int .i64 xs[j]) := by rw [ht]; simp [hj]
    rw [List.getElem?_take] at h1
    split at h1
    · simpa [hj] using h1
    · cases h1
  · simp [World.frozen?, hg]
theorem putRow_at {w : World} {g n : Nat} {cur : Array Value} {xs ys : List Int} (hg : w.heap[g]? = some (.cells cur 3 (0, 0))) (ht : cur.toList.take n = ic xs) (hl : ys.length = xs.length) (q : Nat) :
    (Sort.putRow (Value.int .i64) (Sort.ahead w q) g 0 ys.toArray).heap[g]? = some (.cells (Sort.putCells (Value.int .i64) 0 ys.toArray cur) 3 (0, 0)) ∧ (Sort.putCells (Value.int .i64) 0 ys.toArray cur).size = cur.size ∧ (Sort.putCells (Value.int .i64) 0 ys.toArray cur).toList.take ys.length = ic ys := by
  refine ⟨?_, by simp [Sort.putCells], ?_⟩
  · show (w.heap.modify g (Sort.onCells _))[g]? = _
    rw [Array.getElem?_modify, if_pos rfl, hg]; rfl
  · have hlen : ys.length ≤ cur.size := by
      have h1 := congrArg List.length ht
      simp at h1; omega
    apply List.ext_getElem?
    intro j
    rw [List.getElem?_take]
    by_cases hj : j < ys.length
    · rw [if_pos hj, Array.getElem?_toList]
      have hc : j < cur.size := by omega
      simp [Sort.putCells, hj, hc]
    · rw [if_neg hj, List.getElem?_eq_none (by simpa using hj)]
theorem putRow_grown {w : World} {g q : Nat} {d : Array Int} : w.grownBy (Sort.putRow (Value.int .i64) (Sort.ahead w q) g 0 d) (some g) :=
  ⟨rfl, rfl, rfl, Nat.le_of_eq (by simp), fun k _ hk => by
    show (w.heap.modify g (Sort.onCells _))[k]? = _
    rw [Array.getElem?_modify, if_neg (fun e => hk (by rw [e]))]⟩
theorem grown_refl (w : World) (r : Option Nat) : w.grownBy w r := ⟨rfl, rfl, rfl, Nat.le_refl _, fun _ _ _ => rfl⟩
theorem grown_grow {w w' : World} {r : Option Nat} (h : w.grownBy w' r) (os : Array Obj) : w.grownBy (Sort.grow w' os) r :=
  ⟨h.os, h.tape, h.output, Nat.le_trans h.size (by simp), fun k hk hn => (Sort.heap_grow_old w' os (Nat.lt_of_lt_of_le hk h.size)).trans (h.block k hk hn)⟩
theorem clone_any (A : Option Addr) (c B : Nat) (xs : List Int) (w : World) (h : Row w B A (ic xs)) (hl : xs.length ≤ 1000000) :
    Calls Tryz.prog 53 #[.slice A xs.length c] w fun e w' => ∃ v, e = .returned v ∧ w'.ownsRow w.heap.size 3 1 v xs.length (ic xs) ∧ Below w.heap.size w w' := by
  rcases h with h | ⟨b, off, rfl, _, hc⟩
  · obtain rfl : xs = [] := List.map_eq_nil_iff.1 h
    cases A with
    | none => exact (Tryz.slices_Clone_int_nil 0 c w).mono fun e w' ⟨h1, h2⟩ => by subst h2; exact ⟨_, h1, ⟨rfl, .inl ⟨rfl, rfl⟩⟩, Below.refl _ _⟩
    | some a => exact (Tryz.slices_Clone_int_zero a c w).mono fun e w' ⟨v, h1, h2, _, h3⟩ => ⟨v, h1, h2, h3⟩
  · refine (Tryz.slices_Clone_int b off xs.length c xs w (Nat.le_refl _) (by omega) fun j hj => ?_).mono fun e w' ⟨v, h1, h2, _, h3⟩ => ⟨v, h1, ?_, h3⟩
    · rw [hc j (by simpa using hj)]
      simp [List.getD_eq_getElem?_getD, hj]
    · rw [List.take_length] at h2; exact h2
theorem sort_any (base n : Nat) (v : Value) (xs : List Int) (w : World) (h : w.ownsRow base 3 1 v n (ic xs)) (hl : xs.length ≤ 1000000) :
    Calls Tryz.prog 66 #[v] w fun e w' => e = .returned (.tuple #[]) ∧ w'.ownsRow base 3 1 v n (ic (xs.mergeSort fun x y => decide (x ≤ y))) ∧ w.grownBy w' v.ownBlock := by
  obtain ⟨h0, h1⟩ := ownI_some h
  rcases h1 with ⟨rfl, rfl⟩ | ⟨g, cap, cur, rfl, hbg, hg, hn, hcap, hcs, ht⟩
  · obtain rfl : xs = [] := List.length_eq_zero_iff.1 h0
    exact (Tryz.slices_Sort_int_none none 0 w).mono fun e w' ⟨h1, h2⟩ => by subst h2; exact ⟨h1, by simpa using h, grown_refl _ _⟩
  · subst h0
    have hgl : g < w.heap.size := (Array.getElem?_eq_some_iff.1 hg).1
    refine (Tryz.slices_Sort_int g 0 cap xs w (own_holds hg ht) hgl (by omega)).mono fun e w' ⟨h1, q, os, h2⟩ => ?_
    subst h2
    have hl2 : (xs.mergeSort fun x y => decide (x ≤ y)).length = xs.length := List.length_mergeSort _
    obtain ⟨p1, p2, p3⟩ := putRow_at hg ht hl2 q
    refine ⟨h1, ⟨by simp [hl2], .inr ⟨g, cap, _, rfl, hbg, (Sort.heap_grow_old _ os (by simpa using hgl)).trans p1, hn, hcap, by rw [p2, hcs, Nat.mul_one], ?_⟩⟩, grown_grow putRow_grown os⟩
    rw [Nat.mul_one, ← hl2]; exact p3
theorem compact_any (base n : Nat) (v : Value) (xs : List Int) (w : World) (h : w.ownsRow base 3 1 v n (ic xs)) (hl : xs.length ≤ 1000000) :
    Calls Tryz.prog 67 #[v] w fun e w' => ∃ v', e = .returned v' ∧ w'.ownsRow base 3 1 v' (Lib.compact xs).length (ic (Lib.compact xs)) ∧ w.grownBy w' v.ownBlock := by
  obtain ⟨h0, h1⟩ := ownI_some h
  rcases h1 with ⟨rfl, rfl⟩ | ⟨g, cap, cur, rfl, hbg, hg, hn, hcap, hcs, ht⟩
  · obtain rfl : xs = [] := List.length_eq_zero_iff.1 h0
    exact (Tryz.slices_Compact_int_empty none 0 w).mono fun e w' ⟨h1, h2⟩ => by subst h2; exact ⟨_, h1, ⟨rfl, .inl ⟨rfl, rfl⟩⟩, grown_refl _ _⟩
  · subst h0
    have hcl : (Lib.compact xs).length ≤ xs.length := Lib.compact_length_le xs
    refine (Tryz.slices_Compact_int g 0 cap xs w (own_holds hg ht) (by omega) hn).mono fun e w' ⟨h1, q, h2⟩ => ?_
    subst h2
    obtain ⟨p1, p2, p3⟩ := putRow_at (ys := Lib.compact xs ++ List.replicate (xs.length - (Lib.compact xs).length) 0) hg ht (by simp; omega) q
    refine ⟨_, h1, ⟨by simp, .inr ⟨g, cap, _, rfl, hbg, p1, by omega, hcap, by rw [p2, hcs, Nat.mul_one], ?_⟩⟩, putRow_grown⟩
    have h3 := congrArg (List.take (Lib.compact xs).length) p3
    rw [List.take_take, Nat.min_eq_left (by simp)] at h3
    rw [Nat.mul_one, h3]
    simp [ic]
theorem reverse_any (base n : Nat) (v : Value) (xs : List Int) (w : World) (h : w.ownsRow base 3 1 v n (ic xs)) (hl : xs.length ≤ 1000000) :
    Calls Tryz.prog 54 #[v] w fun e w' => e = .returned (.tuple #[]) ∧ w'.ownsRow base 3 1 v n (ic xs.reverse) ∧ w.grownBy w' v.ownBlock := by
  obtain ⟨h0, h1⟩ := ownI_some h
  rcases h1 with ⟨rfl, rfl⟩ | ⟨g, cap, cur, rfl, hbg, hg, hn, hcap, hcs, ht⟩
  · obtain rfl : xs = [] := List.length_eq_zero_iff.1 h0
    exact (Tryz.slices_Reverse_int_empty none 0 w).mono fun e w' ⟨h1, h2⟩ => by subst h2; exact ⟨h1, by simpa using h, grown_refl _ _⟩
  · subst h0
    refine (Tryz.slices_Reverse_int g 0 cap xs w (own_holds hg ht) (by omega)).mono fun e w' ⟨h1, q, h2⟩ => ?_
    subst h2
    obtain ⟨p1, p2, p3⟩ := putRow_at (ys := xs.reverse) hg ht (by simp) q
    refine ⟨h1, ⟨by simp, .inr ⟨g, cap, _, rfl, hbg, p1, hn, hcap, by rw [p2, hcs, Nat.mul_one], ?_⟩⟩, putRow_grown⟩
    rw [Nat.mul_one]
    simpa using p3
theorem index_any (A : Option Addr) (c B : Nat) (xs : List Int) (x : Int) (w : World) (h : Row w B A (ic xs)) (hl : xs.length ≤ 1000000) :
    Calls Tryz.prog 61 #[.slice A xs.length c, .int .i64 x] w fun e w' => e = .returned (.int .i64 (Lib.idxOf xs x)) ∧ w' = w := by
  rcases h with h | ⟨b, off, rfl, _, hc⟩
  · obtain rfl : xs = [] := List.map_eq_nil_iff.1 h
    exact Tryz.slices_Index_int_empty A c x w
  · have := Tryz.slices_Index_int b off xs.length c xs x w (Nat.le_refl _) (by omega) fun j hj => by
      rw [hc j (by simpa using hj)]
      simp [List.getD_eq_getElem?_getD, hj]
    rw [List.take_length] at this
    exact this
end Go.Proofs.YtbldpojkpmafpaaGreatDoor

/- Package bus: the number of a net's track among the tracks that are used. -/
namespace Go.Proofs.YtbldpojkpmafpaaGreatDoor
open Go.RowKit

set_option maxRecDepth 100000 in
set_option maxHeartbeats 2000000 in
theorem number_any (ub lb B B2 : Nat) (U A3 : Option Addr) (cu c3 : Nat) (o : Value) (us ts : List Int) (w : World) (d6 : Blk w ub 24 #[.slice U us.length cu]) (d3 : Blk w lb 29 #[o, .slice A3 ts.length c3])
    (hU : Row w B U (ic us)) (ht : Row w B2 A3 (ic ts)) (net : Nat) (hn : net < ts.length) (hul : us.length ≤ 1000000) :
    Calls Tryz.prog 98 #[.int .i64 (net : Int), .pointer (some ⟨ub, 0, none⟩), .pointer (some ⟨lb, 0, none⟩)] w fun e w' => e = .returned (.int .i64 (Lib.idxOf us (ts.getD net 0))) ∧ ∃ m, w' = w.drewN m := by
  obtain ⟨b, off, x, rfl, hbB, hx, hc⟩ := ht.int net hn
  have e : ts.getD net 0 = x := by rw [List.getD_eq_getElem?_getD, hx]; rfl
  rw [e]
  have HI := Lib.hid (fun k => index_any U cu B us x (w.drewN k) (hU.drewN k) hul)
  have x6 := d6.cell 0
  have x3 := d3.cell 1
  have hnn : (net : Int) < (ts.length : Int) := by omega
  clear hU ht hx e d6 d3
  go_enter Tryz.func98, Tryz.ntmps98
  go_wp2_with fail
  go_quiet ((go_at_call 61; exact (HI.out _).mono fun e w' ⟨h1, h2⟩ => ⟨h1, _, h2⟩))
  go_wp2_with fail
  go_ret
  exact ⟨rfl, _, rfl⟩
end Go.Proofs.YtbldpojkpmafpaaGreatDoor

/- A region that draws its order in a round, whose last operation writes: once, in the order of the text. -/
namespace Go.Proofs.YtbldpojkpmafpaaGreatDoor
open Go.RowKit Go.Shelf

/-- every operation waits for earlier ones alone -/
def backB (md : Region.Mode) (ops : Array Oper) : Bool := (List.range ops.size).all fun j => match ops[j]? with | some o => o.after.all fun e => !Region.binds md e || decide (e.on < j) | none => true
section
variable {F : Fence} {n lp : Nat} {P : Program} {ops ops' : Array Oper} {C : World → Prop} {md : Region.Mode} {m : Nat} {o o' : Oper}
structure LastOf (md : Region.Mode) (ops ops' : Array Oper) (m : Nat) (o o' : Oper) : Prop where
  sz : ops.size = m + 1
  sz' : ops'.size = m + 1
  eq : ∀ i, i < m → ops'[i]? = ops[i]?
  at' : ops[m]? = some o
  at2 : ops'[m]? = some o'
  after : o'.after = o.after
  dst : o.dst = none
  dst' : o'.dst = none
  guard : o.guard = none
  sink : Region.sinkB md ops m = true
  chain : Region.chainB md ops m = true
  back : backB md ops = true
theorem LastOf.ready (h : LastOf md ops ops' m o o') (listed : Array Bool) : Region.ready md ops' listed = Region.ready md ops listed := by
  unfold Region.ready
  rw [h.sz, h.sz']
  refine List.filter_congr fun i hi => ?_
  have hi := List.mem_range.1 hi
  by_cases e : i = m
  · subst e
    rw [h.at', h.at2]
    simp only [Option.map_some, h.after]
  · rw [h.eq i (by omega)]
theorem LastOf.yields (h : LastOf md ops ops' m o o') (tmps : Array Value) : yielded ops' tmps = yielded ops tmps := by
  funext j
  unfold yielded
  rcases Nat.lt_trichotomy j m with g | g | g
  · rw [h.eq j g]
  · subst g
    rw [h.at', h.at2]
    simp only [Option.bind_some, h.dst, h.dst']
  · rw [Array.getElem?_eq_none (by rw [h.sz']; omega), Array.getElem?_eq_none (by rw [h.sz]; omega)]
theorem LastOf.goes (h : LastOf md ops ops' m o o') {listed : Array Bool} (inv : HeadInv md ops m listed) : Region.ready md ops listed ≠ [] := by
  have hex : ∃ j, j ≤ m ∧ listed.getD j true = false := ⟨m, Nat.le_refl _, inv.tail m (Nat.le_refl _) (by rw [h.sz]; omega)⟩
  have key : ∀ d j, j = d → j ≤ m → listed.getD j true = false → ∃ k, k ∈ Region.ready md ops listed := by
    intro d
    induction d using Nat.strongRecOn with
    | _ d ih =>
      rintro j rfl hj hun
      by_cases hall : ∀ i, i < j → listed.getD i true = true
      · have hjs : j < ops.size := by rw [h.sz]; omega
        refine ⟨j, mem_ready.2 ⟨hun, ops[j], Array.getElem?_eq_getElem hjs, fun e he hb => ?_⟩⟩
        have h1 := List.all_eq_true.1 h.back j (List.mem_range.2 hjs)
        rw [Array.getElem?_eq_getElem hjs] at h1
        have h2 := Array.all_eq_true_iff_forall_mem.1 h1 e he
        rw [hb] at h2
        have h3 : e.on < j := by simpa using h2
        have h4 := hall e.on h3
        have h5 : e.on < listed.size := by rw [inv.size]; omega
        simp [h5] at h4 ⊢; exact h4
      · obtain ⟨i, hi⟩ := Classical.not_forall.1 hall
        obtain ⟨hij, hi⟩ := Classical.not_imp.1 hi
        exact ih i hij i rfl (by omega) (by simpa using hi)
  obtain ⟨j, hj, hun⟩ := hex
  obtain ⟨k, hk⟩ := key j j rfl hj hun
  exact List.ne_nil_of_mem hk
theorem LastOf.done (h : LastOf md ops ops' m o o') {listed : Array Bool} (inv : HeadInv md ops m listed) (hm : m ∈ Region.ready md ops listed) : Region.ready md ops (listed.setIfInBounds m true) = [] := by
  refine List.eq_nil_iff_forall_not_mem.2 fun k hk => ?_
  obtain ⟨h1, ok, hok, _⟩ := mem_ready.1 hk
  have hkm : k < m + 1 := by have := (Array.getElem?_eq_some_iff.1 hok).1; rw [h.sz] at this; exact this
  by_cases e : k = m
  · subst e
    have hs : k < listed.size := by rw [inv.size, h.sz]; omega
    simp [hs] at h1
  · rw [getD_set_ne true (fun g => e g.symm)] at h1
    exact tail_waits h.sink h.chain (by rw [h.sz]; omega) inv (m - k) k rfl (by omega) h1 m (Nat.le_refl _) hm
theorem any_done {Q' : Exit → Act → World → Prop} {listed : Array Bool} (hr : Region.ready md ops listed = []) {a : Act} {w : World} (h : Q' .normal a w) : ∀ fuel, wpAnyIn F n P md ops Q' fuel listed a w
  | 0 => ⟨hr, h⟩
  | fuel + 1 => ⟨fun _ => h, fun i hi => by rw [hr] at hi; cases hi⟩
theorem quietT_any {Q : Act → Prop} {Q' : Exit → Act → World → Prop} (hro : F.round = some lp) (hnd : noDefer ops.toList = true) (h : LastOf md ops ops' m o o') (hQ : ∀ a w, C w → Q a → o.wpIn F n P a w (fun a' w' => Q' .normal a' w') Q') :
    ∀ (fuel : Nat) (listed : Array Bool) (a : Act) (w : World), HeadInv md ops m listed → C w → wpAnyQIn F n P md ops' C Q fuel listed a → wpAnyIn F n P md ops Q' fuel listed a w
  | 0, listed, a, w, inv, hw, hh => by
    have h1 := hh.1
    rw [h.ready] at h1
    exact absurd h1 (h.goes inv)
  | fuel + 1, listed, a, w, inv, hw, hh => by
    refine ⟨fun h0 => absurd h0 (h.goes inv), fun i hi => ?_⟩
    have h2 := hh.2 i (by rw [h.ready]; exact hi)
    have him : i < m + 1 := by
      obtain ⟨_, oi, hoi, _⟩ := mem_ready.1 hi
      have := (Array.getElem?_eq_some_iff.1 hoi).1; rw [h.sz] at this; exact this
    by_cases e : i = m
    · subst e
      have hQa : Q a := by
        unfold qOpIn at h2
        simp only [h.at2] at h2
        obtain ⟨_, h2⟩ := h2
        have fin : ∀ a' : Act, a' = a → wpAnyQIn F n P md ops' C Q fuel (listed.setIfInBounds i true) a' → Q a := fun a' ea hf => by
          subst ea
          cases fuel with
          | zero => exact hf.2
          | succ f => exact hf.1 (by rw [h.ready]; exact h.done inv hi)
        split at h2
        · obtain ⟨v, _, h3⟩ := h2
          exact fin _ (by rw [h.dst']; rfl) h3
        · exact fin _ (by rw [h.dst']; rfl) h2
      unfold wpOpIn
      simp only [h.at']
      have hwant : Region.wanted o (yielded ops a.tmps) = true := by unfold Region.wanted; rw [h.guard]
      rw [hwant]
      exact Oper.wpIn_mono (fun a' w' g => any_done (h.done inv hi) g fuel) (hQ a w hw hQa)
    · have h3 : qOpIn F n P ops C i (wpAnyQIn F n P md ops' C Q fuel (listed.setIfInBounds i true)) a := by
        unfold qOpIn at h2 ⊢
        rw [h.eq i (by omega), h.yields] at h2
        exact h2
      exact quietR_at hro hnd hw (fun a' w' hw' hk => quietT_any hro hnd h hQ fuel _ a' w' (inv.set hi (by omega)) hw' hk) h3
theorem head_start (md : Region.Mode) (ops : Array Oper) (m : Nat) : HeadInv md ops m (Array.replicate ops.size false) :=
  ⟨by simp, fun j oj _ hl => (by rw [getD_replicate_false] at hl; cases hl), fun t _ ht => (by simp [ht])⟩
/-- such a region -/
theorem quietT_region {id : Nat} {Q : Exit → Act → World → Prop} {a : Act} {w : World} {l l' : List Oper} (hro : F.round = some lp) (hnd : noDefer l = true) (hm : P.follows .mixedOrders = true) (hB : Region.lexB .any l'.toArray = true) (hl : LastOf .any l.toArray l'.toArray m o o')
    (h : wpQuietIn F n P l'.toArray (fun w' => ∃ n, w' = w.drewN n) (fun a' => ∀ w', (∃ n, w' = w.drewN n) → o.wpIn F n P a' w' (fun a'' w'' => Q .normal a'' w'') Q) l' a) : (Code.region id l.toArray true).wpIn F n P Q a w := by
  simp only [Region.lexB, Bool.and_eq_true] at hB
  refine wpIn_region_any hm (quietT_any (C := fun w' => ∃ n, w' = w.drewN n) (Q := fun a' => ∀ w', (∃ n, w' = w.drewN n) → o.wpIn F n P a' w' (fun a'' w'' => Q .normal a'' w'') Q) hro hnd hl (fun _ w' hw' h => h w' hw') _ _ _ _ (head_start _ _ _) ⟨1, rfl⟩ ?_)
  have := wpAnyQIn_lex (F := F) (n := n) (C := fun w' => ∃ n, w' = w.drewN n) (md := .any) hB.1 l' 0 (Array.replicate l'.toArray.size false) a (by simp) (by simpa using hB.2) h
  have hs : l.toArray.size = l'.length := by have := hl.sz; have h2 := hl.sz'; simp at this h2 ⊢; omega
  rw [hs]
  simpa using this
def noop (o : Oper) : Oper := { o with op := .move (.const undef) }
theorem quietT_lit {id : Nat} {Q : Exit → Act → World → Prop} {a : Act} {w : World} {l : List Oper} (ho : l[m]? = some o) (hsz : l.length = m + 1) (hd : o.dst = none) (hg : o.guard = none) (hro : F.round = some lp) (hnd : noDefer l = true) (hm : P.follows .mixedOrders = true)
    (hB : Region.lexB .any (l.take m ++ [noop o]).toArray = true) (hs : Region.sinkB .any l.toArray m = true) (hc : Region.chainB .any l.toArray m = true) (hb : backB .any l.toArray = true)
    (h : wpQuietIn F n P (l.take m ++ [noop o]).toArray (fun w' => ∃ n, w' = w.drewN n) (fun a' => ∀ w', (∃ n, w' = w.drewN n) → o.wpIn F n P a' w' (fun a'' w'' => Q .normal a'' w'') Q) (l.take m ++ [noop o]) a) : (Code.region id l.toArray true).wpIn F n P Q a w := by
  have hlt : (l.take m).length = m := by rw [List.length_take, hsz]; omega
  refine quietT_region (m := m) (o := o) (o' := noop o) hro hnd hm hB ⟨by simp [hsz], by simp [hlt], fun i hi => ?_, by simpa using ho, ?_, rfl, hd, hd, hg, hs, hc, hb⟩ h
  · rw [List.getElem?_toArray, List.getElem?_toArray, List.getElem?_append_left (by rw [hlt]; exact hi), List.getElem?_take, if_pos hi]
  · rw [List.getElem?_toArray, List.getElem?_append_right (by rw [hlt]; exact Nat.le_refl _), hlt, Nat.sub_self]; rfl
end
end Go.Proofs.YtbldpojkpmafpaaGreatDoor
