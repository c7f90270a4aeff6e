/- slices.Sort at ints, by the shelf's theorem; on an owned slice. No conditions beyond sizes. -/
import Derived.Test.YtjijcjcfefkpbaaDoorIntS
import Derived.Shelf.Sort.Plain
import Derived.Shelf.Slices.In.SortNone
import Derived.Sort.OwnSortedInts
namespace Go.Proofs
open Go.Shelf
def Tryd.lays189_ren : Go.Shelf.Ren := ⟨fun | 189 => 42 | 125 => 56 | 257 => 55 | 128 => 69 | 129 => 70 | 294 => 60 | 295 => 61 | 296 => 62 | 297 => 63 | 298 => 64 | 299 => 65 | 216 => 66 | 300 => 67 | 301 => 68 | 328 => 76 | 329 => 77 | 330 => 78 | 331 => 79 | 332 => 80 | 215 => 81 | 343 => 86 | n => n, fun | 28 => 22 | 3 => 3 | 46 => 70 | 0 => 0 | 51 => 82 | 53 => 51 | 4 => 4 | 183 => 75 | 182 => 74 | 131 => 79 | 5 => 5 | 9 => 9 | 218 => 89 | 222 => 93 | 228 => 98 | 229 => 99 | n => n, fun | n => n⟩
theorem Tryd.lays189 : Go.Proofs.Lays.n189 Tryd.prog Tryd.lays189_ren := {
  mixed := by kernel_rfl
  f125 := Tryd.func56.trans (congrArg some (by kernel_rfl))
  f128 := Tryd.func69.trans (congrArg some (by kernel_rfl))
  f129 := Tryd.func70.trans (congrArg some (by kernel_rfl))
  f189 := Tryd.func42.trans (congrArg some (by kernel_rfl))
  f215 := Tryd.func81.trans (congrArg some (by kernel_rfl))
  f216 := Tryd.func66.trans (congrArg some (by kernel_rfl))
  f257 := Tryd.func55.trans (congrArg some (by kernel_rfl))
  f294 := Tryd.func60.trans (congrArg some (by kernel_rfl))
  f295 := Tryd.func61.trans (congrArg some (by kernel_rfl))
  f296 := Tryd.func62.trans (congrArg some (by kernel_rfl))
  f297 := Tryd.func63.trans (congrArg some (by kernel_rfl))
  f298 := Tryd.func64.trans (congrArg some (by kernel_rfl))
  f299 := Tryd.func65.trans (congrArg some (by kernel_rfl))
  f300 := Tryd.func67.trans (congrArg some (by kernel_rfl))
  f301 := Tryd.func68.trans (congrArg some (by kernel_rfl))
  f328 := Tryd.func76.trans (congrArg some (by kernel_rfl))
  f329 := Tryd.func77.trans (congrArg some (by kernel_rfl))
  f330 := Tryd.func78.trans (congrArg some (by kernel_rfl))
  f331 := Tryd.func79.trans (congrArg some (by kernel_rfl))
  f332 := Tryd.func80.trans (congrArg some (by kernel_rfl))
  f343 := Tryd.func86.trans (congrArg some (by kernel_rfl))
  t0 := Tryd.underlying0
  a0 := Tryd.isAgg0
  z0 := Tryd.sizeOf0
  v0 := Tryd.zeroValue0
  t3 := Tryd.underlying3
  a3 := Tryd.isAgg3
  z3 := Tryd.sizeOf3
  v3 := Tryd.zeroValue3
  t4 := Tryd.underlying4
  a4 := Tryd.isAgg4
  z4 := Tryd.sizeOf4
  v4 := Tryd.zeroValue4
  t5 := Tryd.underlying5
  a5 := Tryd.isAgg5
  z5 := Tryd.sizeOf5
  v5 := Tryd.zeroValue5
  t9 := Tryd.underlying9
  a9 := Tryd.isAgg9
  z9 := Tryd.sizeOf9
  v9 := Tryd.zeroValue9
  t28 := Tryd.underlying22
  a28 := Tryd.isAgg22
  z28 := Tryd.sizeOf22
  v28 := Tryd.zeroValue22
  t46 := Tryd.underlying70
  a46 := Tryd.isAgg70
  z46 := Tryd.sizeOf70
  v46 := Tryd.zeroValue70
  t51 := Tryd.underlying82
  a51 := Tryd.isAgg82
  z51 := Tryd.sizeOf82
  v51 := Tryd.zeroValue82
  t53 := Tryd.underlying51
  a53 := Tryd.isAgg51
  z53 := Tryd.sizeOf51
  v53 := Tryd.zeroValue51
  t131 := Tryd.underlying79
  a131 := Tryd.isAgg79
  z131 := Tryd.sizeOf79
  v131 := Tryd.zeroValue79
  t182 := Tryd.underlying74
  a182 := Tryd.isAgg74
  z182 := Tryd.sizeOf74
  v182 := Tryd.zeroValue74
  t183 := Tryd.underlying75
  a183 := Tryd.isAgg75
  z183 := Tryd.sizeOf75
  v183 := Tryd.zeroValue75
  t218 := Tryd.underlying89
  a218 := Tryd.isAgg89
  z218 := Tryd.sizeOf89
  v218 := Tryd.zeroValue89
  t222 := Tryd.underlying93
  a222 := Tryd.isAgg93
  z222 := Tryd.sizeOf93
  v222 := Tryd.zeroValue93
  t228 := Tryd.underlying98
  a228 := Tryd.isAgg98
  z228 := Tryd.sizeOf98
  v228 := Tryd.zeroValue98
  t229 := Tryd.underlying99
  a229 := Tryd.isAgg99
  z229 := Tryd.sizeOf99
  v229 := Tryd.zeroValue99 }

open Go.Sort Go.RowKit in
theorem YtjijcjcfefkpbaaDoor.sort_int (blk off cap : Nat) (zs : List Int) (w : World) (hH : Holds (Value.int .i64) w blk off zs.toArray) (hblk : blk < w.heap.size) (hsz : zs.length < 4611686018427387904) :
    Calls Tryd.prog 42 #[.slice (some ⟨blk, off, none⟩) zs.length cap] w fun e w' =>
      e = .returned (.tuple #[]) ∧ ∃ n os, w' = grow (putRow (Value.int .i64) (Sort.ahead w n) blk off (zs.mergeSort fun x y => decide (x ≤ y)).toArray) os := Any.slices_Sort_int Tryd.lays189 blk off cap zs w hH hblk hsz
end Go.Proofs
namespace Go.Proofs.YtjijcjcfefkpbaaDoor
open Go.RowKit
set_option linter.unusedVariables false
set_option linter.unusedSimpArgs false

/-- The list as it is sorted. -/
def sortL (xs : List Int) : List Int := xs.mergeSort fun x y => decide (x ≤ y)
theorem sortL_len (xs : List Int) : (sortL xs).length = xs.length := by simp [sortL]

theorem slices_Sort_own (v : Value) (zs : List Int) (B : Nat) (w : World) (h : OwnInts w B v zs) (hB : B ≤ w.heap.size) (hn : zs ≠ []) (hsz : zs.length ≤ 4000000) :
    Calls Tryd.prog 42 #[v] w fun e w' => e = .returned (.tuple #[]) ∧ OwnInts w' B v (sortL zs) ∧ w.grownBy w' v.ownBlock := by
  obtain ⟨hl, hh⟩ := h
  have hlen : (ints zs).length = zs.length := by simp
  rcases hh with ⟨_, h0⟩ | ⟨g, cap, cur, rfl, hg, hgg, h1, h2, h3, h4⟩
  · exact absurd (by simpa [ints] using h0) hn
  have hgs := (Array.getElem?_eq_some_iff.1 hgg).1
  refine (sort_int g 0 cap zs w (holds_of_blockI hgg (by simpa [ints] using h4)) hgs (by omega)).mono ?_
  rintro e w' ⟨rfl, n, os, rfl⟩
  refine ⟨rfl, ?_, ?_⟩
  · have := Go.ownsRow_sortedI (w := w) (base := B) (g := g) (cap := cap) (n := n) (e := 3) (os := os) (cur := cur) (ss := zs) (ts := sortL zs) (sortL_len zs) hg hgg h1 h2 h3
    unfold OwnInts OwnI
    rw [sortL_len]
    exact this
  · exact grownBy_sortedI _

end Go.Proofs.YtjijcjcfefkpbaaDoor
