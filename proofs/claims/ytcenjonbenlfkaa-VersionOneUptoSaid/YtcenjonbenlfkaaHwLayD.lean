import Derived.Shelf.Spec.SlicesGrow
import Derived.Test.YtcenjonbenlfkaaHwSort
import Derived.Test.YtcenjonbenlfkaaHwD1
set_option linter.unusedVariables false
set_option linter.unusedSimpArgs false
namespace Go.Hw.VD
open Go Go.Proofs
def sρ : _root_.Go.Shelf.Ren := ⟨fun k => if k = 6 then 26 else if k = 14 then 43 else if k = 15 then 44 else if k = 20 then 53 else if k = 21 then 54 else if k = 22 then 55 else if k = 23 then 56 else if k = 24 then 57 else if k = 25 then 58 else if k = 26 then 59 else if k = 27 then 60 else if k = 28 then 61 else if k = 29 then 62 else if k = 46 then 72 else if k = 47 then 73 else if k = 48 then 74 else if k = 49 then 75 else if k = 50 then 76 else if k = 57 then 80 else k, fun k => if k = 24 then 31 else if k = 25 then 54 else if k = 39 then 81 else if k = 45 then 90 else if k = 46 then 91 else if k = 50 then 95 else if k = 53 then 98 else if k = 55 then 100 else if k = 66 then 109 else if k = 70 then 113 else if k = 76 then 117 else if k = 77 then 118 else k, fun k => k⟩
theorem sL : SlLaysF0.n6 Try.prog sρ where
  mixed := by kernel_rfl
  f6 := ⟨"slices.SortFunc[[]roadstead/version.Range,roadstead/version.Range]", by decide, by kernel_rfl⟩
  f14 := ⟨"slices.pdqsortCmpFunc[roadstead/version.Range]", by decide, by kernel_rfl⟩
  f15 := by kernel_rfl
  f20 := ⟨"slices.insertionSortCmpFunc[roadstead/version.Range]", by decide, by kernel_rfl⟩
  f21 := ⟨"slices.heapSortCmpFunc[roadstead/version.Range]", by decide, by kernel_rfl⟩
  f22 := ⟨"slices.breakPatternsCmpFunc[roadstead/version.Range]", by decide, by kernel_rfl⟩
  f23 := ⟨"slices.choosePivotCmpFunc[roadstead/version.Range]", by decide, by kernel_rfl⟩
  f24 := ⟨"slices.reverseRangeCmpFunc[roadstead/version.Range]", by decide, by kernel_rfl⟩
  f25 := ⟨"slices.partialInsertionSortCmpFunc[roadstead/version.Range]", by decide, by kernel_rfl⟩
  f26 := ⟨"slices.partitionEqualCmpFunc[roadstead/version.Range]", by decide, by kernel_rfl⟩
  f27 := ⟨"slices.partitionCmpFunc[roadstead/version.Range]", by decide, by kernel_rfl⟩
  f28 := by kernel_rfl
  f29 := by kernel_rfl
  f46 := ⟨"slices.siftDownCmpFunc[roadstead/version.Range]", by decide, by kernel_rfl⟩
  f47 := by kernel_rfl
  f48 := by kernel_rfl
  f49 := ⟨"slices.medianAdjacentCmpFunc[roadstead/version.Range]", by decide, by kernel_rfl⟩
  f50 := ⟨"slices.medianCmpFunc[roadstead/version.Range]", by decide, by kernel_rfl⟩
  f57 := ⟨"slices.order2CmpFunc[roadstead/version.Range]", by decide, by kernel_rfl⟩
  t0 := by kernel_rfl
  a0 := fun w => by kernel_rfl
  z0 := fun w => by kernel_rfl
  v0 := fun w => by kernel_rfl
  t3 := by kernel_rfl
  a3 := fun w => by kernel_rfl
  z3 := fun w => by kernel_rfl
  v3 := fun w => by kernel_rfl
  t4 := by kernel_rfl
  a4 := fun w => by kernel_rfl
  z4 := fun w => by kernel_rfl
  v4 := fun w => by kernel_rfl
  t5 := by kernel_rfl
  a5 := fun w => by kernel_rfl
  z5 := fun w => by kernel_rfl
  v5 := fun w => by kernel_rfl
  t9 := by kernel_rfl
  a9 := fun w => by kernel_rfl
  z9 := fun w => by kernel_rfl
  v9 := fun w => by kernel_rfl
  t22 := by kernel_rfl
  a22 := fun w => by kernel_rfl
  z22 := fun w => by kernel_rfl
  v22 := fun w => by kernel_rfl
  t25 := by kernel_rfl
  a25 := fun w => by kernel_rfl
  z25 := fun w => by kernel_rfl
  v25 := fun w => by kernel_rfl
  t39 := by kernel_rfl
  a39 := fun w => by kernel_rfl
  z39 := fun w => by kernel_rfl
  v39 := fun w => by kernel_rfl
  t45 := by kernel_rfl
  a45 := fun w => by kernel_rfl
  z45 := fun w => by kernel_rfl
  v45 := fun w => by kernel_rfl
  t46 := by kernel_rfl
  a46 := fun w => by kernel_rfl
  z46 := fun w => by kernel_rfl
  v46 := fun w => by kernel_rfl
  t50 := by kernel_rfl
  a50 := fun w => by kernel_rfl
  z50 := fun w => by kernel_rfl
  v50 := fun w => by kernel_rfl
  t53 := by kernel_rfl
  a53 := fun w => by kernel_rfl
  z53 := fun w => by kernel_rfl
  v53 := fun w => by kernel_rfl
  t55 := by kernel_rfl
  a55 := fun w => by kernel_rfl
  z55 := fun w => by kernel_rfl
  v55 := fun w => by kernel_rfl
  t66 := by kernel_rfl
  a66 := fun w => by kernel_rfl
  z66 := fun w => by kernel_rfl
  v66 := fun w => by kernel_rfl
  t70 := by kernel_rfl
  a70 := fun w => by kernel_rfl
  z70 := fun w => by kernel_rfl
  v70 := fun w => by kernel_rfl
  t76 := by kernel_rfl
  a76 := fun w => by kernel_rfl
  z76 := fun w => by kernel_rfl
  v76 := fun w => by kernel_rfl
  t77 := by kernel_rfl
  a77 := fun w => by kernel_rfl
  z77 := fun w => by kernel_rfl
  v77 := fun w => by kernel_rfl
def gρ : _root_.Go.Shelf.Ren := ⟨fun k => if k = 4 then 42 else k, fun k => if k = 25 then 31 else k, fun k => k⟩
theorem gL : Lays8.n4 Try.prog gρ where
  mixed := by kernel_rfl
  f4 := ⟨"slices.Grow[[]roadstead/version.Range,roadstead/version.Range]", by decide, by kernel_rfl⟩
  t0 := by kernel_rfl
  a0 := fun w => by kernel_rfl
  z0 := fun w => by kernel_rfl
  v0 := fun w => by kernel_rfl
  t3 := by kernel_rfl
  a3 := fun w => by kernel_rfl
  z3 := fun w => by kernel_rfl
  v3 := fun w => by kernel_rfl
  t4 := by kernel_rfl
  a4 := fun w => by kernel_rfl
  z4 := fun w => by kernel_rfl
  v4 := fun w => by kernel_rfl
  t9 := by kernel_rfl
  a9 := fun w => by kernel_rfl
  z9 := fun w => by kernel_rfl
  v9 := fun w => by kernel_rfl
  t20 := by kernel_rfl
  a20 := fun w => by kernel_rfl
  z20 := fun w => by kernel_rfl
  v20 := fun w => by kernel_rfl
  t22 := by kernel_rfl
  a22 := fun w => by kernel_rfl
  z22 := fun w => by kernel_rfl
  v22 := fun w => by kernel_rfl
end Go.Hw.VD

