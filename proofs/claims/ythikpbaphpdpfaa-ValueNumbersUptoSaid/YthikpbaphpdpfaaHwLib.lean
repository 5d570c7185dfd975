/- Small facts for proofs over the small code. -/
import Derived.Test.YthikpbaphpdpfaaHwCode2
set_option linter.unusedVariables false
set_option linter.unusedSimpArgs false
namespace Go.Hw
open Go

/-! ### bytes -/
theorem bytesOf_length (s : List UInt8) : (bytesOf s).length = s.length := by simp [bytesOf]
theorem bytesOf_nil : bytesOf [] = [] := rfl
theorem bytesOf_eq_nil (s : List UInt8) : bytesOf s = [] ↔ s = [] := by simp [bytesOf]
theorem bytesOf_append (a b : List UInt8) : bytesOf a ++ bytesOf b = bytesOf (a ++ b) := by simp [bytesOf]
theorem bytesOf_take (s : List UInt8) (n : Nat) : (bytesOf s).take n = bytesOf (s.take n) := by simp [bytesOf]
theorem bytesOf_drop (s : List UInt8) (n : Nat) : (bytesOf s).drop n = bytesOf (s.drop n) := by simp [bytesOf]
theorem bytesOf_strip (s : List UInt8) : (bytesOf s).map HV.strip1 = bytesOf s := by
  simp only [bytesOf, List.map_map]
  rfl
theorem bytesOf_cells (s : List UInt8) : ∀ y ∈ bytesOf s, y.cells.length = 1 := by
  intro y hy
  simp only [bytesOf, List.mem_map] at hy
  obtain ⟨c, _, rfl⟩ := hy
  rfl
theorem bytesOf_tuple (s : List UInt8) : ∀ y ∈ bytesOf s, isTuple y = false := by
  intro y hy
  simp only [bytesOf, List.mem_map] at hy
  obtain ⟨c, _, rfl⟩ := hy
  rfl
theorem bytesOf_get (s : List UInt8) (n : Nat) (h : n < s.length) : (bytesOf s)[n]? = some (.int .u8 (s[n]).toNat) := by simp [bytesOf, h]
theorem bytesOf_is (s : List UInt8) : isBytes (bytesOf s) := by
  intro y hy
  simp only [bytesOf, List.mem_map] at hy
  obtain ⟨c, _, rfl⟩ := hy
  exact ⟨_, rfl⟩
theorem strOf_bytesOf (s : List UInt8) : strOf (bytesOf s) = s := by
  simp only [strOf, bytesOf, List.map_map]
  conv => rhs; rw [← List.map_id s]
  apply List.map_congr_left
  intro c _
  simp
theorem pv_bytesOf (s : List UInt8) (tok : Tok) (ht : ∀ k o z, tok ≠ .own k o z) : PV (.list (bytesOf s) tok) := by
  refine .list _ _ ht fun x hx => ?_
  rw [flat_bytesOf] at hx
  simp only [bytesOf, List.mem_map] at hx
  obtain ⟨c, _, rfl⟩ := hx
  exact .int _ _
/-- Bytes as a pure slice. -/
abbrev eB (s : List UInt8) : HV := .list (bytesOf s) .none
theorem pv_eB (s : List UInt8) : PV (eB s) := pv_bytesOf s .none (by simp)

/-! ### whole numbers -/
theorem wrap64_of {n : Int} (h0 : -9223372036854775808 ≤ n) (h1 : n ≤ 9223372036854775807) : IntKind.i64.wrap n = n := by
  simp only [IntKind.wrap, IntKind.bits, IntKind.signed, Bool.true_and, decide_eq_true_eq, Nat.reduceSub, Int.reducePow, ge_iff_le]
  split <;> omega

end Go.Hw
