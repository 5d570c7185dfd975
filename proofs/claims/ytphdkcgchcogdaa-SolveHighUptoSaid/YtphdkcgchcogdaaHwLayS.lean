import Derived.Shelf.Small.Strs
import Derived.Test.YtphdkcgchcogdaaHwSolve1
set_option linter.unusedVariables false
set_option linter.unusedSimpArgs false
namespace Go.Hw.VE
open Go Go.Proofs
def pρ : _root_.Go.Shelf.Ren := ⟨fun k => if k = 106 then 25 else if k = 213 then 42 else if k = 265 then 76 else k, fun k => k, fun k => k⟩
theorem pL : Lays.n106 Try.prog pρ where
  mixed := by kernel_rfl
  f106 := by kernel_rfl
  f213 := by kernel_rfl
  f265 := by kernel_rfl
  t3 := by kernel_rfl
  a3 := fun w => by kernel_rfl
  z3 := fun w => by kernel_rfl
  v3 := fun w => by kernel_rfl
  t9 := by kernel_rfl
  a9 := fun w => by kernel_rfl
  z9 := fun w => by kernel_rfl
  v9 := fun w => by kernel_rfl
theorem s25 (a b : List UInt8) : sp25 a b (cmpS a b) := by
  refine ⟨fun x hx => ?_, .int _ _, ⟨⟨_, Try.func25, rfl, by decide⟩, fun K w vs hh hl hv => ?_⟩⟩
  · simp only [List.mem_cons, List.not_mem_nil, or_false] at hx
    rcases hx with rfl | rfl <;> exact .str _
  · obtain ⟨u, v, rfl⟩ : ∃ u v, vs = [u, v] := by
      match vs, hl with
      | [u, v], _ => exact ⟨u, v, rfl⟩
    have h0 := hv 0 _ u rfl rfl
    have h1 := hv 1 _ v rfl rfl
    cases h0
    cases h1
    refine (Any.strings_Compare pL ⟨a.toArray⟩ ⟨b.toArray⟩ w).mono ?_
    rintro en w' ⟨rfl, rfl⟩
    exact ⟨_, _, K, [], rfl, .refl K _, hh, .int _ _, rfl⟩
end Go.Hw.VE

