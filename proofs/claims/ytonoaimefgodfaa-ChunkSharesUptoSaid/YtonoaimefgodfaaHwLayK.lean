import Derived.Shelf.Bytes.IndexByte
import Derived.Test.YtonoaimefgodfaaHwK1
set_option linter.unusedVariables false
set_option linter.unusedSimpArgs false
namespace Go.Hw.VC
open Go Go.Proofs
def iρ : _root_.Go.Shelf.Ren := ⟨fun k => if k = 187 then 51 else if k = 255 then 64 else k, fun k => if k = 37 then 23 else k, fun k => k⟩
theorem iL : Lays.n187 Try.prog iρ where
  mixed := by kernel_rfl
  f187 := by kernel_rfl
  f255 := by kernel_rfl
  t3 := by kernel_rfl
  a3 := fun w => by kernel_rfl
  z3 := fun w => by kernel_rfl
  v3 := fun w => by kernel_rfl
  t5 := by kernel_rfl
  a5 := fun w => by kernel_rfl
  z5 := fun w => by kernel_rfl
  v5 := fun w => by kernel_rfl
  t37 := by kernel_rfl
  a37 := fun w => by kernel_rfl
  z37 := fun w => by kernel_rfl
  v37 := fun w => by kernel_rfl
end Go.Hw.VC

