import Derived.Shelf.Strings.Search3
import Derived.Shelf.Bytes.IndexByte
import Derived.Test.YtonoaimefgodfaaHwC1
set_option linter.unusedVariables false
set_option linter.unusedSimpArgs false
namespace Go.Hw.VC
open Go Go.Proofs
def cρ : _root_.Go.Shelf.Ren := ⟨fun k => if k = 144 then 26 else if k = 143 then 52 else if k = 217 then 77 else if k = 219 then 65 else if k = 224 then 79 else if k = 225 then 78 else if k = 266 then 85 else if k = 267 then 80 else if k = 314 then 86 else k, fun k => if k = 46 then 100 else if k = 51 then 175 else if k = 146 then 176 else k, fun k => if k = 1 then 0 else k⟩
theorem cL : Lays.n144 Try.prog cρ where
  mixed := by kernel_rfl
  f143 := by kernel_rfl
  f144 := by kernel_rfl
  f217 := by kernel_rfl
  f219 := by kernel_rfl
  f224 := by kernel_rfl
  f225 := by kernel_rfl
  f266 := by kernel_rfl
  f267 := by kernel_rfl
  f314 := by kernel_rfl
  t3 := by kernel_rfl
  a3 := fun w => by kernel_rfl
  z3 := fun w => by kernel_rfl
  v3 := fun w => by kernel_rfl
  t4 := by kernel_rfl
  a4 := fun w => by kernel_rfl
  z4 := fun w => by kernel_rfl
  v4 := fun w => by kernel_rfl
  t5 := by kernel_rfl
  a5 := fun w => by kernel_rfl
  z5 := fun w => by kernel_rfl
  v5 := fun w => by kernel_rfl
  t9 := by kernel_rfl
  a9 := fun w => by kernel_rfl
  z9 := fun w => by kernel_rfl
  v9 := fun w => by kernel_rfl
  t46 := by kernel_rfl
  a46 := fun w => by kernel_rfl
  z46 := fun w => by kernel_rfl
  v46 := fun w => by kernel_rfl
  t51 := by kernel_rfl
  a51 := fun w => by kernel_rfl
  z51 := fun w => by kernel_rfl
  v51 := fun w => by kernel_rfl
  t146 := by kernel_rfl
  a146 := fun w => by kernel_rfl
  z146 := fun w => by kernel_rfl
  v146 := fun w => by kernel_rfl
  g1 := by kernel_rfl
def iρ : _root_.Go.Shelf.Ren := ⟨fun k => if k = 187 then 51 else if k = 255 then 64 else k, fun k => if k = 37 then 23 else k, fun k => k⟩
theorem iL : Lays.n187 Try.prog iρ where
  mixed := by kernel_rfl
  f187 := by kernel_rfl
  f255 := by kernel_rfl
  t3 := by kernel_rfl
  a3 := fun w => by kernel_rfl
  z3 := fun w => by kernel_rfl
  v3 := fun w => by kernel_rfl
  t5 := by kernel_rfl
  a5 := fun w => by kernel_rfl
  z5 := fun w => by kernel_rfl
  v5 := fun w => by kernel_rfl
  t37 := by kernel_rfl
  a37 := fun w => by kernel_rfl
  z37 := fun w => by kernel_rfl
  v37 := fun w => by kernel_rfl
end Go.Hw.VC

