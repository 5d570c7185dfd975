import Derived.Test.YthogcmalebekkaaHwShape1
set_option linter.unusedVariables false
set_option linter.unusedSimpArgs false
namespace Go.Hw.VR
open Go Go.Proofs

theorem sel_ne : ∀ b : _root_.Fin 511, (sel ((b.val : Int) + 1)).2.length ≠ 0 := by decide +kernel
inductive CT where
  | int | bool | text | unit | D | L (t : CT) | E | cell (t : CT)
def CT.ty : CT → Ty
  | .int => tOne 1 | .bool => tOne 2 | .text => tOne 3 | .unit => tOne 4
  | .D => tD | .L t => tL t.ty | .E => tE | .cell t => tC t.ty
def c9 : List CT := [.int, .bool, .text, .unit, .D, .L .int, .L (.L .D), .E, .cell .D]
theorem t9_c9 : t9 = c9.map CT.ty := rfl
def ctOf (k : Int) : CT := if k = 1 then .int else .bool
end Go.Hw.VR

