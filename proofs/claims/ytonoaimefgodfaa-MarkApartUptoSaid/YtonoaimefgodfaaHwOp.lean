import Derived.Test.YtonoaimefgodfaaHwF2
set_option linter.unusedVariables false
set_option linter.unusedSimpArgs false
namespace Go.Hw
open Go
variable {P : Program} {N m : Nat} {S D : CallP} {b : Nat} {r : List Op} {e e' : Env} {h h' : Heap} {Q : Env → Heap → Prop} {d : Nat} {x y z : X}

theorem st_eqp {neg c : Bool} {u v : HV} (hx : x.ev e = some u) (hy : y.ev e = some v) (h2 : eqsOk .ptr u v) (ht : ∀ t, HV.eqs u v t → (if neg then !t else t) = c) (k : HO S b r ((d, .bool c) :: e) h Q) : HO S b (⟨some d, .op (.eqv neg .ptr x y), none⟩ :: r) e h Q :=
  st_eqv hx hy (by simp) h2 fun t h => by rw [ht t h]; exact k
end Go.Hw

