import Derived.Test.YthogcmalebekkaaHwShape3
set_option linter.unusedVariables false
set_option linter.unusedSimpArgs false
namespace Go.Hw.VR
open Go Go.Proofs

def partsOf (k : Int) (z : Bool) : CT → List UInt8 → Option (List CT)
  | .D, s => if s = [88] then some [.D] else if s = [89] then some [ctOf k] else if s = [90] then some [] else none
  | .L t, s => if s = [78] then some (if z then [.D] else []) else if s = [67] then some [t, .L t] else none
  | .E, s => if s = [87] then some [.L .D, .text] else none
  | .cell t, _ => some [t]
  | _, _ => some []
def kindOf : CT → Int
  | .int => 2 | .bool => 3 | .text => 4 | .unit => 1 | .D => 5 | .L _ => 5 | .E => 5 | .cell _ => 8
inductive Dens : List Bd → List CT → Prop
  | nil : Dens [] []
  | cons {b τ l m} (h : Den b τ) (t : Dens l m) : Dens (b :: l) (τ :: m)
end Go.Hw.VR

