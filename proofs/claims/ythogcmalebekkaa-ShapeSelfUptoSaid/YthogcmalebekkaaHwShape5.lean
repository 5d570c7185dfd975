import Derived.Test.YthogcmalebekkaaHwShape4
set_option linter.unusedVariables false
set_option linter.unusedSimpArgs false
namespace Go.Hw.VR
open Go Go.Proofs

mutual
def okV (k : Int) (z : Bool) : Vl → CT → Bool
  | ⟨kd, num, tx, vs⟩, τ => kd == kindOf τ && (match partsOf k z τ tx with
    | none => false
    | some ps => okVs k z vs ps)
def okVs (k : Int) (z : Bool) : List Vl → List CT → Bool
  | [], [] => true
  | v :: vs, τ :: ps => okV k z v τ && okVs k z vs ps
  | _, _ => false
end
theorem okV_eq (k : Int) (z : Bool) (v : Vl) (τ : CT) : okV k z v τ = (v.Kind == kindOf τ && (match partsOf k z τ v.Text with | none => false | some ps => okVs k z v.Args ps)) := by
  obtain ⟨kd, num, tx, vs⟩ := v
  rw [okV]
end Go.Hw.VR

