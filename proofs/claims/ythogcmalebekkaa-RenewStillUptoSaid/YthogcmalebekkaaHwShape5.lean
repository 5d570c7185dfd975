import Derived.Test.YthogcmalebekkaaHwShape4
set_option linter.unusedVariables false
set_option linter.unusedSimpArgs false
namespace Go.Hw.VR
open Go Go.Proofs

mutual
def okV (k : Int) (z : Bool) : Vl → CT → Bool
  | ⟨kd, num, tx, vs⟩, τ => kd == kindOf τ && (match partsOf k z τ tx with
    | none => false
    | some ps => okVs k z vs ps)
def okVs (k : Int) (z : Bool) : List Vl → List CT → Bool
  | [], [] => true
  | v :: vs, τ :: ps => okV k z v τ && okVs k z vs ps
  | _, _ => false
end
theorem okV_eq (k : Int) (z : Bool) (v : Vl) (τ : CT) : okV k z v τ = (v.Kind == kindOf τ && (match partsOf k z τ v.Text with | none => false | some ps => okVs k z v.Args ps)) := by
  obtain ⟨kd, num, tx, vs⟩ := v
  rw [okV]
theorem okVs_good (k : Int) (z : Bool) : ∀ (vs : List Vl) (ps : List CT), vs.length = ps.length → (∀ (i : Nat) (v : Vl) (τ : CT), vs[i]? = some v → ps[i]? = some τ → okV k z v τ = true) → okVs k z vs ps = true
  | [], [], _, _ => by rw [okVs]
  | [], _ :: _, h, _ => by simp at h
  | _ :: _, [], h, _ => by simp at h
  | v :: vs, τ :: ps, h, hi => by
    rw [okVs, hi 0 v τ rfl rfl, okVs_good k z vs ps (by simpa using h) (fun i a t h1 h2 => hi (i + 1) a t (by simpa using h1) (by simpa using h2)), Bool.and_self]

end Go.Hw.VR

