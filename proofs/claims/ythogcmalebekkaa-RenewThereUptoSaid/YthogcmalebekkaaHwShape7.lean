import Derived.Test.YthogcmalebekkaaHwShape6
set_option linter.unusedVariables false
set_option linter.unusedSimpArgs false
namespace Go.Hw.VR
open Go Go.Proofs

def rank : CT → Nat
  | .E => 3 | .cell _ => 2 | .L _ => 1 | _ => 0
inductive Low : CT → Prop
  | int : Low .int | bool : Low .bool | text : Low .text | unit : Low .unit | D : Low .D | E : Low .E
  | L (t) (h : Low t) : Low (.L t)
  | cellD : Low (.cell .D)
theorem low9 : ∀ τ ∈ c9, Low τ := by
  intro τ h
  simp [c9] at h
  rcases h with rfl | rfl | rfl | rfl | rfl | rfl | rfl | rfl | rfl
  · exact .int
  · exact .bool
  · exact .text
  · exact .unit
  · exact .D
  · exact .L _ .int
  · exact .L _ (.L _ .D)
  · exact .E
  · exact .cellD
def far (deep : Int) (τ : CT) : Nat := if 5 < deep then rank τ else (6 - deep).toNat + 10

theorem parts_loop {k : Int} {z : Bool} (ps : List CT) (P : CT → Vl → Prop) (h : ∀ τ ∈ ps, ∃ v, P τ v ∧ okV k z v τ = true) : ∃ vs : List Vl, vs.length = ps.length ∧ okVs k z vs ps = true ∧ ∀ (i : Nat) (τ : CT), ps[i]? = some τ → ∃ v, vs[i]? = some v ∧ P τ v := by
  induction ps with
  | nil => exact ⟨[], rfl, by rw [okVs], fun i τ h => by simp at h⟩
  | cons τ ps ih =>
    obtain ⟨v, h1, h2⟩ := h τ (by simp)
    obtain ⟨vs, g1, g2, g3⟩ := ih (fun t ht => h t (by simp [ht]))
    refine ⟨v :: vs, by simp [g1], by rw [okVs, h2, g2]; rfl, fun i t ht => ?_⟩
    cases i with
    | zero => simp at ht; subst ht; exact ⟨v, rfl, h1⟩
    | succ i => exact g3 i t (by simpa using ht)
end Go.Hw.VR

