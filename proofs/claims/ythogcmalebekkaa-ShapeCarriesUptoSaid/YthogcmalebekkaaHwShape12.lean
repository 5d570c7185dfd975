import Derived.Test.YthogcmalebekkaaHwShape11
set_option linter.unusedVariables false
set_option linter.unusedSimpArgs false
namespace Go.Hw.VR
open Go Go.Proofs

theorem each {α β : Type} (ps : List α) (P : α → β → Prop) (h : ∀ a ∈ ps, ∃ b, P a b) : ∃ bs : List β, bs.length = ps.length ∧ ∀ (i : Nat) (a : α), ps[i]? = some a → ∃ b, bs[i]? = some b ∧ P a b := by
  induction ps with
  | nil => exact ⟨[], rfl, fun i a h => by simp at h⟩
  | cons a ps ih =>
    obtain ⟨b, hb⟩ := h a (by simp)
    obtain ⟨bs, h1, h2⟩ := ih (fun x hx => h x (by simp [hx]))
    refine ⟨b :: bs, by simp [h1], fun i x hx => ?_⟩
    cases i with
    | zero => simp at hx; subst hx; exact ⟨b, rfl, hb⟩
    | succ i => exact h2 i x (by simpa using hx)

end Go.Hw.VR

