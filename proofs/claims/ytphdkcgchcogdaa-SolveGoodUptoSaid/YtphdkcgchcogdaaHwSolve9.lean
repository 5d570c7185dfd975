import Derived.Test.YtphdkcgchcogdaaHwSolve8
set_option linter.unusedVariables false
set_option linter.unusedSimpArgs false
namespace Go.Hw.VE
open Go Go.Proofs Go.Shelf

theorem Asc.uq {l : List Pk} (h : Asc l) : Uq l := h.imp fun hab e => by rw [e] at hab; exact Nat.lt_irrefl _ hab
theorem s4 (l m : List Int) (hl : l.length ≤ 9223372036854775807) (hm : m.length ≤ 9223372036854775807) (hr : ∀ x ∈ l, R64 x) (hr' : ∀ x ∈ m, R64 x) : sp4 l m true := by
  refine ok4 _ _ _ ?_
  unfold w4
  obtain ⟨u, hu, hul, huo⟩ := s9 m hm hr'
  have hA := regF_at l 20 (by decide)
  have hB := root_bnd hul huo
  refine ⟨_, s8 l hl hr, u, hu, _, s10' hA hul huo [] (by decide), true, s13, ⟨fun h => (by cases h), fun _ => ⟨0, hA.check, fun h => absurd rfl h, fun _ => ?_⟩⟩⟩
  generalize regF l 20 = r at hA
  rcases best_cases r [] u with ⟨P, W, h1, h2⟩ | ⟨h1, h2⟩
  · rw [h2]
    refine ⟨fun h => absurd rfl h, fun _ => ?_⟩
    obtain ⟨hF, h0⟩ := run_first (hA.reg [] (by decide)) hB h1
    have hS := hF.sel h0
    have hPl : P.length ≤ 12 := by have := hF.B.cn; omega
    have hxl : (isort ltP P).length ≤ 12 := by rw [isort_len]; exact hPl
    have hag := best_again hA.uqR (hA.reg _ (by omega)) hB hF h0
    have hmem : ∀ p, p ∈ isort ltP P ↔ p ∈ P := fun p => (isort_perm P).mem_iff
    have hN : ∀ p ∈ isort ltP P, p.Name ∈ Nm5 := fun p hp => hF.N p ((hmem p).1 hp)
    have hasc := asc_sort hF.N hF.F.uq
    have h9 : sp10 r u (isort ltP P) (isort ltP P, 0) := by
      have := s10' hA hul huo (isort ltP P) (by omega)
      rwa [hag] at this
    have h10 := s16 hA hul huo (by omega : (isort ltP P).length ≤ 1000) hN hasc
    rw [sel_right hA.uqR hasc.uq hS hmem hF.F.rch hA hul hN] at h10
    exact ⟨_, h9, true, h10, fun _ => ⟨fun _ => ⟨_, s14 _ _ (by dsimp only; omega), by simp⟩, fun h => absurd rfl h⟩, fun h => by cases h⟩
  · rw [h2]
    refine ⟨fun _ => ⟨fun _ => ?_, fun h => absurd rfl h⟩, fun h => by simp at h⟩
    rintro _ rfl
    rfl
end Go.Hw.VE

