import Derived.Test.YtphdkcgchcogdaaHwSolve6
import Derived.Test.YtphdkcgchcogdaaHwS2
set_option linter.unusedVariables false
set_option linter.unusedSimpArgs false
namespace Go.Hw.VE
open Go Go.Proofs Go.Shelf

structure First (reg : List Md) (root : List Us) (P : List Pk) (W : List Us) : Prop where
  F : Fnd reg root P W
  B : Bnd Nm5 P W
  N : ∀ p ∈ P, p.Name ∈ Nm5
theorem First.step {reg : List Md} {root : List Us} {P : List Pk} {W : List Us} {f : List Pk} (R : Reg Nm5 reg f) (h : First reg root P W) (hn : nextB W P ≠ []) {m : Md} (hm : m ∈ reg) (hmn : m.Name = nextB W P) (hr : rightF (W ++ m.Uses) (P ++ [⟨nextB W P, m.Version⟩]) = true) :
    First reg root (P ++ [⟨nextB W P, m.Version⟩]) (W ++ m.Uses) := by
  obtain ⟨⟨u, hu, hun⟩, hP⟩ := nextB_mem hn
  refine ⟨h.F.step hn hm hmn hr, (Bnd.step R h.B hn (hmn ▸ vers_of hm)).1, fun p hp => ?_⟩
  rcases List.mem_append.1 hp with hp | hp
  · exact h.N p hp
  · obtain rfl : p = (⟨nextB W P, m.Version⟩ : Pk) := by simpa using hp
    exact hun ▸ h.B.nm u hu
theorem cnt5 (P : List Pk) : cnt Nm5 P ≤ 5 := by
  unfold cnt
  exact List.length_filter_le _ _
theorem best_cases (reg : List Md) (f : List Pk) (root : List Us) : (∃ P W, runF reg f 14 [] root = some (P, W) ∧ bestF reg f root = (isort ltP P, 0)) ∨ (runF reg f 14 [] root = none ∧ bestF reg f root = ([], 22)) := by
  cases h : runF reg f 14 [] root with
  | none => exact .inr ⟨rfl, by simp only [bestF, h]⟩
  | some q =>
    obtain ⟨P, W⟩ := q
    exact .inl ⟨P, W, rfl, by simp only [bestF, h]⟩
theorem best_some {reg : List Md} {f : List Pk} {root : List Us} (R : Reg Nm5 reg f) (hB : Bnd Nm5 [] root) {S : List Pk} (hS : Sel reg root S) : ∃ P W, runF reg f 14 [] root = some (P, W) ∧ bestF reg f root = (isort ltP P, 0) := by
  rcases best_cases reg f root with h | ⟨h, _⟩
  · exact h
  · have := cnt5 []
    exact absurd h (complete R hS 14 [] root hB (by omega) nofun hS.root)
end Go.Hw.VE

