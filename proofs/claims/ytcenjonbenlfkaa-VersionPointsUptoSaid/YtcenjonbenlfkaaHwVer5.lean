import Derived.Test.YtcenjonbenlfkaaHwVer4
set_option linter.unusedVariables false
namespace Go.Hw.VD
open Go Go.Proofs
abbrev B64 (n : Int) : Prop := IntKind.i64.min ≤ n ∧ n ≤ IntKind.i64.max
theorem r64_of {n : Int} (h : B64 n) : R64 n := by
  have h1 : IntKind.i64.min = -9223372036854775808 := by decide
  have h2 : IntKind.i64.max = 9223372036854775807 := by decide
  unfold B64 at h
  rw [h1, h2] at h
  exact h
theorem points_call (l m : List R) (v : Int) (h1 : ∀ r ∈ l, B64 r.Low ∧ B64 r.High) (h2 : l.length < 2 ^ 62) (h3 : ∀ r ∈ m, B64 r.Low ∧ B64 r.High) (h4 : m.length < 2 ^ 62) (h5 : B64 v) : sp5 l m v true :=
  ok5 l m v true (w5_true (fun r hr => ⟨r64_of (h1 r hr).1, r64_of (h1 r hr).2⟩) h2 (fun r hr => ⟨r64_of (h3 r hr).1, r64_of (h3 r hr).2⟩) h4 (r64_of h5))
end Go.Hw.VD

