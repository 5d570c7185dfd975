import Derived.Test.YtcenjonbenlfkaaHwVer4
set_option linter.unusedVariables false
namespace Go.Hw.VD
open Go Go.Proofs
abbrev B64 (n : Int) : Prop := IntKind.i64.min ≤ n ∧ n ≤ IntKind.i64.max
theorem r64_of {n : Int} (h : B64 n) : R64 n := by
  have h1 : IntKind.i64.min = -9223372036854775808 := by decide
  have h2 : IntKind.i64.max = 9223372036854775807 := by decide
  unfold B64 at h
  rw [h1, h2] at h
  exact h
theorem one_call (l : List R) (h1 : ∀ r ∈ l, B64 r.Low ∧ B64 r.High) (h2 : l.length < 2 ^ 62) : sp4 l true :=
  ok4 l true (w4_true (fun r hr => ⟨r64_of (h1 r hr).1, r64_of (h1 r hr).2⟩) h2)
end Go.Hw.VD

