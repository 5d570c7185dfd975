import Derived.Test.YthogcmalebekkaaHwShape13
import Derived.Test.YthogcmalebekkaaHwLayR
set_option linter.unusedVariables false
set_option linter.unusedSimpArgs false
namespace Go.Hw.VR
open Go Go.Proofs

theorem s29' (n : Nat) (hn : n ≤ 5) : ∃ s, sp29 [116] (n : Int) s := ⟨_, s29 [116] n (by simp; omega) (by omega)⟩
abbrev B64 (n : Int) : Prop := IntKind.i64.min ≤ n ∧ n ≤ IntKind.i64.max
theorem r64_of {n : Int} (h : B64 n) : R64 n := by
  have h1 : IntKind.i64.min = -9223372036854775808 := by decide
  have h2 : IntKind.i64.max = 9223372036854775807 := by decide
  unfold B64 at h
  rw [h1, h2] at h
  exact h
end Go.Hw.VR

