import Derived.Test.YthogcmalebekkaaHwShape5
set_option linter.unusedVariables false
set_option linter.unusedSimpArgs false
namespace Go.Hw.VR
open Go Go.Proofs

theorem args_lt {v v' : Vl} (h : v' ∈ v.Args) : SizeOf.sizeOf v' < SizeOf.sizeOf v := by
  obtain ⟨kd, num, tx, vs⟩ := v
  have := List.sizeOf_lt_of_mem h
  simp only [GaValue.mk.sizeOf_spec] at this ⊢
  omega
end Go.Hw.VR

