import Derived.Test.YthikpbaphpdpfaaHwVal3
set_option linter.unusedVariables false
set_option linter.unusedSimpArgs false
namespace Go.Hw.VB
open Go Go.Proofs

theorem enc_4 (v : Vl) : 4 ≤ (enc v).length := by
  have h1 := leb_pos (zig v.Num)
  have h2 := leb_pos v.Text.length
  have h3 := leb_pos v.Args.length
  rw [enc_eq]
  simp only [List.length_cons, List.length_append]
  omega
end Go.Hw.VB

