import Derived.Test.YtonoaimefgodfaaHwOp
import Derived.Test.YtonoaimefgodfaaHwNest
set_option linter.unusedVariables false
set_option linter.unusedSimpArgs false
namespace Go.Hw
open Go
variable {P : Program} {m : Nat} {e : Env} {h h' : Heap}

theorem w_len_cell {A : Type} {l : List A} (id j aid sz : Nat) {n : Nat} {cs : List HV} (hl : l.length = n) (hc : h[id]? = some (.cells cs)) (hj : cs[j]? = some (.arr aid 0 n sz)) (hh : h.set id (.cells (cs.set j (.arr aid 0 l.length sz))) = h') : WeakF m e h e h' := by
  subst hl
  have e1 : cs.set j (.arr aid 0 l.length sz) = cs := by
    refine List.ext_getElem? fun i => ?_
    rw [List.getElem?_set]
    split
    · rename_i hij; subst hij
      split
      · exact hj.symm
      · rename_i hlt; rw [List.getElem?_eq_none (by omega)]
    · rfl
  have e2 : h.set id (.cells cs) = h := by
    refine List.ext_getElem? fun i => ?_
    rw [List.getElem?_set]
    split
    · rename_i hij; subst hij
      split
      · exact hc.symm
      · rename_i hlt; rw [List.getElem?_eq_none (by omega)]
    · rfl
  rw [← hh, e1, e2]
  exact .refl e h
variable {N : Nat} {S : CallP} {b : Nat} {r : List Op} {Q : Env → Heap → Prop} {x y : X}
end Go.Hw

