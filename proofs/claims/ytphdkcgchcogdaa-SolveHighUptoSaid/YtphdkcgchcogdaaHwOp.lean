import Derived.Test.YtphdkcgchcogdaaHwF3
set_option linter.unusedVariables false
set_option linter.unusedSimpArgs false
namespace Go.Hw
open Go
variable {P : Program} {N m : Nat} {S D : CallP} {b : Nat} {r : List Op} {e e' : Env} {h h' : Heap} {Q : Env → Heap → Prop} {d : Nat} {x y z : X}

theorem w_nilarr_cell {A : Type} {f : A → HV} (id j sz : Nat) {n : Nat} {cs : List HV} (hn : h.length = n) (hc : h[id]? = some (.cells cs)) (hj : cs[j]? = some (.list [] .full)) (hh : h.set id (.cells (cs.set j (.arr n 0 0 sz))) ++ [GA f ([] : List A)] = h') : WeakF m e h e h' := by
  subst hn
  subst hh
  refine WeakF.of fun N ds K w a hr => ?_
  have hlt := lt_of_get hc
  have hh' : HeapRel K (h ++ [GA f ([] : List A)]) w := heap_app hr.heap _
  have hc' : (h ++ [GA f ([] : List A)])[id]? = some (.cells cs) := by rw [List.getElem?_append_left hlt]; exact hc
  have key : ∀ (x : HV) (v : Value), cs[j]? = some x → V K w x v → V K w (.arr h.length 0 0 sz) v := by
    intro x v hx hV
    rw [hj] at hx
    injection hx with hx
    subst hx
    cases hV with
    | nil => exact .arrn _ _ _
    | list0 _ _ ad => exact .arr0 _ _ _ ad
    | list _ _ b of cap sz' vals hw' hleaf hvv hc hlim hcap htk =>
      have : cap = 0 := htk
      subst this
      exact .arr0 _ _ _ _
  have h2 := hh'.recell (y := .arr h.length 0 0 sz) hc' rfl key
  refine ⟨K, .refl K w, ?_, fun u x hx => hr.env u x hx, hr.size, hr.defers⟩
  rw [List.set_append_left _ _ hlt] at h2
  exact h2
end Go.Hw

