import Derived.Test.YtonoaimefgodfaaHwF2
set_option linter.unusedVariables false
set_option linter.unusedSimpArgs false
namespace Go.Hw
open Go
variable {P : Program} {N m : Nat} {S D : CallP} {b : Nat} {r : List Op} {e e' : Env} {h h' : Heap} {Q : Env → Heap → Prop} {d : Nat} {x y z : X}

@[reducible] def opv (id sz : Nat) : Option Int → HV
  | none => .nilptr
  | some i => .ptr id (i.toNat * sz)
theorem ren_op {σ : List Nat} {i j sz : Nat} {o : Option Int} (hσ : σ[i]? = some j) : Ren σ (opv i sz o) (opv j sz o) := by
  cases o with
  | none => exact .pv _ .nilptr
  | some q => exact .ptr i j _ hσ
theorem ho_op {id sz : Nat} {o : Option Int} {K0 : Prop} {K1 : Int → Prop} (hw : (o = none → K0) ∧ ∀ i, o = some i → K1 i) (k0 : o = none → K0 → HO S b r ((d, .nilptr) :: e) h Q) (k1 : ∀ i, o = some i → K1 i → HO S b r ((d, .ptr id (i.toNat * sz)) :: e) h Q) : HO S b r ((d, opv id sz o) :: e) h Q := by
  cases o with
  | none => exact k0 rfl (hw.1 rfl)
  | some i => exact k1 i rfl (hw.2 i rfl)
theorem st_eqp {neg c : Bool} {u v : HV} (hx : x.ev e = some u) (hy : y.ev e = some v) (h2 : eqsOk .ptr u v) (ht : ∀ t, HV.eqs u v t → (if neg then !t else t) = c) (k : HO S b r ((d, .bool c) :: e) h Q) : HO S b (⟨some d, .op (.eqv neg .ptr x y), none⟩ :: r) e h Q :=
  st_eqv hx hy (by simp) h2 fun t h => by rw [ht t h]; exact k
theorem w_nilarr_cell {A : Type} {f : A → HV} (id j sz : Nat) {n : Nat} {cs : List HV} (hn : h.length = n) (hc : h[id]? = some (.cells cs)) (hj : cs[j]? = some (.list [] .full)) (hh : h.set id (.cells (cs.set j (.arr n 0 0 sz))) ++ [GA f ([] : List A)] = h') : WeakF m e h e h' := by
  subst hn
  subst hh
  refine WeakF.of fun N K w a hr => ?_
  have hlt := lt_of_get hc
  have hh' : HeapRel K (h ++ [GA f ([] : List A)]) w := heap_app hr.heap _
  have hc' : (h ++ [GA f ([] : List A)])[id]? = some (.cells cs) := by rw [List.getElem?_append_left hlt]; exact hc
  have key : ∀ (x : HV) (v : Value), cs[j]? = some x → V K w x v → V K w (.arr h.length 0 0 sz) v := by
    intro x v hx hV
    rw [hj] at hx
    injection hx with hx
    subst hx
    cases hV with
    | nil => exact .arrn _ _ _
    | list0 _ _ ad => exact .arr0 _ _ _ ad
    | list _ _ b of cap sz' vals hw' hleaf hvv hc hlim hcap htk =>
      have : cap = 0 := htk
      subst this
      exact .arr0 _ _ _ _
  have h2 := hh'.recell (y := .arr h.length 0 0 sz) hc' rfl key
  refine ⟨K, .refl K w, ?_, fun u x hx => hr.env u x hx, hr.size, hr.defers⟩
  rw [List.set_append_left _ _ hlt] at h2
  exact h2
end Go.Hw

