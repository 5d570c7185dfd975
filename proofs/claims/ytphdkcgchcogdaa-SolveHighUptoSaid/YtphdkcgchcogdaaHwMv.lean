import Derived.Test.YtphdkcgchcogdaaHwOp
import Derived.Test.YtphdkcgchcogdaaHwNest
set_option linter.unusedVariables false
set_option linter.unusedSimpArgs false
namespace Go.Hw
open Go
variable {P : Program} {m : Nat} {e : Env} {h h' : Heap}

theorem alias_arr {K : GK} {w : World} {h : Heap} {id : Nat} {cs : List HV} (hh : HeapRel K h w) (hc : h[id]? = some (.cells cs)) :
    ∃ K', Step K w K' w ∧ HeapRel K' (h.set id .dead ++ [.cells cs]) w ∧ ∀ k sz v, V K' w (.arr id 0 k sz) v → V K' w (.arr h.length 0 k sz) v := by
  have hd := heap_dead hh hc
  cases hr : K.rho id with
  | none =>
    refine ⟨K, .refl K w, heap_app hd cs, fun k sz v hV => ?_⟩
    cases hV with
    | arrn => exact .arrn _ _ _
    | arr0 _ _ _ ad => exact .arr0 _ _ _ ad
    | arr _ _ _ _ b cap off' hr2 => rw [hr] at hr2; cases hr2
  | some b =>
    obtain ⟨hb1, o0, ho0, hok, hlim⟩ := hh.obj id b hr
    rw [hc] at ho0; injection ho0 with ho0; subst ho0
    have hlim := hlim trivial
    have hidl := lt_of_get hc
    have hno : K.rho h.length = none := by
      cases hr2 : K.rho h.length with
      | none => rfl
      | some b2 =>
        obtain ⟨_, o, h2, _⟩ := hh.obj _ b2 hr2
        rw [List.getElem?_eq_none (by omega)] at h2; cases h2
    have hlen : (h.set id HObj.dead).length = h.length := by simp
    have hget : (h.set id HObj.dead ++ [HObj.cells cs])[h.length]? = some (.cells cs) := by rw [List.getElem?_append_right (by omega)]; simp
    have hoth : ∀ i, i ≠ h.length → (h.set id HObj.dead ++ [HObj.cells cs])[i]? = (h.set id HObj.dead)[i]? := by
      intro i hi
      rcases Nat.lt_or_ge i h.length with h5 | h5
      · rw [List.getElem?_append_left (by omega)]
      · rw [List.getElem?_eq_none (by simp; omega), List.getElem?_eq_none (by simp; omega)]
    have hne : id ≠ h.length := by omega
    have s : Step K w (K.rhoAt h.length b) w := by
      refine ⟨rfl, tk, rfl, Nat.le_refl _, fun _ => Nat.le_refl _, fun _ => Nat.le_refl _, fun _ _ => ⟨rfl, fun _ _ => rfl⟩, fun i c hi => ?_, fun _ _ _ _ h => h, fun _ _ h => h, fun c _ ho => ?_, fun _ _ _ => ⟨rfl, rfl⟩⟩
      · have : i ≠ h.length := by intro e; subst e; rw [hno] at hi; cases hi
        simp [GK.rhoAt, this, hi]
      · rcases ho with ⟨i, hi⟩ | ⟨k, hk⟩
        · simp only [GK.rhoAt] at hi
          split at hi
          · injection hi with hi; subst hi; exact .inl ⟨id, hr⟩
          · exact .inl ⟨i, hi⟩
        · exact .inr ⟨k, hk⟩
    -- no other live object has the block
    have hfree : ∀ (i : Nat) (x : HObj), K.rho i = some b → (h.set id HObj.dead)[i]? = some x → ¬ x.live := by
      intro i x hi hx lx
      by_cases e : i = id
      · subst e; rw [List.getElem?_set_self hidl] at hx; injection hx with hx; subst hx; exact lx.elim
      · rw [List.getElem?_set_ne (Ne.symm e)] at hx
        exact e (hh.inj i id b x _ hi hr hx hc lx trivial)
    refine ⟨K.rhoAt h.length b, s, ⟨fun i c hi => ?_, fun i j c x y hi hj h1 h2 hx hy => ?_, fun k => ?_, fun k c hk => ?_, hd.tinj, hd.limb⟩, fun k sz v hV => ?_⟩
    · simp only [GK.rhoAt] at hi
      split at hi
      · rename_i e
        injection hi with hi
        subst hi; subst e
        exact ⟨hb1, .cells cs, hget, ObjOk.keep s rfl hok, fun _ => hlim⟩
      · rename_i e
        obtain ⟨h1, o, h2, h3, h4⟩ := hd.obj i c hi
        exact ⟨h1, o, by rw [hoth i e]; exact h2, ObjOk.keep s rfl h3, h4⟩
    · simp only [GK.rhoAt] at hi hj
      split at hi <;> split at hj
      · simp_all
      · rename_i e1 e2
        injection hi with hi
        subst hi
        rw [hoth j e2] at h2
        exact absurd hy (hfree j y hj h2)
      · rename_i e1 e2
        injection hj with hj
        subst hj
        rw [hoth i e1] at h1
        exact absurd hx (hfree i x hi h1)
      · rename_i e1 e2
        exact hd.inj i j c x y hi hj (by rw [← hoth i e1]; exact h1) (by rw [← hoth j e2]; exact h2) hx hy
    · show K.wm k = _
      rw [hd.wm k]
      by_cases e : k = h.length
      · subst e
        rw [hget, List.getElem?_eq_none (by simp)]
      · rw [hoth k e]
    · obtain ⟨h1, ⟨n, h2⟩, h3, c', e', fr, h4, h5, h6⟩ := hd.tok k c hk
      have hkn : k ≠ h.length := by intro e; subst e; rw [List.getElem?_eq_none (by simp)] at h2; cases h2
      refine ⟨h1, ⟨n, by rw [hoth k hkn]; exact h2⟩, fun i o hi ho => ?_, c', e', fr, h4, h5, h6⟩
      simp only [GK.rhoAt] at hi
      split at hi
      · injection hi with hi
        subst hi
        exact absurd trivial ((hh.tok k b hk).2.2.1 id _ hr hc)
      · rename_i e1
        exact h3 i o hi (by rw [← hoth i e1]; exact ho)
    · cases hV with
      | arrn => exact .arrn _ _ _
      | arr0 _ _ _ ad => exact .arr0 _ _ _ ad
      | arr _ _ _ _ b2 cap off' hr2 hcap hoff hroom =>
        have : b2 = b := by
          simp only [GK.rhoAt, if_neg hne] at hr2
          rw [hr] at hr2; injection hr2 with hr2; exact hr2.symm
        subst this
        exact .arr _ _ _ _ b2 cap off' (by simp [GK.rhoAt]) hcap hoff hroom
theorem w_mv_cell {A : Type} {f : A → HV} {l : List A} (id j aid sz : Nat) {n k : Nat} {cs : List HV} (hn : h.length = n) (hne : id ≠ aid) (ha : h[aid]? = some (GA f l)) (hc : h[id]? = some (.cells cs)) (hj : cs[j]? = some (.arr aid 0 k sz)) (hh : (h.set aid .dead ++ [GA f l]).set id (.cells (cs.set j (.arr n 0 k sz))) = h') : WeakF m e h e h' := by
  subst hn
  subst hh
  refine WeakF.of fun N ds K w a hr => ?_
  obtain ⟨K', s, h1, h2⟩ := alias_arr hr.heap ha
  have hlt := lt_of_get hc
  have hc' : (h.set aid HObj.dead ++ [GA f l])[id]? = some (.cells cs) := by
    rw [List.getElem?_append_left (by simpa using hlt), List.getElem?_set_ne (Ne.symm hne)]; exact hc
  have h3 := h1.recell (y := .arr h.length 0 k sz) (j := j) hc' rfl (fun x v hx hV => by
    rw [hj] at hx; injection hx with hx; subst hx
    exact h2 k sz v hV)
  exact ⟨K', s, h3, fun u x hx => (hr.env u x hx).step s, hr.size, hr.defers⟩
theorem ro_dead {σ0 σ : List Nat} {j : Nat} (h1 : h[j]? = some .dead) (h2 : RenH σ0 h σ h') : RenH σ0 h (j :: σ) (.dead :: h') := ⟨⟨.dead, h1, trivial, by simp⟩, h2⟩
theorem ou_dead {σ0 σ : List Nat} {H2 h1 : Heap} {j : Nat} (hj : H2[j]? = some .dead) (h : ROut σ0 H2 σ h1) : ROut σ0 H2 (j :: σ) (.dead :: h1) := ⟨⟨.dead, hj, trivial, fun _ => rfl⟩, h⟩


variable {N : Nat} {S : CallP} {b : Nat} {r : List Op} {Q : Env → Heap → Prop} {x y : X}
end Go.Hw

