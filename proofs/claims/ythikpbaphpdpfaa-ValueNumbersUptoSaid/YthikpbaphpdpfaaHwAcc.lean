/- A full slice in a cell gets a token. -/
import Derived.Test.YthikpbaphpdpfaaHwG5
set_option linter.unusedVariables false
set_option linter.unusedSimpArgs false
namespace Go.Hw
open Go

theorem HeapRel.recell {K : GK} {w : World} {h : Heap} {id j : Nat} {cs : List HV} {y : HV} (hh : HeapRel K h w) (hc : h[id]? = some (.cells cs)) (hy : y.leaf = true) (hv : ∀ (x : HV) (v : Value), cs[j]? = some x → V K w x v → V K w y v) : HeapRel K (h.set id (.cells (cs.set j y))) w := by
  have hget : ∀ (i : Nat) (o : HObj), (h.set id (.cells (cs.set j y)))[i]? = some o → (i ≠ id ∧ h[i]? = some o) ∨ (i = id ∧ o = .cells (cs.set j y)) := by
    intro i o ho
    by_cases hi : i = id
    · subst hi
      rw [List.getElem?_set_self (lt_of_get hc)] at ho
      injection ho with ho
      exact .inr ⟨rfl, ho.symm⟩
    · rw [List.getElem?_set_ne (fun e => hi e.symm)] at ho
      exact .inl ⟨hi, ho⟩
  have hback : ∀ (i : Nat) (o : HObj), (h.set id (.cells (cs.set j y)))[i]? = some o → o.live → ∃ o', h[i]? = some o' ∧ o'.live := by
    intro i o ho hl
    rcases hget i o ho with ⟨_, h1⟩ | ⟨rfl, _⟩
    · exact ⟨o, h1, hl⟩
    · exact ⟨_, hc, trivial⟩
  refine ⟨fun i b hr => ?_, fun i k b x z hi hk hx hz lx lz => ?_, fun k => ?_, fun k b hk => ?_, hh.tinj, hh.limb⟩
  · obtain ⟨g1, o, g2, g3, g4⟩ := hh.obj i b hr
    by_cases hi : i = id
    · subst hi
      rw [hc] at g2
      injection g2 with g2
      subst g2
      refine ⟨g1, _, List.getElem?_set_self (lt_of_get hc), ?_, fun _ => g4 trivial⟩
      obtain ⟨c, e, fr, h1, h2, h3, h4⟩ := g3
      refine ⟨c, e, fr, h1, by simpa using h2, h3, fun q x hx => ?_⟩
      rw [List.getElem?_set] at hx
      split at hx
      · rename_i hq
        subst hq
        split at hx
        · injection hx with hx
          subst hx
          rename_i hlt
          obtain ⟨_, v, h5, h6⟩ := h4 j cs[j] (List.getElem?_eq_getElem hlt)
          exact ⟨hy, v, h5, hv _ v (List.getElem?_eq_getElem hlt) h6⟩
        · cases hx
      · exact h4 q x hx
    · exact ⟨g1, o, by rw [List.getElem?_set_ne (fun e => hi e.symm)]; exact g2, g3, g4⟩
  · obtain ⟨x', h1, h2⟩ := hback i x hx lx
    obtain ⟨z', h3, h4⟩ := hback k z hz lz
    exact hh.inj i k b x' z' hi hk h1 h3 h2 h4
  · rw [hh.wm k]
    by_cases hi : k = id
    · subst hi
      rw [List.getElem?_set_self (lt_of_get hc), hc]
    · rw [List.getElem?_set_ne (fun e => hi e.symm)]
  · obtain ⟨g1, ⟨n, g2⟩, g3, g4⟩ := hh.tok k b hk
    have hi : k ≠ id := fun e => by subst e; rw [hc] at g2; cases g2
    refine ⟨g1, ⟨n, by rw [List.getElem?_set_ne (fun e => hi e.symm)]; exact g2⟩, fun i o hr ho hl => ?_, g4⟩
    obtain ⟨o', h1, h2⟩ := hback i o ho hl
    exact g3 i o' hr h1 h2
theorem w_acc_cell {A : Type} {m : Nat} {e : Env} {h h' : Heap} {l : List A} {f : A → HV} (id j sz : Nat) {n : Nat} {cs : List HV} (hn : h.length = n) (hf : Enc f sz) (hc : h[id]? = some (.cells cs)) (hj : cs[j]? = some (.list (l.map f) .full)) (hh : h.set id (.cells (cs.set j (.list (l.map f) (.own n 1 sz)))) ++ [.tok (1 + l.length)] = h') : WeakF m e h e h' := by
  subst hn
  subst hh
  refine WeakF.of fun N K w a hr => ?_
  have hw := wid_map hf l
  have htp : TokPlace h (h ++ [.tok (1 + (l.map f).length)]) h.length (1 + (l.map f).length) := .inr ⟨rfl, rfl, by omega⟩
  obtain ⟨s, hh'⟩ := tok_bare hr.heap htp rfl
  have hlt := lt_of_get hc
  have hc' : (h ++ [.tok (1 + (l.map f).length)])[id]? = some (.cells cs) := by rw [List.getElem?_append_left hlt]; exact hc
  have key : ∀ (x : HV) (v : Value), cs[j]? = some x → V (K.tokAt h.length (1 + (l.map f).length) none) w x v → V (K.tokAt h.length (1 + (l.map f).length) none) w (.list (l.map f) (.own h.length 1 sz)) v := by
    intro x v hx hV
    rw [hj] at hx
    injection hx with hx
    subst hx
    generalize l.map f = hs at hw hV
    cases hV with
    | nil _ _ => exact .nil _ (by simp [TokNil, GK.tokAt])
    | list0 _ _ ad => exact .list0 _ (by simp [TokNil, GK.tokAt]) ad
    | list _ _ b of cap sz' vals hw' hleaf hvv hc hlim hcap htk => exact .list _ _ b of cap sz vals hw hleaf hvv hc hlim hcap ⟨by simp [GK.tokAt], flat_length hw, fun _ => .inl htk⟩
  have h2 := hh'.recell (y := .list (l.map f) (.own h.length 1 sz)) hc' rfl key
  refine ⟨_, s, ?_, fun u x hx => (hr.env u x hx).step s, hr.size, hr.defers⟩
  rw [List.set_append_left _ _ hlt] at h2
  simpa using h2
end Go.Hw
