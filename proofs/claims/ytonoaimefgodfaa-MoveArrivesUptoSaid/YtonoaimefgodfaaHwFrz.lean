import Derived.Test.YtonoaimefgodfaaHwNest
set_option linter.unusedVariables false
set_option linter.unusedSimpArgs false
namespace Go.Hw
open Go

theorem w_freeze_cell {m : Nat} {e : Env} {h h' : Heap} {A : Type} {f : A → HV} {l : List A} (id j aid : Nat) {sz n : Nat} {cs : List HV} (hf : Enc f sz) (hne : id ≠ aid) (ha : h[aid]? = some (GA f l)) (hc : h[id]? = some (.cells cs)) (hj : cs[j]? = some (.arr aid 0 n sz)) (hn : l.length = n)
    (hh : (h.set aid .dead).set id (.cells (cs.set j (.list (l.map f) .none))) = h') : WeakF m e h e h' := by
  subst hh
  refine WeakF.of fun N ds K w a hr => ?_
  have hj' : (h.set aid HObj.dead)[id]? = some (.cells cs) := by rw [List.getElem?_set_ne (Ne.symm hne)]; exact hc
  cases hrho : K.rho id with
  | none =>
    exact ⟨K, .refl K w, upd_cells (heap_dead hr.heap ha) hj' (fun b hb => by rw [hrho] at hb; cases hb), hr.env, hr.size, hr.defers⟩
  | some bj =>
    obtain ⟨hb1, o, ho1, ho2, ho3⟩ := hr.heap.obj id bj hrho
    rw [hc] at ho1; injection ho1 with ho1; subst ho1
    obtain ⟨c, et, fr, hcb, hlen, hfr, hvs⟩ := ho2
    obtain ⟨hleafq, u, hu1, hu2⟩ := hvs j _ hj
    rw [← hn, ← List.length_map (f := f)] at hu2
    obtain ⟨K', s, hh', hV⟩ := freeze_one hr.heap ha (wid_map hf l) hu2
    refine ⟨K', s, upd_cells hh' hj' (fun b' hb' => ?_), hr.env.step s, hr.size, hr.defers⟩
    have := s.rho id bj hrho
    rw [this] at hb'
    injection hb' with hb'
    subst hb'
    have hqlt : j < cs.length := (List.getElem?_eq_some_iff.1 hj).1
    refine ⟨c, et, fr, hcb, by rw [List.length_set]; exact hlen, hfr, fun i z hz => ?_⟩
    by_cases hiq : i = j
    · subst hiq
      rw [List.getElem?_set_self hqlt] at hz
      injection hz with hz
      subst hz
      exact ⟨rfl, _, hu1, hV⟩
    · rw [List.getElem?_set_ne (Ne.symm hiq)] at hz
      obtain ⟨k1, v, k2, k3⟩ := hvs i z hz
      exact ⟨k1, v, k2, k3.step s⟩
end Go.Hw

