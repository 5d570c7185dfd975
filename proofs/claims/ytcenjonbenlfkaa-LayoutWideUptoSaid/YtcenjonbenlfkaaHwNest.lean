import Derived.Test.YtcenjonbenlfkaaHwF2
set_option linter.unusedVariables false
set_option linter.unusedSimpArgs false
namespace Go.Hw
open Go

theorem upd_cells {K : GK} {h : Heap} {w : World} {j : Nat} {cs cs' : List HV} (hh : HeapRel K h w) (hc : h[j]? = some (.cells cs)) (hok : ∀ b, K.rho j = some b → ObjOk K w b (.cells cs')) : HeapRel K (h.set j (.cells cs')) w := by
  have hlt : j < h.length := (List.getElem?_eq_some_iff.1 hc).1
  have hj : (h.set j (.cells cs'))[j]? = some (.cells cs') := by simp [hlt]
  have ho : ∀ i, i ≠ j → (h.set j (.cells cs'))[i]? = h[i]? := fun i hne => by rw [List.getElem?_set, if_neg (Ne.symm hne)]
  have key : ∀ (i : Nat) (y : HObj), (h.set j (.cells cs'))[i]? = some y → y.live → ∃ y', h[i]? = some y' ∧ y'.live := by
    intro i y hy ly
    by_cases hi : i = j
    · subst hi; exact ⟨_, hc, trivial⟩
    · exact ⟨y, by rw [← ho i hi]; exact hy, ly⟩
  refine ⟨fun i b hi => ?_, fun i i' b x y hi hi' hx hy lx ly => ?_, fun k => ?_, fun k b hk => ?_, hh.tinj, hh.limb⟩
  · obtain ⟨h1, o, h2, h3, h4⟩ := hh.obj i b hi
    refine ⟨h1, ?_⟩
    by_cases e : i = j
    · subst e
      rw [hc] at h2; injection h2 with h2; subst h2
      exact ⟨_, hj, hok b hi, fun _ => h4 trivial⟩
    · exact ⟨o, by rw [ho i e]; exact h2, h3, h4⟩
  · obtain ⟨x', hx', lx'⟩ := key i x hx lx
    obtain ⟨y', hy', ly'⟩ := key i' y hy ly
    exact hh.inj i i' b x' y' hi hi' hx' hy' lx' ly'
  · rw [hh.wm k]
    by_cases e : k = j
    · subst e; rw [hj, hc]
    · rw [ho k e]
  · obtain ⟨h1, ⟨n, h2⟩, h3, h4⟩ := hh.tok k b hk
    refine ⟨h1, ⟨n, ?_⟩, fun i o hi hio => ?_, h4⟩
    · have e : k ≠ j := fun e => by subst e; rw [hc] at h2; cases h2
      rw [ho k e]; exact h2
    · by_cases e : i = j
      · subst e
        exact absurd trivial (h3 i _ hi hc)
      · exact h3 i o hi (by rw [← ho i e]; exact hio)

variable {P : Program} {N m : Nat} {S D : CallP} {b : Nat} {r : List Op} {e e' : Env} {h h' : Heap} {Q : Env → Heap → Prop} {QQ : Ex → Env → Heap → Prop} {d : Nat} {x y z : X}

end Go.Hw

