/- What a map tells, in plain terms. -/
import Derived.Test.YthikpbaphpdpfaaHwG4
set_option linter.unusedVariables false
set_option linter.unusedSimpArgs false
namespace Go.Hw
open Go
variable {A B : Type}
structure GM.wf (m : GM A B) : Prop where
  keys : (m.es.map (·.2.1)).Nodup
  births : ∀ p ∈ m.es, p.1 < m.c
theorem GM.nil_wf : (GM.nil : GM A B).wf := ⟨by simp [GM.nil], by simp [GM.nil]⟩
theorem nodup_inj' {C : Type} : ∀ {l : List C}, l.Nodup → ∀ (i j : Nat) (k : C), l[i]? = some k → l[j]? = some k → i = j
  | [], _, i, j, k, h, _ => by simp at h
  | a :: l, hn, i, j, k, hi, hj => by
    obtain ⟨h1, h2⟩ := List.nodup_cons.1 hn
    cases i with
    | zero =>
      cases j with
      | zero => rfl
      | succ j =>
        simp at hi hj
        subst hi
        exact absurd (List.mem_of_getElem? hj) h1
    | succ i =>
      cases j with
      | zero =>
        simp at hi hj
        subst hj
        exact absurd (List.mem_of_getElem? hi) h1
      | succ j => rw [nodup_inj' h2 i j k (by simpa using hi) (by simpa using hj)]
variable [DecidableEq A]
theorem GM.get_nil (k : A) : (GM.nil : GM A B).get k = none := rfl
theorem GM.idx_none {m : GM A B} {k : A} (h : m.idx k = none) : ∀ p ∈ m.es, p.2.1 ≠ k := by
  intro p hp hk
  have := List.findIdx?_eq_none_iff.1 h p hp
  simp [hk] at this
theorem GM.put_wf {m : GM A B} (hm : m.wf) (k : A) (v : B) : (m.put k v).wf := by
  unfold GM.put
  cases hi : m.idx k with
  | none =>
    refine ⟨?_, ?_⟩
    · simp only [List.map_append, List.map_cons, List.map_nil]
      refine List.nodup_append.2 ⟨hm.keys, by simp, ?_⟩
      intro a ha c hc
      simp at hc
      subst hc
      obtain ⟨p, hp, rfl⟩ := List.mem_map.1 ha
      exact GM.idx_none hi p hp
    · intro p hp
      rcases List.mem_append.1 hp with hp | hp
      · have := hm.births p hp; simp only; omega
      · simp at hp; subst hp; simp
  | some j =>
    obtain ⟨p, hp, hk⟩ := GM.idx_lt hi
    simp only [hp]
    refine ⟨?_, ?_⟩
    · have : (m.es.set j (p.1, k, v)).map (·.2.1) = m.es.map (·.2.1) := by
        rw [List.map_set]
        refine List.ext_getElem? fun i => ?_
        rw [List.getElem?_set]
        split
        · rename_i h; subst h
          split
          · simp [hp, hk]
          · rename_i h; rw [List.getElem?_eq_none (by omega)]
        · rfl
      simp only [this]
      exact hm.keys
    · intro q hq
      rcases List.mem_or_eq_of_mem_set hq with hq | rfl
      · exact hm.births q hq
      · exact hm.births p (List.mem_of_getElem? hp)
theorem GM.mem_get {m : GM A B} (hm : m.wf) {p : Nat × A × B} (hp : p ∈ m.es) : m.get p.2.1 = some p.2.2 := by
  have hk := hm.keys
  unfold GM.get
  generalize m.es = l at hp hk
  induction l with
  | nil => simp at hp
  | cons q r ih =>
    simp only [List.map_cons, List.nodup_cons] at hk
    rcases List.mem_cons.1 hp with rfl | hp
    · simp
    · have : ¬ p.2.1 = q.2.1 := fun h => hk.1 (List.mem_map.2 ⟨p, hp, h⟩)
      rw [List.find?_cons]
      simp only [this, decide_false]
      exact ih hp hk.2
theorem GM.del_wf {m : GM A B} (hm : m.wf) (k : A) : (m.del k).wf := by
  unfold GM.del
  cases hi : m.idx k with
  | none => exact hm
  | some j =>
    refine ⟨?_, fun p hp => hm.births p (List.mem_of_mem_eraseIdx hp)⟩
    rw [← eraseIdx_map2]
    exact hm.keys.sublist (List.eraseIdx_sublist ..)
theorem GM.del_mem {m : GM A B} (hm : m.wf) {k : A} {p : Nat × A × B} (hp : p ∈ (m.del k).es) : p ∈ m.es ∧ p.2.1 ≠ k := by
  unfold GM.del at hp
  cases hi : m.idx k with
  | none =>
    rw [hi] at hp
    exact ⟨hp, GM.idx_none hi p hp⟩
  | some j =>
    rw [hi] at hp
    refine ⟨List.mem_of_mem_eraseIdx hp, fun hk => ?_⟩
    obtain ⟨q, hq, hqk⟩ := GM.idx_lt hi
    obtain ⟨i, hi2⟩ := List.getElem?_of_mem hp
    rw [List.getElem?_eraseIdx] at hi2
    have hnd := hm.keys
    have key : ∀ a c : Nat, (m.es[a]?).map (·.2.1) = some k → (m.es[c]?).map (·.2.1) = some k → a = c := by
      intro a c ha hc
      refine nodup_inj' hnd a c k ?_ ?_ <;> simp [List.getElem?_map, *]
    split at hi2
    · have := key i j (by simp [hi2, hk]) (by simp [hq, hqk]); omega
    · have := key (i + 1) j (by simp [hi2, hk]) (by simp [hq, hqk]); omega
theorem GM.get_mem {m : GM A B} {k : A} {v : B} (h : m.get k = some v) : ∃ n, (n, k, v) ∈ m.es := by
  unfold GM.get at h
  obtain ⟨p, hp, rfl⟩ := Option.map_eq_some_iff.1 h
  have h1 := List.mem_of_find?_eq_some hp
  have h2 := List.find?_some hp
  simp at h2
  subst h2
  exact ⟨p.1, h1⟩
theorem GM.get_del {m : GM A B} (hm : m.wf) (k q : A) (h : q ≠ k) : (m.del k).get q = m.get q := by
  unfold GM.del
  cases hi : m.idx k with
  | none => rfl
  | some j =>
    obtain ⟨p, hp, hk⟩ := GM.idx_lt hi
    have hj : j < m.es.length := lt_of_get hp
    have hs : m.es = m.es.take j ++ p :: m.es.drop (j + 1) := by
      have := List.getElem_eq_iff hj |>.2 hp
      rw [← this]
      simp
    have he : m.es.eraseIdx j = m.es.take j ++ m.es.drop (j + 1) := List.eraseIdx_eq_take_drop_succ ..
    simp only [GM.get, he]
    conv => rhs; rw [hs]
    rw [List.find?_append, List.find?_append, List.find?_cons]
    have : ¬ q = p.2.1 := by rw [hk]; exact h
    simp [this]
end Go.Hw
