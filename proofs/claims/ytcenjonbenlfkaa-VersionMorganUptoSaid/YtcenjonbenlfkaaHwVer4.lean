import Derived.Test.YtcenjonbenlfkaaHwVer3
set_option linter.unusedVariables false
set_option linter.unusedSimpArgs false
namespace Go.Hw.VD
open Go Go.Proofs

theorem can_nil : Can ([] : List R) := ⟨by simp, .nil⟩
theorem either_spec {a b : List R} (ha : Can a) (hb : Can b) : Can (setF (a ++ b)) ∧ (∀ v, inR (setF (a ++ b)) v ↔ (inR a v ∨ inR b v)) ∧ (setF (a ++ b)).length ≤ a.length + b.length := by
  obtain ⟨h1, h2, h3⟩ := setF_spec (l := a ++ b) (fun r hr => (List.mem_append.1 hr).elim (ha.1 r) (hb.1 r))
  exact ⟨h1, fun v => by rw [h2 v, inR_append], by simpa using h3⟩
theorem both_dm {a b : List R} (ha : Can a) (hb : Can b) : bothF a b = notF (setF (notF a ++ notF b)) := by
  obtain ⟨a1, a2, _⟩ := notF_spec ha
  obtain ⟨b1, b2, _⟩ := notF_spec hb
  obtain ⟨e1, e2, _⟩ := either_spec a1 b1
  obtain ⟨n1, n2, _⟩ := notF_spec e1
  obtain ⟨c1, c2⟩ := bothF_spec ha hb
  refine uniq c1 n1 fun v => ?_
  rw [c2, n2, e2, a2, b2]
  constructor
  · rintro ⟨h1, h2⟩
    have := ha.range h1
    exact ⟨this.1, this.2, by rintro (h | h); exact h.2.2 h1; exact h.2.2 h2⟩
  · rintro ⟨h1, h2, h3⟩
    refine ⟨Classical.byContradiction fun h => h3 (.inl ⟨h1, h2, h⟩), Classical.byContradiction fun h => h3 (.inr ⟨h1, h2, h⟩)⟩
theorem both_len {a b : List R} (ha : Can a) (hb : Can b) : (bothF a b).length ≤ a.length + b.length + 3 := by
  obtain ⟨a1, a2, a3⟩ := notF_spec ha
  obtain ⟨b1, b2, b3⟩ := notF_spec hb
  obtain ⟨e1, e2, e3⟩ := either_spec a1 b1
  obtain ⟨n1, n2, n3⟩ := notF_spec e1
  rw [both_dm ha hb]
  omega
theorem not_not {a : List R} (ha : Can a) : notF (notF a) = a := by
  obtain ⟨a1, a2, _⟩ := notF_spec ha
  obtain ⟨n1, n2, _⟩ := notF_spec a1
  refine uniq n1 ha fun v => ?_
  rw [n2, a2]
  constructor
  · rintro ⟨h1, h2, h3⟩
    exact Classical.byContradiction fun h => h3 ⟨h1, h2, h⟩
  · intro h
    have := ha.range h
    exact ⟨this.1, this.2, fun h2 => h2.2.2 h⟩

theorem w3_true {l m : List R} (hl : ∀ r ∈ l, R64 r.Low ∧ R64 r.High) (hl2 : l.length < 2 ^ 62) (hm : ∀ r ∈ m, R64 r.Low ∧ R64 r.High) (hm2 : m.length < 2 ^ 62) : w3 l m (· = true) := by
  obtain ⟨a1, a2⟩ := setOf_spec l
  obtain ⟨b1, b2⟩ := setOf_spec m
  generalize hA : setOf l = A at *
  generalize hB : setOf m = B at *
  obtain ⟨e1, e2, e3⟩ := either_spec a1 b1
  obtain ⟨na1, na2, na3⟩ := notF_spec a1
  obtain ⟨nb1, nb2, nb3⟩ := notF_spec b1
  have hdm := both_dm na1 nb1
  rw [not_not a1, not_not b1] at hdm
  have hlen := both_len na1 nb1
  have s7l := s7 hl hl2
  have s7m := s7 hm hm2
  rw [hA] at s7l
  rw [hB] at s7m
  refine ⟨_, s7l, _, s7m, _, s8 can_nil (by simp), fun h => by simp at h, fun _ => ⟨fun h => by simp at h, fun _ => ⟨fun h => absurd rfl h, fun _ => ⟨fun h => absurd rfl h, fun _ => ?_⟩⟩⟩⟩
  refine ⟨_, s9 a1 b1 (by (try dsimp only at *); omega), _, s8 e1 (by (try dsimp only at *); omega), _, s8 a1 (by (try dsimp only at *); omega), _, s8 b1 (by (try dsimp only at *); omega), _, s10 na1 nb1 (by (try dsimp only at *); omega) (by (try dsimp only at *); omega) (by (try dsimp only at *); omega), _, s8 na1 (by (try dsimp only at *); omega), ?_⟩
  refine ⟨fun _ => ⟨fun _ => ⟨fun _ => ⟨fun _ => ⟨fun _ => ⟨fun _ => ?_, fun h => absurd rfl h⟩, fun h => absurd rfl h⟩, fun h => absurd rfl h⟩, fun h => absurd rfl h⟩, fun h => absurd rfl h⟩, fun h => absurd rfl h⟩
  have hn := (notF_spec e1).2.2
  have hn2 := (notF_spec na1).2.2
  refine ⟨_, s11 _ _ (by (try dsimp only at *); omega), ?_⟩
  simp only [hdm, not_not a1, decide_true]
  refine ⟨fun _ => ⟨_, s11 A A (by (try dsimp only at *); omega), by simp⟩, fun h => by simp at h⟩

end Go.Hw.VD

