import Derived.Test.YtcenjonbenlfkaaHwVer3
set_option linter.unusedVariables false
set_option linter.unusedSimpArgs false
namespace Go.Hw.VD
open Go Go.Proofs

theorem can_nil : Can ([] : List R) := ⟨by simp, .nil⟩
theorem can_all : Can (notF []) := (notF_spec can_nil).1
theorem either_spec {a b : List R} (ha : Can a) (hb : Can b) : Can (setF (a ++ b)) ∧ (∀ v, inR (setF (a ++ b)) v ↔ (inR a v ∨ inR b v)) ∧ (setF (a ++ b)).length ≤ a.length + b.length := by
  obtain ⟨h1, h2, h3⟩ := setF_spec (l := a ++ b) (fun r hr => (List.mem_append.1 hr).elim (ha.1 r) (hb.1 r))
  exact ⟨h1, fun v => by rw [h2 v, inR_append], by simpa using h3⟩
theorem not_not {a : List R} (ha : Can a) : notF (notF a) = a := by
  obtain ⟨a1, a2, _⟩ := notF_spec ha
  obtain ⟨n1, n2, _⟩ := notF_spec a1
  refine uniq n1 ha fun v => ?_
  rw [n2, a2]
  constructor
  · rintro ⟨h1, h2, h3⟩
    exact Classical.byContradiction fun h => h3 ⟨h1, h2, h⟩
  · intro h
    have := ha.range h
    exact ⟨this.1, this.2, fun h2 => h2.2.2 h⟩

theorem w4_true {l : List R} (hl : ∀ r ∈ l, R64 r.Low ∧ R64 r.High) (hl2 : l.length < 2 ^ 62) : w4 l (· = true) := by
  obtain ⟨a1, a2⟩ := setOf_spec l
  have s7l := s7 hl hl2
  generalize hA : setOf l = A at *
  have hall := can_all
  have hin : ∀ v, inR (notF []) v ↔ 1 ≤ v ∧ v ≤ 9999 := fun v => by
    rw [(notF_spec can_nil).2.1 v]
    exact ⟨fun h => ⟨h.1, h.2.1⟩, fun h => ⟨h.1, h.2, inR_nil v⟩⟩
  have hl1 : (notF []).length = 1 := rfl
  have q1 : setF A = A := by
    obtain ⟨k1, k2, _⟩ := setF_spec a1.1
    exact uniq k1 a1 k2
  obtain ⟨e1, e2, e3⟩ := either_spec a1 a1
  have q2 : setF (A ++ A) = A := uniq e1 a1 fun v => by rw [e2]; simp
  obtain ⟨c1, c2⟩ := bothF_spec a1 a1
  have q3 : bothF A A = A := uniq c1 a1 fun v => by rw [c2]; simp
  obtain ⟨d1, d2⟩ := bothF_spec a1 hall
  have q4 : bothF A (notF []) = A := uniq d1 a1 fun v => by
    rw [d2, hin]
    exact ⟨fun h => h.1, fun h => ⟨h, a1.range h⟩⟩
  obtain ⟨f1, f2, f3⟩ := either_spec a1 hall
  have q5 : setF (A ++ notF []) = notF [] := uniq f1 hall fun v => by
    rw [f2, hin]
    exact ⟨fun h => h.elim a1.range id, .inr⟩
  have q6 : bothF A [] = [] := by simp [bothF]
  have t1 := s12 a1.1 (by (try dsimp only at *); omega)
  have t2 := s9 a1 a1 (by (try dsimp only at *); omega)
  have t3 := s10 a1 a1 (by (try dsimp only at *); omega) (by (try dsimp only at *); omega) (by rw [q3]; omega)
  have t4 := s10 a1 hall (by (try dsimp only at *); omega) (by (try dsimp only at *); omega) (by rw [q4]; omega)
  have t5 := s9 a1 hall (by (try dsimp only at *); omega)
  have t6 := s10 a1 can_nil (by (try dsimp only at *); omega) (by simp) (by rw [q6]; simp)
  rw [q1] at t1; rw [q2] at t2; rw [q3] at t3; rw [q4] at t4; rw [q5] at t5; rw [q6] at t6
  refine ⟨_, s7l, _, t1, _, t2, _, t3, _, s8 can_nil (by simp), _, t4, _, t5, _, t6, ?_⟩
  refine ⟨fun _ => ⟨fun _ => ⟨fun _ => ⟨fun _ => ⟨fun _ => ⟨fun _ => ⟨fun _ => ⟨fun _ => ⟨fun _ => ?_, fun h => absurd rfl h⟩, fun h => absurd rfl h⟩, fun h => absurd rfl h⟩, fun h => absurd rfl h⟩, fun h => absurd rfl h⟩, fun h => absurd rfl h⟩, fun h => absurd rfl h⟩, fun h => absurd rfl h⟩, fun h => by simp at h⟩
  have hAA := s11 A A (by (try dsimp only at *); omega)
  have hLL := s11 (notF []) (notF []) (by (try dsimp only at *); omega)
  simp only [decide_true] at hAA hLL
  refine ⟨_, hAA, fun _ => ⟨_, hAA, fun _ => ⟨_, hAA, fun _ => ⟨_, hAA, fun _ => ⟨_, hLL, fun _ => ?_, fun h => by simp at h⟩, fun h => by simp at h⟩, fun h => by simp at h⟩, fun h => by simp at h⟩, fun h => by simp at h⟩
  rintro b rfl
  simp

end Go.Hw.VD

