import Derived.Test.YtcenjonbenlfkaaHwVer3
set_option linter.unusedVariables false
set_option linter.unusedSimpArgs false
namespace Go.Hw.VD
open Go Go.Proofs

theorem either_spec {a b : List R} (ha : Can a) (hb : Can b) : Can (setF (a ++ b)) ∧ (∀ v, inR (setF (a ++ b)) v ↔ (inR a v ∨ inR b v)) ∧ (setF (a ++ b)).length ≤ a.length + b.length := by
  obtain ⟨h1, h2, h3⟩ := setF_spec (l := a ++ b) (fun r hr => (List.mem_append.1 hr).elim (ha.1 r) (hb.1 r))
  exact ⟨h1, fun v => by rw [h2 v, inR_append], by simpa using h3⟩
theorem both_dm {a b : List R} (ha : Can a) (hb : Can b) : bothF a b = notF (setF (notF a ++ notF b)) := by
  obtain ⟨a1, a2, _⟩ := notF_spec ha
  obtain ⟨b1, b2, _⟩ := notF_spec hb
  obtain ⟨e1, e2, _⟩ := either_spec a1 b1
  obtain ⟨n1, n2, _⟩ := notF_spec e1
  obtain ⟨c1, c2⟩ := bothF_spec ha hb
  refine uniq c1 n1 fun v => ?_
  rw [c2, n2, e2, a2, b2]
  constructor
  · rintro ⟨h1, h2⟩
    have := ha.range h1
    exact ⟨this.1, this.2, by rintro (h | h); exact h.2.2 h1; exact h.2.2 h2⟩
  · rintro ⟨h1, h2, h3⟩
    refine ⟨Classical.byContradiction fun h => h3 (.inl ⟨h1, h2, h⟩), Classical.byContradiction fun h => h3 (.inr ⟨h1, h2, h⟩)⟩
theorem both_len {a b : List R} (ha : Can a) (hb : Can b) : (bothF a b).length ≤ a.length + b.length + 3 := by
  obtain ⟨a1, a2, a3⟩ := notF_spec ha
  obtain ⟨b1, b2, b3⟩ := notF_spec hb
  obtain ⟨e1, e2, e3⟩ := either_spec a1 b1
  obtain ⟨n1, n2, n3⟩ := notF_spec e1
  rw [both_dm ha hb]
  omega
theorem not_not {a : List R} (ha : Can a) : notF (notF a) = a := by
  obtain ⟨a1, a2, _⟩ := notF_spec ha
  obtain ⟨n1, n2, _⟩ := notF_spec a1
  refine uniq n1 ha fun v => ?_
  rw [n2, a2]
  constructor
  · rintro ⟨h1, h2, h3⟩
    exact Classical.byContradiction fun h => h3 ⟨h1, h2, h⟩
  · intro h
    have := ha.range h
    exact ⟨this.1, this.2, fun h2 => h2.2.2 h⟩

open Classical in
theorem w5_true {l m : List R} {v : Int} (hl : ∀ r ∈ l, R64 r.Low ∧ R64 r.High) (hl2 : l.length < 2 ^ 62) (hm : ∀ r ∈ m, R64 r.Low ∧ R64 r.High) (hm2 : m.length < 2 ^ 62) (hv : R64 v) : w5 l m v (· = true) := by
  obtain ⟨a1, a2⟩ := setOf_spec l
  obtain ⟨b1, b2⟩ := setOf_spec m
  have ha3 : ∀ x, inR (setOf l) x → x ≤ 220 := by
    intro x hx
    unfold setOf at hx
    obtain ⟨r, h1, h2⟩ := (((setF_spec (rawF_ok l).1).2.1) x).1 hx
    obtain ⟨r0, _, rfl⟩ := List.mem_map.1 h1
    have q1 := rest_range r0.Low (m := 200) (by (try dsimp only at *); omega)
    have q2 := rest_range r0.High (m := 20) (by (try dsimp only at *); omega)
    simp only [rawR] at h2
    omega
  have s7l := s7 hl hl2
  have s7m := s7 hm hm2
  generalize hA : setOf l = A at *
  generalize hB : setOf m = B at *
  obtain ⟨e1, e2, e3⟩ := either_spec a1 b1
  obtain ⟨c1, c2⟩ := bothF_spec a1 b1
  have c3 := both_len a1 b1
  obtain ⟨n1, n2, n3⟩ := notF_spec a1
  have hr := rest_range v (m := 250) (by (try dsimp only at *); omega)
  have h5000 : inR (notF A) 5000 := by
    rw [n2]
    exact ⟨by omega, by omega, fun h => by have := ha3 _ h; omega⟩
  refine ⟨_, s7l, _, s7m, _, s13 hv (by (try dsimp only at *); omega), by unfold R64; omega, fun w hw => ?_⟩
  have hw1 : 1 ≤ w ∧ w ≤ 9999 := by omega
  refine ⟨_, s9 a1 b1 (by (try dsimp only at *); omega), _, s10 a1 b1 (by (try dsimp only at *); omega) (by (try dsimp only at *); omega) (by (try dsimp only at *); omega), _, s8 a1 (by (try dsimp only at *); omega), _, s14 A w (by (try dsimp only at *); omega), _, s14 B w (by (try dsimp only at *); omega), ?_⟩
  refine ⟨fun _ => ⟨fun _ => ⟨fun _ => ⟨fun _ => ⟨fun _ => ?_, fun h => absurd rfl h⟩, fun h => absurd rfl h⟩, fun h => absurd rfl h⟩, fun h => by simp at h⟩, fun h => by simp at h⟩
  have t1 := s14 (setF (A ++ B)) w (by (try dsimp only at *); omega)
  have t2 := s14 (bothF A B) w (by (try dsimp only at *); omega)
  have t3 := s14 (notF A) w (by (try dsimp only at *); omega)
  have t4 := s14 (notF A) 5000 (by (try dsimp only at *); omega)
  rw [show decide (inR (notF A) 5000) = true from decide_eq_true h5000] at t4
  refine ⟨_, t1, fun hin => ?_, fun hin => ?_⟩
  · have hA' : inR A w := by simpa using hin
    have k1 : inR (setF (A ++ B)) w := (e2 w).2 (.inl hA')
    have k2 : inR (bothF A B) w ↔ inR B w := by rw [c2]; exact ⟨fun h => h.2, fun h => ⟨hA', h⟩⟩
    have k3 : ¬ inR (notF A) w := fun h => ((n2 w).1 h).2.2 hA'
    rintro b rfl
    refine ⟨fun _ => ⟨_, t2, fun b hb => ⟨fun _ => ⟨_, t3, fun b hb => ⟨fun _ => ⟨_, t4, rfl⟩, fun h => ?_⟩⟩, fun h => ?_⟩⟩, fun h => ?_⟩
    · rw [hb] at h; simp [k3] at h
    · rw [hb] at h; simp [k2] at h
    · simp [k1] at h
  · have hA' : ¬ inR A w := by simpa using hin
    have k1 : inR (setF (A ++ B)) w ↔ inR B w := by rw [e2]; exact ⟨fun h => h.elim (fun h => absurd h hA') id, .inr⟩
    have k2 : ¬ inR (bothF A B) w := by rw [c2]; exact fun h => hA' h.1
    have k3 : inR (notF A) w := (n2 w).2 ⟨hw1.1, hw1.2, hA'⟩
    rintro b rfl
    refine ⟨fun _ => ⟨_, t2, fun b hb => ⟨fun _ => ⟨_, t3, fun b hb => ⟨fun _ => ⟨_, t4, rfl⟩, fun h => ?_⟩⟩, fun h => ?_⟩⟩, fun h => ?_⟩
    · rw [hb] at h; simp [k3] at h
    · rw [hb] at h; simp [k2] at h
    · simp [k1] at h
end Go.Hw.VD

