import Derived.Test.YtphdkcgchcogdaaHwSolve8
set_option linter.unusedVariables false
set_option linter.unusedSimpArgs false
namespace Go.Hw.VE
open Go Go.Proofs Go.Shelf

theorem Asc.uq {l : List Pk} (h : Asc l) : Uq l := h.imp fun hab e => by rw [e] at hab; exact Nat.lt_irrefl _ hab
theorem rk_nm : ∀ x, x < 5 → rk (nmN x) = 97 + x ∧ nmN x ∈ Nm5 := by decide
theorem s5 (l m : List Int) (n : Int) (hl : l.length ≤ 9223372036854775807) (hm : m.length ≤ 9223372036854775807) (hr : ∀ x ∈ l, R64 x) (hr' : ∀ x ∈ m, R64 x) (hn : R64 n) : sp5 l m n true := by
  refine ok5 _ _ _ _ ?_
  unfold w5
  obtain ⟨u, hu, hul, huo⟩ := s9 m hm hr'
  have hA := regF_at l 20 (by decide)
  have hB := root_bnd hul huo
  refine ⟨_, s8 l hl hr, u, hu, _, s10' hA hul huo [] (by decide), ?_⟩
  generalize regF l 20 = r at hA
  refine ⟨fun v7 v8 v9 => R64 v7 ∧ ∃ i : Nat, v9 = i ∧ i ≤ 5 ∧ Asc v8 ∧ v8.length ≤ i ∧ ∀ p ∈ v8, ∃ j, j < i ∧ p.Name = nmN j, fun _ _ v => (5 - v).toNat, ⟨hn, 0, rfl, by omega, List.Pairwise.nil, Nat.le_refl _, nofun⟩, ?_⟩
  rintro v7 v8 v ⟨h7, i, rfl, hi, hasc, hlen, hnm⟩ t ht
  refine ⟨fun h1 => ?_, fun h1 => ?_⟩
  · have hlt : i < 5 := by rw [h1] at ht; have := of_decide_eq_true ht.symm; omega
    refine ⟨fun v23 => Asc v23 ∧ v23.length ≤ i + 1 ∧ ∀ p ∈ v23, ∃ j, j < i + 1 ∧ p.Name = nmN j, ⟨_, s12 v7 5 h7 (by decide), fun h2 => ⟨by simp only [R64]; omega, ?_⟩, fun h2 => ⟨hasc, by omega, fun p hp => let ⟨j, hj, hj'⟩ := hnm p hp; ⟨j, by omega, hj'⟩⟩⟩, ?_⟩
    · rintro _ rfl
      rintro _ rfl
      obtain ⟨e1, e2⟩ := byte_nm (i : Int) (by omega) (by omega)
      rw [e1, e2]
      refine ⟨fun q hq => by simp only [List.mem_cons, List.not_mem_nil, or_false] at hq; omega, by simp only [List.length_cons, List.length_nil]; omega, ?_⟩
      rintro _ rfl
      have hti : (i : Int).toNat = i := by omega
      rw [hti]
      refine ⟨List.pairwise_append.2 ⟨hasc, List.pairwise_singleton _ _, fun a ha b hb => ?_⟩, by simp; omega, fun p hp => ?_⟩
      · obtain rfl : b = (⟨nmN i, restF v7 5⟩ : Pk) := by simpa using hb
        obtain ⟨j, hj, hj'⟩ := hnm a ha
        rw [hj', (rk_nm j (by omega)).1, (rk_nm i hlt).1]
        omega
      · rcases List.mem_append.1 hp with hp | hp
        · obtain ⟨j, hj, hj'⟩ := hnm p hp
          exact ⟨j, by omega, hj'⟩
        · obtain rfl : p = (⟨nmN i, restF v7 5⟩ : Pk) := by simpa using hp
          exact ⟨i, by omega, rfl⟩
    · rintro v23 ⟨g1, g2, g3⟩
      have hb := restF_bound v7 1099511627776 (by decide)
      have hrr : R64 (restF v7 1099511627776) := by simp only [R64]; omega
      refine ⟨_, s12 v7 1099511627776 h7 (by decide), ⟨by decide, r64_td hrr (by decide)⟩, ?_⟩
      rintro _ rfl
      refine ⟨by simp only [R64]; omega, ?_⟩
      rintro _ rfl
      exact ⟨⟨r64_td hrr (by decide), i + 1, by omega, by omega, g1, g2, g3⟩, by dsimp only; omega⟩
  · have hge : ¬ ((i : Int) < 5) := by rw [h1] at ht; exact of_decide_eq_false ht.symm
    have hN : ∀ p ∈ v8, p.Name ∈ Nm5 := fun p hp => by
      obtain ⟨j, hj, hj'⟩ := hnm p hp
      rw [hj']; exact (rk_nm j (by omega)).2
    refine ⟨true, s13, fun _ => ⟨fun _ => rfl, fun hne => ⟨_, s16 hA hul huo (by omega) hN hasc, ?_⟩⟩, fun h => by cases h⟩
    cases hb : rightB r u v8 with
    | false => rfl
    | true =>
      obtain ⟨S, hS⟩ := right_sel hasc.uq hb
      obtain ⟨P, W, _, h2⟩ := best_some (hA.reg [] (by decide)) hB hS
      rw [h2] at hne
      exact absurd rfl hne
end Go.Hw.VE

