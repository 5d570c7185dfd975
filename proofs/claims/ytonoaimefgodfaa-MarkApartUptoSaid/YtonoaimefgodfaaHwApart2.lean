import Derived.Test.YtonoaimefgodfaaHwApart
set_option linter.unusedVariables false
set_option linter.unusedSimpArgs false
namespace Go.Hw.VK
open Go Go.Proofs

theorem odds_step {l : List Int} {j : Int} (h0 : 0 ≤ j) {a : Int} (ha : l[j.toNat]? = some a) : odds l (j + 1).toNat = if j.tmod 2 = 1 then odds l j.toNat ++ [a] else odds l j.toNat := by
  rw [show (j + 1).toNat = j.toNat + 1 by omega, odds, ha, Int.tmod_eq_emod_of_nonneg h0]
  by_cases h : j.toNat % 2 = 1
  · rw [if_pos h, if_pos (by omega)]; rfl
  · rw [if_neg h, if_neg (by omega)]
theorem w5_true (l m : List Int) (st : Int) : w5 l m st (fun b => b = true) := by
  obtain ⟨v, hv, v0, v1, v2, v3⟩ := take30 l
  obtain ⟨u, hu, u0, u1, u2, u3⟩ := take30 m
  refine ⟨_, s20, fun h => absurd rfl h, fun _ => ?_⟩
  rintro _ rfl
  rw [← hv]
  refine ⟨by omega, ?_⟩
  rintro _ rfl _ rfl
  rw [← hu]
  refine ⟨by omega, ?_⟩
  rintro _ rfl
  rw [v2, u2]
  generalize l.take 30 = L at v3
  generalize m.take 30 = M at u3
  refine ⟨fun pe bg s w0 w1 ov j => pe = [1, 2] ∧ bg = false ∧ s = 0 ∧ w0 = [] ∧ w1 = [] ∧ ov = [false, false] ∧ 0 ≤ j ∧ j ≤ L.length, fun _ _ _ _ _ _ j => ((L.length : Int) - j).toNat, ⟨rfl, rfl, rfl, rfl, rfl, rfl, by omega, by omega⟩, ?_⟩
  rintro _ _ _ _ _ _ j ⟨rfl, rfl, rfl, rfl, rfl, rfl, j0, j1⟩ w rfl
  refine ⟨fun hj => ?_, fun _ => ?_⟩
  · simp at hj
    refine ⟨⟨j0, hj⟩, fun a ha => ⟨_, s21_no (.inl rfl) a (.inl rfl), fun h => absurd rfl h, fun _ => ⟨by unfold R64; omega, ?_⟩⟩⟩
    rintro _ rfl
    exact ⟨⟨rfl, rfl, rfl, rfl, rfl, rfl, by omega, by omega⟩, by simp only; omega⟩
  refine ⟨_, s22_one st, ?_⟩
  refine ⟨fun pe bg s w0 w1 ov j => pe = [1, 2] ∧ bg = true ∧ st = s ∧ w0 = [] ∧ w1 = odds M j.toNat ∧ ov = [true, false] ∧ 0 ≤ j ∧ j ≤ M.length, fun _ _ _ _ _ _ j => ((M.length : Int) - j).toNat, ⟨rfl, rfl, rfl, rfl, rfl, rfl, by omega, by omega⟩, ?_⟩
  rintro _ _ _ _ _ _ j ⟨rfl, rfl, rfl, rfl, rfl, rfl, j0, j1⟩ w rfl
  refine ⟨fun hj => ?_, fun hj => ?_⟩
  · simp at hj
    refine ⟨⟨j0, hj⟩, fun a ha => ⟨by omega, ?_⟩⟩
    rintro _ rfl
    have hm : j.tmod 2 = 0 ∨ j.tmod 2 = 1 := by rw [Int.tmod_eq_emod_of_nonneg j0]; omega
    refine ⟨by unfold R64; omega, ?_⟩
    rintro _ rfl
    have hstep := odds_step j0 ha
    have hlen := odds_len M j.toNat
    rcases hm with hm | hm
    · rw [hm] at hstep ⊢
      rw [if_neg (by omega)] at hstep
      refine ⟨_, s21_no (.inl rfl) a (.inr (.inl ⟨rfl, rfl⟩)), fun h => absurd rfl h, fun _ => ⟨by unfold R64; omega, ?_⟩⟩
      rintro _ rfl
      refine ⟨⟨rfl, rfl, rfl, rfl, ?_, rfl, by omega, by omega⟩, by simp only; omega⟩
      rw [hstep]; rfl
    · rw [hm] at hstep ⊢
      rw [if_pos rfl] at hstep
      refine ⟨_, s21_yes a (by omega), fun h => absurd rfl h, fun _ => ⟨by unfold R64; omega, ?_⟩⟩
      rintro _ rfl
      refine ⟨⟨rfl, rfl, rfl, rfl, ?_, rfl, by omega, by omega⟩, by simp only; omega⟩
      rw [hstep]; rfl
  simp at hj
  have hjm : j.toNat = M.length := by omega
  rw [hjm]
  have hlen := odds_len M M.length
  generalize hW : odds M M.length = W at hlen
  refine ⟨by trivial, ?_⟩
  rintro _ rfl
  refine ⟨_, s22_two st _ W, ?_⟩
  refine ⟨fun pe bg s w0 w1 ov j => pe = [1, 2] ∧ bg = true ∧ st = s ∧ w0 = [] ∧ W = w1 ∧ ov = [true, true] ∧ 0 ≤ j ∧ j ≤ L.length, fun _ _ _ _ _ _ j => ((L.length : Int) - j).toNat, ⟨rfl, rfl, rfl, rfl, rfl, rfl, by omega, by omega⟩, ?_⟩
  rintro _ _ _ _ _ _ i ⟨rfl, rfl, rfl, rfl, rfl, rfl, i0, i1⟩ w rfl
  refine ⟨fun hi => ?_, fun _ => ?_⟩
  · simp at hi
    refine ⟨⟨i0, hi⟩, fun a ha => ⟨_, s21_no (.inr rfl) a (.inr (.inr ⟨rfl, rfl⟩)), by unfold R64; omega, ?_⟩⟩
    rintro _ rfl
    exact ⟨⟨rfl, rfl, rfl, rfl, rfl, rfl, by omega, by omega⟩, by simp only; omega⟩
  refine ⟨_, s23 st W (by omega), ?_⟩
  refine ⟨fun x c => 0 ≤ c ∧ c ≤ M.length ∧ x = odds M c.toNat, fun _ c => ((M.length : Int) - c).toNat, ⟨by omega, by omega, rfl⟩, ?_⟩
  rintro _ c ⟨c0, c1, rfl⟩ w rfl
  refine ⟨fun hc => ?_, fun hc => ?_⟩
  · simp at hc
    refine ⟨⟨c0, hc⟩, fun a ha => ⟨by omega, ?_⟩⟩
    rintro _ rfl
    have hstep := odds_step c0 ha
    have hlen2 := odds_len M c.toNat
    refine ⟨fun hm => ⟨by simp; omega, ?_⟩, fun hm => ⟨by unfold R64; omega, ?_⟩⟩
    · rintro _ rfl
      refine ⟨by unfold R64; omega, ?_⟩
      rintro _ rfl
      rw [if_pos hm] at hstep
      exact ⟨⟨by omega, by omega, hstep.symm⟩, by simp only; omega⟩
    · rintro _ rfl
      rw [if_neg hm] at hstep
      exact ⟨⟨by omega, by omega, hstep.symm⟩, by simp only; omega⟩
  · simp at hc
    have hcm : c.toNat = M.length := by omega
    rw [hcm, hW]
    refine ⟨fun _ => ⟨fun _ => ⟨fun _ => ⟨fun _ => ⟨fun _ => ⟨fun _ => ⟨fun _ => ⟨by simp, fun a ha => ?_⟩, fun h => absurd rfl h⟩, fun h => absurd rfl h⟩, fun h => absurd rfl h⟩, fun h => absurd rfl h⟩, fun h => absurd rfl h⟩, fun h => by simp at h⟩, fun h => by simp at h⟩
    simp at ha; subst ha
    refine ⟨fun _ => ⟨by simp, fun b hb => ?_⟩, fun h => absurd rfl h⟩
    simp at hb; subst hb
    exact ⟨true, s24 W (by omega), rfl⟩
theorem apart_call (l m : List Int) (st : Int) : sp5 l m st true := ok5 l m st true (w5_true l m st)
end Go.Hw.VK

