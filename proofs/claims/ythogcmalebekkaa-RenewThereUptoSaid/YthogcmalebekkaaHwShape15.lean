import Derived.Test.YthogcmalebekkaaHwShape14
set_option linter.unusedVariables false
set_option linter.unusedSimpArgs false
namespace Go.Hw.VR
open Go Go.Proofs

theorem s31 (vs ws : List Vl) (bs : List Bool) (hlen : vs.length ≤ 1000) (h1 : ws.length = vs.length) (h2 : bs.length = vs.length)
    (h : ∀ (i : Nat) (v w : Vl) (b : Bool), vs[i]? = some v → ws[i]? = some w → bs[i]? = some b → sp17 v w b) : sp31_17 vs ws (bs.all id) := by
  refine ok31_17 vs ws _ ⟨fun hne => by omega, fun _ => ?_⟩
  refine ⟨fun i => 0 ≤ i ∧ i ≤ vs.length ∧ ∀ j : Nat, (j : Int) < i → ∀ b, bs[j]? = some b → b = true, fun i => ((vs.length : Int) - i).toNat, ⟨by omega, by omega, fun j hj => by omega⟩, ?_⟩
  rintro i ⟨i0, i1, i2⟩ w rfl
  refine ⟨fun hi => ?_, fun hi => ?_⟩
  · simp at hi
    refine ⟨⟨i0, hi⟩, fun a ha => ⟨⟨i0, by omega⟩, fun c hc => ?_⟩⟩
    have hb : bs[i.toNat]? = some (bs[i.toNat]'(by omega)) := List.getElem?_eq_getElem (by omega)
    generalize bs[i.toNat]'(by omega) = b at hb
    refine ⟨b, by rw [vl_eta, vl_eta]; exact h _ _ _ _ ha hc hb, fun hf => ?_, fun ht => ?_⟩
    · have hbf : b = false := by simpa using hf
      show false = _
      symm
      rw [← Bool.not_eq_true, List.all_eq_true]
      intro hall
      have := hall b (List.mem_of_getElem? hb)
      rw [hbf] at this; cases this
    · have hbt : b = true := by simpa using ht
      refine ⟨by unfold R64; omega, ?_⟩
      rintro _ rfl
      refine ⟨⟨by omega, by omega, fun j hj x hx => ?_⟩, by simp only; omega⟩
      by_cases hji : (j : Int) < i
      · exact i2 j hji x hx
      · have : j = i.toNat := by omega
        subst this
        rw [hb] at hx; injection hx with hx; subst hx
        exact hbt
  · simp at hi
    show true = _
    symm
    rw [List.all_eq_true]
    intro x hx
    obtain ⟨j, hj⟩ := List.getElem?_of_mem hx
    exact i2 j (by have := (List.getElem?_eq_some_iff.1 hj).1; omega) x hj

theorem parts_len {k : Int} {z : Bool} {τ : CT} {s : List UInt8} {ps : List CT} (h : partsOf k z τ s = some ps) : ps.length ≤ 2 := by
  unfold partsOf at h
  split at h
  all_goals
    repeat' split at h
    all_goals first
      | (injection h with h; subst h; simp; done)
      | (injection h with h; subst h; split <;> simp; done)
      | exact absurd h (by simp)
theorem okVs_lens {k : Int} {z : Bool} {vs : List Vl} {ps : List CT} (h : okVs k z vs ps = true) : vs.length = ps.length := by
  by_cases e : vs.length = ps.length
  · exact e
  · rw [okVs_len k z vs ps e] at h; cases h

end Go.Hw.VR

