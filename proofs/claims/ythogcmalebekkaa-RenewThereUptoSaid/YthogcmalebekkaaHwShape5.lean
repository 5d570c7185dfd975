import Derived.Test.YthogcmalebekkaaHwShape4
set_option linter.unusedVariables false
set_option linter.unusedSimpArgs false
namespace Go.Hw.VR
open Go Go.Proofs

mutual
def okV (k : Int) (z : Bool) : Vl → CT → Bool
  | ⟨kd, num, tx, vs⟩, τ => kd == kindOf τ && (match partsOf k z τ tx with
    | none => false
    | some ps => okVs k z vs ps)
def okVs (k : Int) (z : Bool) : List Vl → List CT → Bool
  | [], [] => true
  | v :: vs, τ :: ps => okV k z v τ && okVs k z vs ps
  | _, _ => false
end
theorem okV_eq (k : Int) (z : Bool) (v : Vl) (τ : CT) : okV k z v τ = (v.Kind == kindOf τ && (match partsOf k z τ v.Text with | none => false | some ps => okVs k z v.Args ps)) := by
  obtain ⟨kd, num, tx, vs⟩ := v
  rw [okV]
theorem okVs_len (k : Int) (z : Bool) : ∀ (vs : List Vl) (ps : List CT), vs.length ≠ ps.length → okVs k z vs ps = false
  | [], [], h => absurd rfl h
  | [], _ :: _, _ => by simp [okVs]
  | _ :: _, [], _ => by simp [okVs]
  | v :: vs, τ :: ps, h => by rw [okVs, okVs_len k z vs ps (by simpa using h), Bool.and_false]
theorem okVs_bad (k : Int) (z : Bool) : ∀ (vs : List Vl) (ps : List CT) (i : Nat) (v : Vl) (τ : CT), vs[i]? = some v → ps[i]? = some τ → okV k z v τ = false → okVs k z vs ps = false
  | [], _, i, v, τ, h, _, _ => by simp at h
  | _ :: _, [], i, v, τ, _, h, _ => by simp at h
  | a :: vs, t :: ps, 0, v, τ, h1, h2, h3 => by
    simp at h1 h2; subst h1; subst h2
    rw [okVs, h3, Bool.false_and]
  | a :: vs, t :: ps, i + 1, v, τ, h1, h2, h3 => by
    rw [okVs, okVs_bad k z vs ps i v τ (by simpa using h1) (by simpa using h2) h3, Bool.and_false]
theorem okVs_good (k : Int) (z : Bool) : ∀ (vs : List Vl) (ps : List CT), vs.length = ps.length → (∀ (i : Nat) (v : Vl) (τ : CT), vs[i]? = some v → ps[i]? = some τ → okV k z v τ = true) → okVs k z vs ps = true
  | [], [], _, _ => by rw [okVs]
  | [], _ :: _, h, _ => by simp at h
  | _ :: _, [], h, _ => by simp at h
  | v :: vs, τ :: ps, h, hi => by
    rw [okVs, hi 0 v τ rfl rfl, okVs_good k z vs ps (by simpa using h) (fun i a t h1 h2 => hi (i + 1) a t (by simpa using h1) (by simpa using h2)), Bool.and_self]

theorem dens_len {bs : List Bd} {ps : List CT} (h : Dens bs ps) : bs.length = ps.length := by
  induction h with
  | nil => rfl
  | cons _ _ ih => simp [ih]
theorem dens_get {bs : List Bd} {ps : List CT} (h : Dens bs ps) : ∀ (i : Nat) (b : Bd), bs[i]? = some b → ∃ τ, ps[i]? = some τ ∧ Den b τ := by
  induction h with
  | nil => intro i b hb; simp at hb
  | cons h _ ih =>
    intro i b hb
    cases i with
    | zero => simp at hb; subst hb; exact ⟨_, rfl, h⟩
    | succ i => exact ih i b (by simpa using hb)

theorem s47 {k : Int} {z : Bool} (p : Pr) {bs : List Bd} {ps : List CT} (hd : Dens bs ps) (vs : List Vl) (hl : bs.length < 2 ^ 62)
    (ih : ∀ v ∈ vs, ∀ b τ, Den b τ → sp30 b p v (okV k z v τ)) : sp47_48 bs vs p (okVs k z vs ps, p) := by
  have hlen := dens_len hd
  refine ok47_48 bs vs p _ ⟨fun hne => ?_, fun heq => ?_⟩
  · rw [okVs_len k z vs ps (by omega)]
  · refine ⟨fun a b c d e f g h i => GPr.mk a b c d e f g h = p ∧ 0 ≤ i ∧ i ≤ bs.length ∧ ∀ j : Nat, (j : Int) < i → ∀ v τ, vs[j]? = some v → ps[j]? = some τ → okV k z v τ = true,
      fun _ _ _ _ _ _ _ _ i => ((bs.length : Int) - i).toNat, ⟨rfl, by omega, by omega, fun j hj => by omega⟩, ?_⟩
    rintro a b c d e f g h i ⟨rfl, h0, h1, h2⟩ w rfl
    refine ⟨fun hi => ?_, fun hi => ?_⟩
    · simp at hi
      refine ⟨⟨h0, hi⟩, fun bd hbd => ⟨⟨h0, by omega⟩, fun v hv => ?_⟩⟩
      obtain ⟨τ, hτ, hden⟩ := dens_get hd i.toNat bd hbd
      have h30 := ih v (List.mem_of_getElem? hv) bd τ hden
      refine ⟨_, ok48 _ _ _ (okV k z v τ, GPr.mk a b c d e f g h) ⟨okV k z v τ, ?_, rfl⟩, fun hf => ?_, fun ht => ?_⟩
      · simp only [ty_eta, bd_eta, vl_eta]
        exact h30
      · have : okV k z v τ = false := by simpa using hf
        rw [okVs_bad k z vs ps i.toNat v τ hv hτ this]
      · have hok : okV k z v τ = true := by simpa using ht
        refine ⟨by unfold R64; omega, ?_⟩
        rintro _ rfl
        refine ⟨⟨rfl, by omega, by omega, fun j hj v' τ' hv' hτ' => ?_⟩, by simp only; omega⟩
        by_cases hji : (j : Int) < i
        · exact h2 j hji v' τ' hv' hτ'
        · have : j = i.toNat := by omega
          subst this
          rw [hv] at hv'; injection hv' with hv'; subst hv'
          rw [hτ] at hτ'; injection hτ' with hτ'; subst hτ'
          exact hok
    · simp at hi
      rw [okVs_good k z vs ps (by omega) (fun j v τ hv hτ => h2 j (by have := (List.getElem?_eq_some_iff.1 hv).1; omega) v τ hv hτ)]
end Go.Hw.VR

