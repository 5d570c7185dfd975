import Derived.Test.YthogcmalebekkaaHwSame4
set_option linter.unusedVariables false
set_option linter.unusedSimpArgs false
namespace Go.Hw.VR
open Go Go.Proofs

theorem kb_of (n : Int) : ∃ b, kb b = 1 + rest n 2 := by
  have hr := rest_range n (m := 2) (by omega)
  have : rest n 2 = 0 ∨ rest n 2 = 1 := by omega
  rcases this with h | h
  · exact ⟨false, by rw [h]; rfl⟩
  · exact ⟨true, by rw [h]; rfl⟩
theorem progF_kb (n : Int) : ∃ b z, (progF n).Datas = datas (kb b) z := by
  obtain ⟨b, hb⟩ := kb_of n
  exact ⟨b, _, by rw [hb]; rfl⟩
theorem mem_B2 (b : Bool) : b ∈ B2 := by cases b <;> simp [B2]
theorem out_self (b z : Bool) {a : Ty} (ha : a ∈ t9) : outB b z b z a a = some true := by
  have := chk_self
  rw [List.all_eq_true] at this
  have := this b (mem_B2 b)
  rw [List.all_eq_true] at this
  have := this z (mem_B2 z)
  rw [List.all_eq_true] at this
  simpa using this a ha
theorem out_sym (b z b' z' : Bool) {a c : Ty} (ha : a ∈ t9) (hc : c ∈ t9) : ∃ r, outB b z b' z' a c = some r ∧ outB b' z' b z c a = some r := by
  have := chk_sym
  rw [List.all_eq_true] at this
  have := this b (mem_B2 b)
  rw [List.all_eq_true] at this
  have := this z (mem_B2 z)
  rw [List.all_eq_true] at this
  have := this b' (mem_B2 b')
  rw [List.all_eq_true] at this
  have := this z' (mem_B2 z')
  rw [List.all_eq_true] at this
  have := this a ha
  rw [List.all_eq_true] at this
  have := this c hc
  simp only [Bool.and_eq_true, beq_iff_eq] at this
  obtain ⟨r, hr⟩ := Option.isSome_iff_exists.1 this.1
  exact ⟨r, hr, by rw [← this.2]; exact hr⟩
theorem datas_len (k : Int) (z : Bool) : (datas k z).length ≤ 1000 := by simp [datas]
theorem s13b {p q : Pr} {b z b' z' : Bool} (hp : p.Datas = datas (kb b) z) (hq : q.Datas = datas (kb b') z') {a c : Ty} {t : Bool} (h : outB b z b' z' a c = some t) : sp13 p q a c t :=
  s13 (f := 5) (by rw [hp]; exact datas_len _ _) (by rw [hq]; exact datas_len _ _) (by rw [hp, hq]; exact h)
def agr (k : Int) (z : Bool) (k' : Int) (z' : Bool) : CT → Bool
  | .D => k == k'
  | .L t => z == z' && (!z || k == k') && agr k z k' z' t
  | .E => k == k' && z == z'
  | .cell t => agr k z k' z' t
  | _ => true
theorem agr_self (k : Int) (z : Bool) (τ : CT) : agr k z k z τ = true := by
  induction τ <;> simp_all [agr]
theorem agr_parts {k : Int} {z : Bool} {k' : Int} {z' : Bool} {τ : CT} (h : agr k z k' z' τ = true) (s : Nm) : partsOf k z τ s = partsOf k' z' τ s ∧ ∀ ps, partsOf k z τ s = some ps → ∀ σ ∈ ps, agr k z k' z' σ = true := by
  cases τ with
  | int => exact ⟨rfl, fun ps h => by simp [partsOf] at h; subst h; simp⟩
  | bool => exact ⟨rfl, fun ps h => by simp [partsOf] at h; subst h; simp⟩
  | text => exact ⟨rfl, fun ps h => by simp [partsOf] at h; subst h; simp⟩
  | unit => exact ⟨rfl, fun ps h => by simp [partsOf] at h; subst h; simp⟩
  | D =>
    have hk : k = k' := by simpa [agr] using h
    subst hk
    refine ⟨rfl, fun ps hps => ?_⟩
    simp only [partsOf] at hps
    repeat' split at hps
    all_goals first | (cases hps; done) | (injection hps with hps; subst hps)
    · simp [agr]
    · simp only [List.mem_singleton, forall_eq]
      unfold ctOf; split <;> rfl
    · simp
  | E =>
    have hk : k = k' ∧ z = z' := by simpa [agr] using h
    obtain ⟨rfl, rfl⟩ := hk
    refine ⟨rfl, fun ps hps σ _ => agr_self k z σ⟩
  | cell t =>
    refine ⟨rfl, fun ps hps => ?_⟩
    simp only [partsOf] at hps
    injection hps with hps; subst hps
    simpa [agr] using h
  | L t =>
    simp only [agr, Bool.and_eq_true, beq_iff_eq] at h
    obtain ⟨⟨rfl, hzk⟩, ht⟩ := h
    refine ⟨rfl, fun ps hps => ?_⟩
    simp only [partsOf] at hps
    split at hps
    · injection hps with hps; subst hps
      cases z
      · simp
      · simp at hzk; subst hzk; simp [agr]
    · split at hps
      · injection hps with hps; subst hps
        simp only [List.mem_cons, List.not_mem_nil, or_false, forall_eq_or_imp, forall_eq]
        refine ⟨ht, ?_⟩
        simp only [agr, Bool.and_eq_true, beq_iff_eq]
        exact ⟨⟨trivial, hzk⟩, ht⟩
      · cases hps
theorem okVs_agr {k : Int} {z : Bool} {k' : Int} {z' : Bool} : ∀ (vs : List Vl) (ps : List CT), (∀ v ∈ vs, ∀ σ ∈ ps, okV k z v σ = okV k' z' v σ) → okVs k z vs ps = okVs k' z' vs ps
  | [], [], _ => by simp [okVs]
  | [], _ :: _, _ => by simp [okVs]
  | _ :: _, [], _ => by simp [okVs]
  | v :: vs, σ :: ps, h => by
    rw [okVs, okVs, h v (by simp) σ (by simp), okVs_agr vs ps (fun u hu ρ hρ => h u (by simp [hu]) ρ (by simp [hρ]))]
theorem okV_agr {k : Int} {z : Bool} {k' : Int} {z' : Bool} : ∀ (n : Nat) (v : Vl), SizeOf.sizeOf v < n → ∀ τ, agr k z k' z' τ = true → okV k z v τ = okV k' z' v τ
  | 0, v, h, _, _ => absurd h (Nat.not_lt_zero _)
  | n + 1, v, hn, τ, h => by
    obtain ⟨h1, h2⟩ := agr_parts h v.Text
    rw [okV_eq, okV_eq, ← h1]
    cases hps : partsOf k z τ v.Text with
    | none => rfl
    | some ps =>
      show (_ && okVs k z v.Args ps) = (_ && okVs k' z' v.Args ps)
      rw [okVs_agr v.Args ps (fun u hu σ hσ => okV_agr n u (by have := args_lt hu; omega) σ (h2 ps hps σ hσ))]
theorem chk_agr : (B2.all fun b => B2.all fun z => B2.all fun b' => B2.all fun z' => c9.all fun τ => !(outB b z b' z' τ.ty τ.ty == some true) || agr (kb b) z (kb b') z' τ) = true := by decide +kernel
theorem out_agr {b z b' z' : Bool} {τ : CT} (hτ : τ ∈ c9) (h : outB b z b' z' τ.ty τ.ty = some true) : agr (kb b) z (kb b') z' τ = true := by
  have := chk_agr
  rw [List.all_eq_true] at this
  have := this b (mem_B2 b)
  rw [List.all_eq_true] at this
  have := this z (mem_B2 z)
  rw [List.all_eq_true] at this
  have := this b' (mem_B2 b')
  rw [List.all_eq_true] at this
  have := this z' (mem_B2 z')
  rw [List.all_eq_true] at this
  have := this τ hτ
  rw [h] at this
  simpa using this
theorem kb_or (b : Bool) : kb b = 1 ∨ kb b = 2 := by cases b <;> simp [kb]
end Go.Hw.VR

