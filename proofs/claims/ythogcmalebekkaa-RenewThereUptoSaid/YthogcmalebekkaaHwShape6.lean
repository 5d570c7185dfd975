import Derived.Test.YthogcmalebekkaaHwShape5
set_option linter.unusedVariables false
set_option linter.unusedSimpArgs false
namespace Go.Hw.VR
open Go Go.Proofs

theorem den_kind {b : Bd} {τ : CT} (hb : Den b τ) (hs : Solid b) :
    (b.t.Kind = 1 ∧ τ = .int) ∨ (b.t.Kind = 2 ∧ τ = .bool) ∨ (b.t.Kind = 3 ∧ τ = .text) ∨ (b.t.Kind = 4 ∧ τ = .unit) ∨ (b.t.Kind = 6 ∧ kindOf τ = 5) ∨ (b.t.Kind = 9 ∧ ∃ τ', τ = .cell τ' ∧ ∃ t, b.t.Args = [t] ∧ Den ⟨t, b.names, b.args⟩ τ') := by
  cases hb with
  | var => exact absurd rfl hs
  | int => exact .inl ⟨rfl, rfl⟩
  | bool => exact .inr (.inl ⟨rfl, rfl⟩)
  | text => exact .inr (.inr (.inl ⟨rfl, rfl⟩))
  | unit => exact .inr (.inr (.inr (.inl ⟨rfl, rfl⟩)))
  | D => exact .inr (.inr (.inr (.inr (.inl ⟨rfl, rfl⟩))))
  | E => exact .inr (.inr (.inr (.inr (.inl ⟨rfl, rfl⟩))))
  | L => exact .inr (.inr (.inr (.inr (.inl ⟨rfl, rfl⟩))))
  | cell t ns ar τ h => exact .inr (.inr (.inr (.inr (.inr ⟨rfl, _, rfl, t, rfl, h⟩))))
theorem args_lt {v v' : Vl} (h : v' ∈ v.Args) : SizeOf.sizeOf v' < SizeOf.sizeOf v := by
  obtain ⟨kd, num, tx, vs⟩ := v
  have := List.sizeOf_lt_of_mem h
  simp only [GVl.mk.sizeOf_spec] at this ⊢
  omega
theorem fits_size {k : Int} {z : Bool} {p : Pr} (hp : p.Datas = datas k z) (hk : k = 1 ∨ k = 2) : ∀ (n : Nat) (v : Vl), SizeOf.sizeOf v < n → ∀ b τ, Den b τ → sp30 b p v (okV k z v τ)
  | 0, v, h, _, _, _ => absurd h (Nat.not_lt_zero _)
  | n + 1, v, hn, b, τ, hb => by
    obtain ⟨b', hb', hs, h45⟩ := den_at hb
    have hkd := den_kind hb' hs
    have ih : ∀ v' ∈ v.Args, ∀ b τ, Den b τ → sp30 b p v' (okV k z v' τ) := by
      intro v' hv' b τ h
      have := args_lt hv'
      exact fits_size hp hk n v' (by omega) b τ h
    refine ok30 b p v _ ⟨b', by simp only [ty_eta, bd_eta]; exact h45, ?_⟩
    intro m5 h5 m6 h6 m7 h7 m8 h8 m9 h9 m10 h10 m11 h11 v12 h12
    have hv12 : v12 = kindOf τ := by
      subst h5 h6 h7 h8 h9 h10 h11
      rcases hkd with ⟨h, ht⟩ | ⟨h, ht⟩ | ⟨h, ht⟩ | ⟨h, ht⟩ | ⟨h, ht⟩ | ⟨h, t', ht, _⟩
      all_goals
        rw [h12, h]
        simp [GM.get_put, GM.get_nil]
      · rw [ht]; rfl
      · rw [ht]; rfl
      · rw [ht]; rfl
      · rw [ht]; rfl
      · rw [ht]
      · rw [ht]; rfl
    have hne : kindOf τ ≠ 0 := by cases τ <;> simp [kindOf]
    rw [hv12]
    refine ⟨fun h => absurd h hne, fun _ => ⟨fun h => ?_, fun heq => ?_⟩⟩
    · rw [okV_eq]
      have : (v.Kind == kindOf τ) = false := by simpa using fun e : v.Kind = kindOf τ => h e.symm
      rw [this, Bool.false_and]
    · have hok : okV k z v τ = (match partsOf k z τ v.Text with | none => false | some ps => okVs k z v.Args ps) := by
        rw [okV_eq, heq]
        cases partsOf k z τ v.Text <;> simp
      refine ⟨fun l => l.length ≤ 1000 ∧ ∃ ps, partsOf k z τ v.Text = some ps ∧ Dens l ps, ⟨fun h6 => ?_, fun h6 => ⟨fun h9 => ?_, fun h9 => ?_⟩⟩, ?_⟩
      · obtain ⟨r, r1, r2⟩ := parts_data hp hk hb' hs h6 v.Text
        refine ⟨r, by simp only [ty_eta, bd_eta]; exact r1, fun hf => ?_, fun ht => ?_⟩
        · rcases r2 with ⟨r3, r4⟩ | ⟨ps, r3, r4, r5⟩
          · rw [hok, r3]
          · rw [r4] at hf; simp at hf
        · rcases r2 with ⟨r3, r4⟩ | ⟨ps, r3, r4, r5⟩
          · rw [r4] at ht; simp at ht
          · refine ⟨?_, ps, r3, r5⟩
            rw [dens_len r5]
            cases τ <;> simp only [partsOf] at r3
            all_goals (repeat' split at r3) <;> first | (injection r3 with r3; subst r3; simp; done) | (cases r3; done) | (injection r3 with r3; subst r3; split <;> simp; done)
      · rcases hkd with ⟨h, _⟩ | ⟨h, _⟩ | ⟨h, _⟩ | ⟨h, _⟩ | ⟨h, _⟩ | ⟨h, t', ht, t, hta, htd⟩
        · omega
        · omega
        · omega
        · omega
        · omega
        refine ⟨fun l i => 0 ≤ i ∧ i ≤ 1 ∧ l = (b'.t.Args.take i.toNat).map fun t => (⟨t, b'.names, b'.args⟩ : Bd), fun _ i => (1 - i).toNat, ⟨by omega, by omega, by simp⟩, ?_⟩
        rintro l i ⟨i0, i1, rfl⟩ w rfl
        rw [hta]
        refine ⟨fun hi => ?_, fun hi => ?_⟩
        · have hi' : i < 1 := by simpa using hi
          refine ⟨⟨i0, by simp; omega⟩, fun a ha => ⟨?_, ?_⟩⟩
          · simp only [List.length_map, List.length_take, List.length_singleton]; omega
          rintro _ rfl
          refine ⟨by unfold R64; omega, ?_⟩
          rintro _ rfl
          refine ⟨⟨by omega, by omega, ?_⟩, by simp only; omega⟩
          rw [(at_nat i0 ha).2.1, List.map_append, ty_eta]; rfl
        · have hi' : i = 1 := by simp at hi; omega
          subst hi'
          refine ⟨by simp, [t'], by rw [ht]; rfl, ?_⟩
          exact .cons htd .nil
      · refine ⟨by simp, [], ?_, .nil⟩
        rcases hkd with ⟨_, ht⟩ | ⟨_, ht⟩ | ⟨_, ht⟩ | ⟨_, ht⟩ | ⟨h, _⟩ | ⟨h, _⟩
        · rw [ht]; rfl
        · rw [ht]; rfl
        · rw [ht]; rfl
        · rw [ht]; rfl
        · exact absurd h h6
        · exact absurd h h9
      · rintro l ⟨hl, ps, hps, hd⟩
        refine ⟨_, s47 (k := k) (z := z) p hd v.Args (by omega) ih, ?_⟩
        rw [hok, hps]
theorem s30 {k : Int} {z : Bool} {p : Pr} (hp : p.Datas = datas k z) (hk : k = 1 ∨ k = 2) (v : Vl) {b : Bd} {τ : CT} (hb : Den b τ) : sp30 b p v (okV k z v τ) := fits_size hp hk _ v (Nat.lt_succ_self _) b τ hb
theorem den_ty (τ : CT) : Den ⟨τ.ty, [], []⟩ τ := by
  induction τ with
  | int => exact .int _ _
  | bool => exact .bool _ _
  | text => exact .text _ _
  | unit => exact .unit _ _
  | D => exact .D _ _
  | E => exact .E _ _
  | L t ih => exact .L _ _ _ _ ih
  | cell t ih => exact .cell _ _ _ _ ih
theorem s15 {k : Int} {z : Bool} {p : Pr} (hp : p.Datas = datas k z) (hk : k = 1 ∨ k = 2) (v : Vl) (τ : CT) : sp15 p τ.ty v (okV k z v τ) := by
  refine ok15 p τ.ty v _ ⟨okV k z v τ, ?_, rfl⟩
  simp only [ty_eta, vl_eta]
  exact s30 hp hk v (den_ty τ)
end Go.Hw.VR

