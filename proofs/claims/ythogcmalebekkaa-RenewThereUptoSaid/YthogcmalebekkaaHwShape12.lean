import Derived.Test.YthogcmalebekkaaHwShape11
set_option linter.unusedVariables false
set_option linter.unusedSimpArgs false
namespace Go.Hw.VR
open Go Go.Proofs

def Fst (k : Int) (z : Bool) (p : Pr) (d : Int) (τ : CT) (r : Vl × Bool) : Prop :=
  sp32 p τ.ty d r ∧ (r.2 = true → okV k z r.1 τ = true) ∧ (need τ ≤ d → r.2 = true)
theorem each {α β : Type} (ps : List α) (P : α → β → Prop) (h : ∀ a ∈ ps, ∃ b, P a b) : ∃ bs : List β, bs.length = ps.length ∧ ∀ (i : Nat) (a : α), ps[i]? = some a → ∃ b, bs[i]? = some b ∧ P a b := by
  induction ps with
  | nil => exact ⟨[], rfl, fun i a h => by simp at h⟩
  | cons a ps ih =>
    obtain ⟨b, hb⟩ := h a (by simp)
    obtain ⟨bs, h1, h2⟩ := ih (fun x hx => h x (by simp [hx]))
    refine ⟨b :: bs, by simp [h1], fun i x hx => ?_⟩
    cases i with
    | zero => simp at hx; subst hx; exact ⟨b, rfl, hb⟩
    | succ i => exact h2 i x (by simpa using hx)

theorem s50 {k : Int} {z : Bool} {p : Pr} {τ : CT} {nm : List UInt8} {ps : List CT} (h69 : sp69 p τ.ty nm (ps.map CT.ty, true)) (hlen : ps.length ≤ 2) (d : Int)
    (ih : 0 ≤ d → ∀ σ ∈ ps, ∃ r, Fst k z p d σ r) : ∃ r : List Vl × Bool, sp50 p τ.ty nm d r ∧ (r.2 = true → okVs k z r.1 ps = true) ∧ (0 ≤ d → (∀ σ ∈ ps, need σ ≤ d) → r.2 = true) := by
  by_cases hd : 0 ≤ d
  · obtain ⟨rs, hl, hrs⟩ := each ps (Fst k z p d) (ih hd)
    have hget : ∀ (i : Nat) (x : Vl × Bool), rs[i]? = some x → ∃ σ, ps[i]? = some σ ∧ Fst k z p d σ x := by
      intro i x hx
      have hi := (List.getElem?_eq_some_iff.1 hx).1
      have hσ : ps[i]? = some ps[i] := List.getElem?_eq_getElem (by omega)
      obtain ⟨b, hb, hf⟩ := hrs i _ hσ
      rw [hx] at hb; injection hb with hb; subst hb
      exact ⟨_, hσ, hf⟩
    refine ⟨if rs.all (·.2) then (rs.map (·.1), true) else ([], false), ?_, ?_, ?_⟩
    · refine ok50 p τ.ty nm d _ ⟨(ps.map CT.ty, true), by rw [ty_eta]; exact h69, fun h => by simp at h, fun _ => ⟨fun h => by omega, fun _ => ?_⟩⟩
      refine ⟨fun us j => 0 ≤ j ∧ j ≤ ps.length ∧ us = (rs.map (·.1)).take j.toNat ∧ ∀ i : Nat, (i : Int) < j → ∀ x, rs[i]? = some x → x.2 = true, fun _ j => ((ps.length : Int) - j).toNat, ⟨by omega, by omega, by simp, fun i hi => by omega⟩, ?_⟩
      rintro us j ⟨j0, j1, rfl, j2⟩ w rfl
      refine ⟨fun hj => ?_, fun hj => ?_⟩
      · simp at hj
        refine ⟨⟨j0, by simpa using hj⟩, fun a ha => ?_⟩
        have hx : rs[j.toNat]? = some (rs[j.toNat]'(by omega)) := List.getElem?_eq_getElem (by omega)
        generalize hxd : rs[j.toNat]'(by omega) = x at hx
        obtain ⟨σ, hσ, hf⟩ := hget _ _ hx
        have haσ : a = σ.ty := by
          simp only [List.getElem?_map, hσ, Option.map_some, Option.some.injEq] at ha
          exact ha.symm
        refine ⟨x, by rw [haσ, ty_eta]; exact hf.1, fun hb => ?_, fun hb => ?_⟩
        · have hxf : x.2 = false := by simpa using hb
          have hall : rs.all (·.2) = false := by
            rw [← Bool.not_eq_true, List.all_eq_true]
            intro h
            have := h x (List.mem_of_getElem? hx)
            rw [hxf] at this; cases this
          show ([], false) = _
          rw [hall]; rfl
        · have hxt : x.2 = true := by simpa using hb
          have hm : (rs.map (·.1))[j.toNat]? = some x.1 := by rw [List.getElem?_map, hx]; rfl
          refine ⟨?_, ?_⟩
          · simp only [List.length_take, List.length_singleton, List.length_map]; omega
          rintro _ rfl
          refine ⟨by unfold R64; omega, ?_⟩
          rintro _ rfl
          refine ⟨⟨by omega, by omega, ?_, fun i hi y hy => ?_⟩, by simp only; omega⟩
          · rw [(at_nat j0 hm).2.1, vl_eta]
          · by_cases hij : (i : Int) < j
            · exact j2 i hij y hy
            · have : i = j.toNat := by omega
              subst this
              rw [hx] at hy; injection hy with hy; subst hy
              exact hxt
      · simp at hj
        have hall : rs.all (·.2) = true := by
          rw [List.all_eq_true]
          intro x hx
          obtain ⟨i, hi⟩ := List.getElem?_of_mem hx
          exact j2 i (by have := (List.getElem?_eq_some_iff.1 hi).1; omega) x hi
        show ((rs.map (·.1)).take j.toNat, true) = _
        rw [hall, all_nat (by simp; omega)]; rfl
    · intro h
      cases hall : rs.all (·.2) with
      | false => rw [hall] at h; simp at h
      | true =>
        rw [if_pos rfl]
        rw [List.all_eq_true] at hall
        refine okVs_good k z _ _ (by simp [hl]) (fun i v σ hv hσ => ?_)
        obtain ⟨x, hx, hf⟩ := hrs i σ hσ
        simp only [List.getElem?_map, hx, Option.map_some, Option.some.injEq] at hv
        subst hv
        exact hf.2.1 (hall x (List.mem_of_getElem? hx))
    · intro _ hn
      have hall : rs.all (·.2) = true := by
        rw [List.all_eq_true]
        intro x hx
        obtain ⟨i, hi⟩ := List.getElem?_of_mem hx
        obtain ⟨σ, hσ, hf⟩ := hget _ _ hi
        exact hf.2.2 (hn σ (List.mem_of_getElem? hσ))
      rw [hall]; rfl
  · refine ⟨([], false), ok50 p τ.ty nm d _ ⟨(ps.map CT.ty, true), by rw [ty_eta]; exact h69, fun h => by simp at h, fun _ => ⟨fun _ => rfl, fun h => by omega⟩⟩, fun h => by simp at h, fun h => by omega⟩

theorem head32 {p : Pr} {t : Ty} {d : Int} {Q : Vl × Bool → Prop}
    (h : (t.Kind = 1 → Q (⟨2, 0, [], []⟩, true)) ∧ (t.Kind = 2 → Q (⟨3, 0, [], []⟩, true)) ∧ (t.Kind = 3 → Q (⟨4, 0, [], []⟩, true)) ∧ (t.Kind = 4 → Q (⟨1, 0, [], []⟩, true)) ∧
      (t.Kind = 9 → ∃ a, t.Args = [a] ∧ (d = 0 → Q (⟨0, 0, [], []⟩, false)) ∧ (d ≠ 0 → R64 (d - 1) ∧ ∃ r, sp32 p a (d - 1) r ∧ Q (⟨8, 0, [], [r.1]⟩, r.2))) ∧
      (t.Kind = 6 → ∃ r16 : Da × Bool, sp49 p t.Name r16 ∧ R64 (d - 1) ∧ ∃ rs : List (List Vl × Bool), rs.length = r16.1.Makes.length ∧ r16.1.Makes.length ≤ 1000 ∧ (∀ (i : Nat) (m : Mk), r16.1.Makes[i]? = some m → ∃ r, rs[i]? = some r ∧ sp50 p t m.Name (d - 1) r) ∧
        (∀ (i : Nat) (m : Mk) (r : List Vl × Bool), r16.1.Makes[i]? = some m → rs[i]? = some r → r.2 = true → (∀ j < i, ∀ x, rs[j]? = some x → x.2 = false) → Q (⟨5, 0, m.Name, r.1⟩, true)) ∧ ((∀ x ∈ rs, x.2 = false) → Q (⟨0, 0, [], []⟩, false))) ∧
      (t.Kind = 1 ∨ t.Kind = 2 ∨ t.Kind = 3 ∨ t.Kind = 4 ∨ t.Kind = 9 ∨ t.Kind = 6)) : w32 p t d Q := by
  obtain ⟨h1, h2, h3, h4, h9, h6, hor⟩ := h
  refine ⟨Q (⟨0, 0, [], []⟩, false), ⟨fun b => b = true ↔ (t.Kind = 1 ∨ t.Kind = 2 ∨ t.Kind = 3 ∨ t.Kind = 4), ⟨fun h => by simp [h], fun g1 => ⟨fun h => by simp [h], fun g2 => ⟨fun h => by simp [h], fun g3 => ?_⟩⟩⟩, ?_⟩, fun h => h⟩
  · rintro _ rfl
    simp [g1, g2, g3]
  intro v5 hv5
  refine ⟨fun ht => ?_, fun hf => ⟨fun hk => ?_, fun hk9 => ⟨fun hk => ?_, fun hk6 => ?_⟩⟩⟩
  · intro m8 h8 m9 h9 m10 h10 m11 h11 v12 h12
    subst h8 h9 h10 h11
    rcases hv5.1 ht with h | h | h | h
    all_goals
      have e := h
      rw [h] at h12
      simp [GM.get_put, GM.get_nil] at h12
      subst h12
    · exact h1 e
    · exact h2 e
    · exact h3 e
    · exact h4 e
  · obtain ⟨a, ha, q0, q1⟩ := h9 hk
    rw [ha]
    refine ⟨fun h => by simp at h, fun _ => ⟨q0, fun hd => ⟨by simp, fun b hb => ?_⟩⟩⟩
    simp at hb
    subst hb
    obtain ⟨hr, r, hs, hq⟩ := q1 hd
    refine ⟨hr, ?_⟩
    rintro _ rfl
    refine ⟨r, hs, ?_⟩
    rw [vl_eta]; exact hq
  · obtain ⟨r16, h49, hr, rs, hl, hm, hs, hq, hq0⟩ := h6 hk
    refine ⟨r16, h49, fun v => 0 ≤ v ∧ v ≤ r16.1.Makes.length ∧ ∀ i : Nat, (i : Int) < v → ∀ x, rs[i]? = some x → x.2 = false, fun v => ((r16.1.Makes.length : Int) - v).toNat, ⟨by omega, by omega, fun i hi => by omega⟩, ?_⟩
    rintro v ⟨v0, v1, v2⟩ w rfl
    refine ⟨fun hv => ?_, fun hv => ?_⟩
    · simp at hv
      refine ⟨⟨v0, hv⟩, fun m hm' => ⟨hr, ?_⟩⟩
      rintro _ rfl
      obtain ⟨r, hri, h50⟩ := hs _ _ hm'
      refine ⟨r, by rw [ty_eta]; exact h50, fun ht => hq _ _ _ hm' hri ht (fun j hj x hx => v2 j (by omega) x hx), fun hf => ?_⟩
      refine ⟨by unfold R64; omega, ?_⟩
      rintro _ rfl
      refine ⟨⟨by omega, by omega, fun i hi x hx => ?_⟩, by simp only; omega⟩
      by_cases hiv : (i : Int) < v
      · exact v2 i hiv x hx
      · have : i = v.toNat := by omega
        subst this
        rw [hri] at hx; injection hx with hx; subst hx
        exact hf
    · simp at hv
      refine hq0 (fun x hx => ?_)
      obtain ⟨i, hi⟩ := List.getElem?_of_mem hx
      exact v2 i (by have := (List.getElem?_eq_some_iff.1 hi).1; omega) x hi
  · have : v5 = true := hv5.2 (by omega)
    rw [this] at hf; cases hf
end Go.Hw.VR

