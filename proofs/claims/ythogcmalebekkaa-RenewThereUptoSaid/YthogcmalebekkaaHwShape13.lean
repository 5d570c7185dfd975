import Derived.Test.YthogcmalebekkaaHwShape12
set_option linter.unusedVariables false
set_option linter.unusedSimpArgs false
namespace Go.Hw.VR
open Go Go.Proofs

theorem need_data {τ : CT} (hτ : Low τ) (h6 : τ.ty.Kind = 6) : 1 ≤ need τ ∧ kindOf τ = 5 := by
  cases hτ <;> simp [CT.ty, tOne, tC, need, kindOf] at h6 ⊢
theorem v32 {k : Int} {z : Bool} {p : Pr} (hp : p.Datas = datas k z) (hk : k = 1 ∨ k = 2) : ∀ (n : Nat) (d : Int) (τ : CT), Low τ → 0 ≤ d → d ≤ 3 → d < n → ∃ r, Fst k z p d τ r
  | 0, d, _, _, h, _, h' => by omega
  | n + 1, d, τ, hτ, h0, h3, hn => by
    by_cases h6 : τ.ty.Kind = 6
    · obtain ⟨dd, h49, hlen, ⟨mm, hmm, hmn⟩, hms⟩ := made hp hk hτ h6
      obtain ⟨hn1, hk5⟩ := need_data hτ h6
      obtain ⟨rs, hl, hrs⟩ := each dd.Makes (fun m r => ∃ ps, partsOf k z τ m.Name = some ps ∧ sp50 p τ.ty m.Name (d - 1) r ∧ (r.2 = true → okVs k z r.1 ps = true) ∧ (0 ≤ d - 1 → (∀ σ ∈ ps, need σ ≤ d - 1) → r.2 = true))
        (fun m hm => by
          obtain ⟨ps, h1, h2, h4, h5⟩ := hms m hm
          obtain ⟨r, r1, r2, r3⟩ := s50 (k := k) (z := z) h5 h4 (d - 1) (fun hd σ hσ => v32 hp hk n (d - 1) σ (h2 σ hσ) hd (by omega) (by omega))
          exact ⟨r, ps, h1, r1, r2, r3⟩)
      have hw : ∀ Q : Vl × Bool → Prop, (∀ (i : Nat) (m : Mk) (r : List Vl × Bool), dd.Makes[i]? = some m → rs[i]? = some r → r.2 = true → (∀ j < i, ∀ x, rs[j]? = some x → x.2 = false) → Q (⟨5, 0, m.Name, r.1⟩, true)) → ((∀ x ∈ rs, x.2 = false) → Q (⟨0, 0, [], []⟩, false)) → w32 p τ.ty d Q := by
        intro Q q1 q2
        refine head32 ⟨fun h => by omega, fun h => by omega, fun h => by omega, fun h => by omega, fun h => by omega, fun _ => ⟨(dd, true), h49, by unfold R64; omega, rs, hl, hlen, fun i m hm => ?_, q1, q2⟩, by omega⟩
        obtain ⟨r, hr, ps, g1, g2, g3⟩ := hrs i m hm
        exact ⟨r, hr, g2⟩
      cases hfi : rs.findIdx? (·.2) with
      | none =>
        rw [List.findIdx?_eq_none_iff] at hfi
        refine ⟨(⟨0, 0, [], []⟩, false), ok32 p τ.ty d _ (hw _ (fun i m r h1 h2 h3 h4 => ?_) (fun _ => rfl)), fun h => by simp at h, fun hd => ?_⟩
        · have := hfi r (List.mem_of_getElem? h2)
          rw [h3] at this; cases this
        · obtain ⟨i, hi⟩ := List.getElem?_of_mem hmm
          obtain ⟨r, hr, ps, g1, g2, g3, g4⟩ := hrs i mm hi
          have ht := g4 (by omega) (fun σ hσ => by have := hmn ps g1 σ hσ; omega)
          have := hfi r (List.mem_of_getElem? hr)
          rw [ht] at this; cases this
      | some i =>
        rw [List.findIdx?_eq_some_iff_getElem] at hfi
        obtain ⟨hi, hit, hbef⟩ := hfi
        have him : dd.Makes[i]? = some (dd.Makes[i]'(by omega)) := List.getElem?_eq_getElem (by omega)
        have hir : rs[i]? = some rs[i] := List.getElem?_eq_getElem hi
        obtain ⟨r, hr, ps, g1, g2, g3, g4⟩ := hrs i _ him
        have hrr : rs[i] = r := by rw [hir] at hr; injection hr
        refine ⟨(⟨5, 0, (dd.Makes[i]'(by omega)).Name, r.1⟩, true), ok32 p τ.ty d _ (hw _ (fun j m x h1 h2 h3 h4 => ?_) (fun hall => ?_)), fun _ => ?_, fun _ => rfl⟩
        · have hij : j = i := by
            rcases Nat.lt_trichotomy j i with h | h | h
            · have := hbef j h
              rw [List.getElem?_eq_getElem (by omega)] at h2
              injection h2 with h2
              rw [h2] at this
              exact absurd h3 this
            · exact h
            · have := h4 i h _ hir
              rw [hit] at this; cases this
          subst hij
          rw [him] at h1; injection h1 with h1; subst h1
          rw [hr] at h2; injection h2 with h2; subst h2
          rfl
        · have := hall _ (List.mem_of_getElem? hir)
          rw [hit] at this; cases this
        · rw [okV_eq, hk5]
          show (((5 : Int) == 5) && _) = true
          rw [show (GVl.mk 5 0 (dd.Makes[i]'(by omega)).Name r.1).Text = (dd.Makes[i]'(by omega)).Name from rfl, g1]
          have := g3 (by rw [← hrr]; exact hit)
          simpa using this
    · cases hτ with
      | D => exact absurd rfl h6
      | E => exact absurd rfl h6
      | L => exact absurd rfl h6
      | int =>
        refine ⟨(⟨2, 0, [], []⟩, true), ok32 p _ d _ (head32 ⟨fun _ => rfl, fun h => ?_, fun h => ?_, fun h => ?_, fun h => ?_, fun h => ?_, ?_⟩), fun _ => ?_, fun _ => rfl⟩
        all_goals first | (simp [CT.ty, tOne] at h; done) | (rw [okV_eq]; simp [kindOf, partsOf, okVs]; done) | (simp [CT.ty, tOne]; done)
      | bool =>
        refine ⟨(⟨3, 0, [], []⟩, true), ok32 p _ d _ (head32 ⟨fun h => ?_, fun _ => rfl, fun h => ?_, fun h => ?_, fun h => ?_, fun h => ?_, ?_⟩), fun _ => ?_, fun _ => rfl⟩
        all_goals first | (simp [CT.ty, tOne] at h; done) | (rw [okV_eq]; simp [kindOf, partsOf, okVs]; done) | (simp [CT.ty, tOne]; done)
      | text =>
        refine ⟨(⟨4, 0, [], []⟩, true), ok32 p _ d _ (head32 ⟨fun h => ?_, fun h => ?_, fun _ => rfl, fun h => ?_, fun h => ?_, fun h => ?_, ?_⟩), fun _ => ?_, fun _ => rfl⟩
        all_goals first | (simp [CT.ty, tOne] at h; done) | (rw [okV_eq]; simp [kindOf, partsOf, okVs]; done) | (simp [CT.ty, tOne]; done)
      | unit =>
        refine ⟨(⟨1, 0, [], []⟩, true), ok32 p _ d _ (head32 ⟨fun h => ?_, fun h => ?_, fun h => ?_, fun _ => rfl, fun h => ?_, fun h => ?_, ?_⟩), fun _ => ?_, fun _ => rfl⟩
        all_goals first | (simp [CT.ty, tOne] at h; done) | (rw [okV_eq]; simp [kindOf, partsOf, okVs]; done) | (simp [CT.ty, tOne]; done)
      | cellD =>
        have hh : ∀ Q : Vl × Bool → Prop, (d = 0 → Q (⟨0, 0, [], []⟩, false)) → (d ≠ 0 → R64 (d - 1) ∧ ∃ r, sp32 p tD (d - 1) r ∧ Q (⟨8, 0, [], [r.1]⟩, r.2)) → w32 p (CT.cell .D).ty d Q := by
          intro Q q1 q2
          refine head32 ⟨fun h => ?_, fun h => ?_, fun h => ?_, fun h => ?_, fun _ => ⟨tD, rfl, q1, q2⟩, fun h => ?_, ?_⟩
          all_goals first | (simp [CT.ty, tC] at h; done) | (simp [CT.ty, tC]; done)
        by_cases hd : d = 0
        · exact ⟨(⟨0, 0, [], []⟩, false), ok32 p _ d _ (hh _ (fun _ => rfl) (fun h => absurd hd h)), fun h => by simp at h, fun h => by simp [need] at h; omega⟩
        · obtain ⟨r, r1, r2, r3⟩ := v32 hp hk n (d - 1) .D .D (by omega) (by omega) (by omega)
          refine ⟨(⟨8, 0, [], [r.1]⟩, r.2), ok32 p _ d _ (hh _ (fun h => absurd h hd) (fun _ => ⟨by unfold R64; omega, r, r1, rfl⟩)), fun h => ?_, fun h => r3 (by simp [need] at h ⊢; omega)⟩
          rw [okV_eq]
          simp [kindOf, partsOf, okVs, r2 h]

theorem need_le {τ : CT} : need τ ≤ 3 := by cases τ <;> simp [need]
theorem s18 {k : Int} {z : Bool} {p : Pr} (hp : p.Datas = datas k z) (hk : k = 1 ∨ k = 2) {τ : CT} (hτ : Low τ) : ∃ v, sp18 p τ.ty (v, 0) ∧ okV k z v τ = true := by
  obtain ⟨f, hf⟩ := Classical.skolem.1 (fun d : _root_.Fin 4 => v32 hp hk 4 (d.val : Int) τ hτ (by omega) (by omega) (by omega))
  have key : ∃ d : _root_.Fin 4, (f d).2 = true ∧ ∀ e : _root_.Fin 4, e.val < d.val → (f e).2 = false := by
    have h3 : (f 3).2 = true := (hf 3).2.2 (show need τ ≤ (3 : Int) from need_le)
    cases h0 : (f 0).2
    · cases h1 : (f 1).2
      · cases h2 : (f 2).2
        · refine ⟨3, h3, fun e he => ?_⟩
          have : e = 0 ∨ e = 1 ∨ e = 2 := by omega
          rcases this with rfl | rfl | rfl <;> assumption
        · refine ⟨2, h2, fun e he => ?_⟩
          have : e = 0 ∨ e = 1 := by omega
          rcases this with rfl | rfl <;> assumption
      · refine ⟨1, h1, fun e he => ?_⟩
        have : e = 0 := by omega
        subst this; assumption
    · exact ⟨0, h0, fun e he => absurd he (Nat.not_lt_zero _)⟩
  obtain ⟨d, hd, hbef⟩ := key
  refine ⟨(f d).1, ok18 p τ.ty _ ⟨fun v => 0 ≤ v ∧ v ≤ d.val, fun v => (4 - v).toNat, ⟨by omega, by omega⟩, ?_⟩, (hf d).2.1 hd⟩
  rintro v ⟨v0, v1⟩ w rfl
  have hv4 : v < 4 := by omega
  refine ⟨fun _ => ?_, fun h => by simp at h; omega⟩
  have hlt : v.toNat < 4 := by omega
  refine ⟨f ⟨v.toNat, hlt⟩, ?_, fun ht => ?_, fun hff => ?_⟩
  · have := (hf ⟨v.toNat, hlt⟩).1
    rw [show (((⟨v.toNat, hlt⟩ : _root_.Fin 4).val : Nat) : Int) = v from Int.toNat_of_nonneg v0] at this
    rw [ty_eta]; exact this
  · have : v.toNat = d.val := by
      by_cases h : v.toNat < d.val
      · have := hbef ⟨v.toNat, hlt⟩ h
        rw [ht] at this; cases this
      · omega
    have hfd : (⟨v.toNat, hlt⟩ : _root_.Fin 4) = d := Fin.ext this
    rw [hfd, vl_eta]
  · have : v ≠ d.val := by
      intro e
      have hfd : (⟨v.toNat, hlt⟩ : _root_.Fin 4) = d := Fin.ext (by simp only; omega)
      rw [hfd, hd] at hff; cases hff
    refine ⟨by unfold R64; omega, ?_⟩
    rintro _ rfl
    exact ⟨⟨by omega, by omega⟩, by simp only; omega⟩
end Go.Hw.VR

