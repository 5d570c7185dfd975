import Derived.Test.YthogcmalebekkaaHwShape14
set_option linter.unusedVariables false
set_option linter.unusedSimpArgs false
namespace Go.Hw.VR
open Go Go.Proofs

theorem s31 (vs ws : List Vl) (bs : List Bool) (hlen : vs.length ≤ 1000) (h1 : ws.length = vs.length) (h2 : bs.length = vs.length)
    (h : ∀ (i : Nat) (v w : Vl) (b : Bool), vs[i]? = some v → ws[i]? = some w → bs[i]? = some b → sp17 v w b) : sp31_17 vs ws (bs.all id) := by
  refine ok31_17 vs ws _ ⟨fun hne => by omega, fun _ => ?_⟩
  refine ⟨fun i => 0 ≤ i ∧ i ≤ vs.length ∧ ∀ j : Nat, (j : Int) < i → ∀ b, bs[j]? = some b → b = true, fun i => ((vs.length : Int) - i).toNat, ⟨by omega, by omega, fun j hj => by omega⟩, ?_⟩
  rintro i ⟨i0, i1, i2⟩ w rfl
  refine ⟨fun hi => ?_, fun hi => ?_⟩
  · simp at hi
    refine ⟨⟨i0, hi⟩, fun a ha => ⟨⟨i0, by omega⟩, fun c hc => ?_⟩⟩
    have hb : bs[i.toNat]? = some (bs[i.toNat]'(by omega)) := List.getElem?_eq_getElem (by omega)
    generalize bs[i.toNat]'(by omega) = b at hb
    refine ⟨b, by rw [vl_eta, vl_eta]; exact h _ _ _ _ ha hc hb, fun hf => ?_, fun ht => ?_⟩
    · have hbf : b = false := by simpa using hf
      show false = _
      symm
      rw [← Bool.not_eq_true, List.all_eq_true]
      intro hall
      have := hall b (List.mem_of_getElem? hb)
      rw [hbf] at this; cases this
    · have hbt : b = true := by simpa using ht
      refine ⟨by unfold R64; omega, ?_⟩
      rintro _ rfl
      refine ⟨⟨by omega, by omega, fun j hj x hx => ?_⟩, by simp only; omega⟩
      by_cases hji : (j : Int) < i
      · exact i2 j hji x hx
      · have : j = i.toNat := by omega
        subst this
        rw [hb] at hx; injection hx with hx; subst hx
        exact hbt
  · simp at hi
    show true = _
    symm
    rw [List.all_eq_true]
    intro x hx
    obtain ⟨j, hj⟩ := List.getElem?_of_mem hx
    exact i2 j (by have := (List.getElem?_eq_some_iff.1 hj).1; omega) x hj

def Spo (k : Int) (z : Bool) (v : Vl) (σ : CT) (at' : Int) (r : Vl × Int) (b : Bool) : Prop :=
  sp16 v at' r ∧ (0 ≤ r.2 ∧ r.2 ≤ 1000) ∧ sp17 v r.1 b ∧ okV k z r.1 σ = b
theorem thread {k : Int} {z : Bool} : ∀ (vs : List Vl) (ps : List CT), okVs k z vs ps = true → (∀ v ∈ vs, ∀ σ (a : Int), okV k z v σ = true → 0 ≤ a ∧ a ≤ 1000 → ∃ r b, Spo k z v σ a r b) →
    ∀ a : Int, 0 ≤ a ∧ a ≤ 1000 → ∃ (rs : List (Vl × Int)) (bs : List Bool), rs.length = vs.length ∧ bs.length = vs.length ∧ okVs k z (rs.map (·.1)) ps = bs.all id ∧ (∀ x ∈ a :: rs.map (·.2), 0 ≤ x ∧ x ≤ 1000) ∧
      ∀ (i : Nat) (v : Vl), vs[i]? = some v → ∃ c r b, (a :: rs.map (·.2))[i]? = some c ∧ rs[i]? = some r ∧ bs[i]? = some b ∧ sp16 v c r ∧ sp17 v r.1 b
  | [], [], _, _, a, ha => ⟨[], [], rfl, rfl, by simp [okVs], by simpa using ha, fun i v h => by simp at h⟩
  | [], _ :: _, h, _, _, _ => by simp [okVs] at h
  | _ :: _, [], h, _, _, _ => by simp [okVs] at h
  | v :: vs, σ :: ps, h, hs, a, ha => by
    rw [okVs, Bool.and_eq_true] at h
    obtain ⟨r, b, r1, r2, r3, r4⟩ := hs v (by simp) σ a h.1 ha
    obtain ⟨rs, bs, g1, g2, g3, g4, g5⟩ := thread vs ps h.2 (fun u hu => hs u (by simp [hu])) r.2 r2
    refine ⟨r :: rs, b :: bs, by simp [g1], by simp [g2], ?_, ?_, fun i u hu => ?_⟩
    · rw [List.map_cons, okVs, g3, r4]; rfl
    · intro x hx
      rcases List.mem_cons.1 hx with rfl | hx
      · exact ha
      · exact g4 x hx
    · cases i with
      | zero => simp at hu; subst hu; exact ⟨a, r, b, rfl, rfl, rfl, r1, r3⟩
      | succ i => exact g5 i u (by simpa using hu)

theorem parts_len {k : Int} {z : Bool} {τ : CT} {s : List UInt8} {ps : List CT} (h : partsOf k z τ s = some ps) : ps.length ≤ 2 := by
  unfold partsOf at h
  split at h
  all_goals
    repeat' split at h
    all_goals first
      | (injection h with h; subst h; simp; done)
      | (injection h with h; subst h; split <;> simp; done)
      | exact absurd h (by simp)
theorem okVs_lens {k : Int} {z : Bool} {vs : List Vl} {ps : List CT} (h : okVs k z vs ps = true) : vs.length = ps.length := by
  by_cases e : vs.length = ps.length
  · exact e
  · rw [okVs_len k z vs ps e] at h; cases h

theorem spoil_size {k : Int} {z : Bool} : ∀ (n : Nat) (v : Vl), SizeOf.sizeOf v < n → ∀ (τ : CT) (a : Int), okV k z v τ = true → 0 ≤ a ∧ a ≤ 1000 → ∃ r b, Spo k z v τ a r b
  | 0, v, h, _, _, _, _ => absurd h (Nat.not_lt_zero _)
  | n + 1, v, hn, τ, a, hok, ha => by
    have hok' := hok
    rw [okV_eq, Bool.and_eq_true] at hok'
    obtain ⟨hk, hp⟩ := hok'
    have hk : v.Kind = kindOf τ := by simpa using hk
    have h6 : kindOf τ ≠ 6 := by cases τ <;> simp [kindOf]
    cases hps : partsOf k z τ v.Text with
    | none => rw [hps] at hp; cases hp
    | some ps =>
      rw [hps] at hp
      have hp : okVs k z v.Args ps = true := hp
      have hl := okVs_lens hp
      have hpl := parts_len hps
      by_cases h0 : a = 0
      · refine ⟨(⟨6, 1, [], []⟩, 1000), false, ok16 v a _ ⟨by unfold R64; omega, ?_⟩, ⟨by simp, by simp⟩, ok17 v _ false ⟨fun h => ?_, fun _ => rfl⟩, ?_⟩
        · rintro _ rfl
          exact ⟨fun _ => rfl, fun h => by omega⟩
        · simp only at h; omega
        · rw [okV_eq]
          show ((6 : Int) == kindOf τ && _) = false
          have : ((6 : Int) == kindOf τ) = false := by simpa using fun e : 6 = kindOf τ => h6 e.symm
          rw [this, Bool.false_and]
      · obtain ⟨rs, bs, g1, g2, g3, g4, g5⟩ := thread v.Args ps hp (fun u hu σ c ho hc => spoil_size n u (by have := args_lt hu; omega) σ c ho hc) (a - 1) (by omega)
        have hlast : ((a - 1) :: rs.map (·.2))[v.Args.length]? = some (((a - 1) :: rs.map (·.2))[v.Args.length]'(by simp; omega)) := List.getElem?_eq_getElem (by simp; omega)
        generalize ((a - 1) :: rs.map (·.2))[v.Args.length]'(by simp; omega) = last at hlast
        refine ⟨(⟨v.Kind, v.Num, v.Text, rs.map (·.1)⟩, last), bs.all id, ok16 v a _ ⟨by unfold R64; omega, ?_⟩, g4 last (List.mem_of_getElem? hlast), ok17 v _ _ ⟨fun _ => ⟨fun _ => ⟨fun _ => ⟨_, s31 v.Args (rs.map (·.1)) bs (by omega) (by simp [g1]) g2 ?_, rfl⟩, fun h => absurd rfl h⟩, fun h => absurd rfl h⟩, fun h => absurd rfl h⟩, ?_⟩
        · rintro _ rfl
          refine ⟨fun h => by omega, fun _ => ?_⟩
          refine ⟨fun c us j => 0 ≤ j ∧ j ≤ v.Args.length ∧ us = (rs.map (·.1)).take j.toNat ∧ ((a - 1) :: rs.map (·.2))[j.toNat]? = some c, fun _ _ j => ((v.Args.length : Int) - j).toNat, ⟨by omega, by omega, by simp, by simp⟩, ?_⟩
          rintro c us j ⟨j0, j1, rfl, j2⟩ w rfl
          refine ⟨fun hj => ?_, fun hj => ?_⟩
          · simp at hj
            refine ⟨⟨j0, hj⟩, fun u hu => ?_⟩
            obtain ⟨c', r, b, e1, e2, e3, e4, e5⟩ := g5 _ _ hu
            rw [j2] at e1; injection e1 with e1; subst e1
            have hm : (rs.map (·.1))[j.toNat]? = some r.1 := by rw [List.getElem?_map, e2]; rfl
            refine ⟨r, by rw [vl_eta]; exact e4, ?_, ?_⟩
            · simp only [List.length_take, List.length_singleton, List.length_map]; omega
            rintro _ rfl
            refine ⟨by unfold R64; omega, ?_⟩
            rintro _ rfl
            refine ⟨⟨by omega, by omega, ?_, ?_⟩, by simp only; omega⟩
            · rw [(at_nat j0 hm).2.1]
            · rw [show (j + 1).toNat = j.toNat + 1 by omega, List.getElem?_cons_succ, List.getElem?_map, e2]; rfl
          · simp at hj
            have : j = v.Args.length := by omega
            subst this
            simp only [Int.toNat_natCast] at j2 ⊢
            rw [hlast] at j2; injection j2 with j2; subst j2
            rw [List.take_of_length_le (by simp; omega)]
        · intro i u w b hu hw hb
          obtain ⟨c, r, b', e1, e2, e3, e4, e5⟩ := g5 i u hu
          rw [List.getElem?_map, e2] at hw; injection hw with hw; subst hw
          rw [e3] at hb; injection hb with hb; subst hb
          exact e5
        · rw [okV_eq]
          simp only [hk, hps]
          rw [g3]; simp
theorem w4_true {n i at' : Int} {l : List Int} (hn : R64 n) (hi : R64 i) (hl : ∀ x ∈ l, R64 x) (ha : R64 at') : w4 n i l at' (fun b => b = true) := by
  obtain ⟨k, z, hp, hk⟩ := progF_datas n
  obtain ⟨a, haa, r, hr, hr2, ht⟩ := typed (n := n) i hi
  have h40 := rest_range at' (m := 40) (by omega)
  refine ⟨_, s11 hn, by rw [haa]; simp, fun a5 h5 => ?_⟩
  rw [haa] at h5; simp at h5; subst h5
  refine ⟨by rw [haa]; simp, fun a6 h6 => ?_⟩
  rw [haa] at h6; simp at h6; subst h6
  refine ⟨r, hr, hr2, fun t h8 => ?_⟩
  obtain ⟨τ, hτ, rfl⟩ := ht t h8
  obtain ⟨v, hv, hok⟩ := s14 hp hk s29' hl hτ
  refine ⟨v, by rw [ty_eta]; exact hv, _, by rw [ty_eta, vl_eta]; exact s15 hp hk v τ, ⟨fun h => (by rw [hok] at h; exact Bool.noConfusion h), fun _ => ?_⟩⟩
  obtain ⟨w, b, q1, q2, q3, q4⟩ := spoil_size (k := k) (z := z) _ v (Nat.lt_succ_self _) τ (rest at' 40) hok (by omega)
  refine ⟨_, s12 ha (by omega), w, by rw [vl_eta]; exact q1, _, by rw [ty_eta, vl_eta]; exact s15 hp hk w.1 τ, b, by rw [vl_eta, vl_eta]; exact q3, ?_⟩
  rintro _ rfl
  rw [q4]
  simp
theorem deep_call (n i : Int) (l : List Int) (at' : Int) (h1 : B64 n) (h2 : B64 i) (h3 : ∀ x ∈ l, B64 x) (h4 : B64 at') : sp4 n i l at' true :=
  ok4 n i l at' true (w4_true (r64_of h1) (r64_of h2) (fun x hx => r64_of (h3 x hx)) (r64_of h4))
end Go.Hw.VR

