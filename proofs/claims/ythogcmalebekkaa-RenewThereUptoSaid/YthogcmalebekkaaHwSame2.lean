import Derived.Test.YthogcmalebekkaaHwSame1
set_option linter.unusedVariables false
set_option linter.unusedSimpArgs false
namespace Go.Hw.VR
open Go Go.Proofs

theorem typesL_run {p q : Pr} {x y : List Nm} {f : Al → Ty → Ty → Option (Bool × Al)} (hf : ∀ A a b t A' m, f A a b = some (t, A') → Rm m A → ∃ m', Rm m' A' ∧ sp28 ⟨p, q, m⟩ a b x y (t, ⟨p, q, m'⟩)) :
    ∀ (l l' : List Ty) (A : Al) (m : AM) (t : Bool) (A' : Al), typesL f A l l' = some (t, A') → Rm m A → ∃ m', Rm m' A' ∧ Run p q x y m l l' t m'
  | [], [], A, m, t, A', h, hm => by
    simp only [typesL, Option.some.injEq, Prod.mk.injEq] at h
    obtain ⟨rfl, rfl⟩ := h
    exact ⟨m, hm, .nil m⟩
  | a :: l, b :: l', A, m, t, A', h, hm => by
    rw [typesL] at h
    split at h
    · cases h
    · rename_i A1 h1
      simp only [Option.some.injEq, Prod.mk.injEq] at h
      obtain ⟨rfl, rfl⟩ := h
      obtain ⟨m', r1, r2⟩ := hf _ _ _ _ _ m h1 hm
      exact ⟨m', r1, .stop r2⟩
    · rename_i A1 h1
      obtain ⟨m1, r1, r2⟩ := hf _ _ _ _ _ m h1 hm
      obtain ⟨m', r3, r4⟩ := typesL_run hf l l' A1 m1 t A' h r1
      exact ⟨m', r3, .step r2 r4⟩
  | [], _ :: _, A, m, t, A', h, hm => by simp [typesL] at h
  | _ :: _, [], A, m, t, A', h, hm => by simp [typesL] at h
theorem types37 {p q : Pr} {x y : List Nm} {f : Al → Ty → Ty → Option (Bool × Al)} (hf : ∀ A a b t A' m, f A a b = some (t, A') → Rm m A → ∃ m', Rm m' A' ∧ sp28 ⟨p, q, m⟩ a b x y (t, ⟨p, q, m'⟩))
    {l l' : List Ty} {A : Al} {m : AM} {t : Bool} {A' : Al} (h : typesE f A l l' = some (t, A')) (hm : Rm m A) : ∃ m', Rm m' A' ∧ sp37 ⟨p, q, m⟩ l l' x y (t, ⟨p, q, m'⟩) := by
  unfold typesE at h
  split at h
  · rename_i hne
    simp only [Option.some.injEq, Prod.mk.injEq] at h
    obtain ⟨rfl, rfl⟩ := h
    exact ⟨m, hm, s37 (s56_ne hne)⟩
  · rename_i he
    split at h
    · rename_i h1
      obtain ⟨m', r1, r2⟩ := typesL_run hf l l' A m t A' h hm
      exact ⟨m', r1, s37 (s56 (by simpa using he) h1 r2)⟩
    · cases h
theorem makesL_run {p q : Pr} {d e : Da} {g : Al → List Ty → List Ty → Option (Bool × Al)} (hg : ∀ A l l' t A' m, g A l l' = some (t, A') → Rm m A → ∃ m', Rm m' A' ∧ sp37 ⟨p, q, m⟩ l l' d.Params e.Params (t, ⟨p, q, m'⟩)) :
    ∀ (l l' : List Mk) (A : Al) (m : AM) (t : Bool) (A' : Al), makesL g A l l' = some (t, A') → Rm m A → ∃ m', Rm m' A' ∧ RunM p q d e m l l' t m'
  | [], [], A, m, t, A', h, hm => by
    simp only [makesL, Option.some.injEq, Prod.mk.injEq] at h
    obtain ⟨rfl, rfl⟩ := h
    exact ⟨m, hm, .nil m⟩
  | a :: l, b :: l', A, m, t, A', h, hm => by
    rw [makesL] at h
    by_cases hn : a.Name = b.Name
    · rw [if_pos hn] at h
      split at h
      · cases h
      · rename_i A1 h1
        simp only [Option.some.injEq, Prod.mk.injEq] at h
        obtain ⟨rfl, rfl⟩ := h
        obtain ⟨m', r1, r2⟩ := hg _ _ _ _ _ m h1 hm
        exact ⟨m', r1, .stop hn r2⟩
      · rename_i A1 h1
        obtain ⟨m1, r1, r2⟩ := hg _ _ _ _ _ m h1 hm
        obtain ⟨m', r3, r4⟩ := makesL_run hg l l' A1 m1 t A' h r1
        exact ⟨m', r3, .step hn r2 r4⟩
    · rw [if_neg hn] at h
      simp only [Option.some.injEq, Prod.mk.injEq] at h
      obtain ⟨rfl, rfl⟩ := h
      exact ⟨m, hm, .ne hn⟩
  | [], _ :: _, A, m, t, A', h, hm => by simp [makesL] at h
  | _ :: _, [], A, m, t, A', h, hm => by simp [makesL] at h
theorem makes58 {p q : Pr} {d e : Da} {g : Al → List Ty → List Ty → Option (Bool × Al)} (hg : ∀ A l l' t A' m, g A l l' = some (t, A') → Rm m A → ∃ m', Rm m' A' ∧ sp37 ⟨p, q, m⟩ l l' d.Params e.Params (t, ⟨p, q, m'⟩))
    {l l' : List Mk} {A : Al} {m : AM} {t : Bool} {A' : Al} (h : makesE g A l l' = some (t, A')) (hm : Rm m A) : ∃ m', Rm m' A' ∧ sp58_59 l l' ⟨p, q, m⟩ d e (t, ⟨p, q, m'⟩, d, e) := by
  unfold makesE at h
  split at h
  · rename_i hne
    simp only [Option.some.injEq, Prod.mk.injEq] at h
    obtain ⟨rfl, rfl⟩ := h
    exact ⟨m, hm, s58_ne hne⟩
  · rename_i he
    split at h
    · rename_i h1
      obtain ⟨m', r1, r2⟩ := makesL_run hg l l' A m t A' h hm
      exact ⟨m', r1, s58 (by simpa using he) h1 r2⟩
    · cases h
theorem putE_some {s : Nm} {o : Option (Bool × Al)} {t : Bool} {A' : Al} (h : putE s o = some (t, A')) : ∃ A1, o = some (t, A1) ∧ A' = (s, t) :: A1 := by
  cases o with
  | none => simp [putE] at h
  | some r =>
    obtain ⟨v, A1⟩ := r
    simp only [putE, Option.some.injEq, Prod.mk.injEq] at h
    obtain ⟨rfl, rfl⟩ := h
    exact ⟨A1, rfl, rfl⟩
theorem datas38 {p q : Pr} (hp : p.Datas.length ≤ 1000) (hq : q.Datas.length ≤ 1000) {f : Al → Ty → Ty → List Nm → List Nm → Option (Bool × Al)} (hf : ∀ A a b x y t A' m, f A a b x y = some (t, A') → Rm m A → ∃ m', Rm m' A' ∧ sp28 ⟨p, q, m⟩ a b x y (t, ⟨p, q, m'⟩))
    {A : Al} {s : Nm} {m : AM} {t : Bool} {A' : Al} (h : datasE f p.Datas q.Datas A s = some (t, A')) (hm : Rm m A) : ∃ m', Rm m' A' ∧ sp38 ⟨p, q, m⟩ s (t, ⟨p, q, m'⟩) := by
  have hg := hm.2 s
  unfold datasE at h
  cases hl : look A s with
  | some v =>
    rw [hl] at h hg
    simp only [Option.some.injEq, Prod.mk.injEq] at h
    obtain ⟨rfl, rfl⟩ := h
    refine ⟨m, hm, ok38 ⟨p, q, m⟩ s _ ?_⟩
    rintro v3 b4 hv3 hb4
    simp only at hv3 hb4
    rw [hg] at hv3 hb4
    subst hv3; subst hb4
    exact ⟨fun _ => rfl, fun h => by simp at h⟩
  | none =>
    rw [hl] at h hg
    obtain ⟨A1, h1, rfl⟩ := putE_some h
    have hm7 := rm_put hm s true
    -- what the middle makes of it
    by_cases hc : (findD p.Datas s).2 = true ∧ (findD q.Datas s).2 = true ∧ (findD p.Datas s).1.Params.length = (findD q.Datas s).1.Params.length
    · rw [if_pos hc] at h1
      obtain ⟨m2, r1, r2⟩ := makes58 (d := (findD p.Datas s).1) (e := (findD q.Datas s).1) (fun A l l' t A' m h hm => types37 (fun A a b t A' m h hm => hf A a b _ _ t A' m h hm) h hm) h1 hm7
      refine ⟨m2.put s t, rm_put r1 s t, ok38 ⟨p, q, m⟩ s _ ?_⟩
      rintro v3 b4 hv3 hb4
      simp only at hv3 hb4
      rw [hg] at hb4
      subst hb4
      refine ⟨fun h => by simp at h, fun _ => ⟨_, s49g hp s, _, s49g hq s, ?_⟩⟩
      rintro _ rfl
      refine ⟨fun a b c d e f g h a' b' c' d' e' f' g' h' mm is => GPr.mk a b c d e f g h = p ∧ GPr.mk a' b' c' d' e' f' g' h' = q ∧ mm = m2 ∧ is = t, ⟨fun _ => ⟨fun _ => ⟨fun _ => ⟨_, r2, rfl, rfl, rfl, rfl⟩, fun hne => absurd (by omega) hne⟩, fun hf2 => by rw [hc.2.1] at hf2; cases hf2⟩, fun hf2 => by rw [hc.1] at hf2; cases hf2⟩, ?_⟩
      rintro a b c d e f g h a' b' c' d' e' f' g' h' mm is ⟨rfl, rfl, rfl, rfl⟩ m28 rfl
      rfl
    · rw [if_neg hc] at h1
      simp only [Option.some.injEq, Prod.mk.injEq] at h1
      obtain ⟨rfl, rfl⟩ := h1
      refine ⟨(m.put s true).put s false, rm_put hm7 s false, ok38 ⟨p, q, m⟩ s _ ?_⟩
      rintro v3 b4 hv3 hb4
      simp only at hv3 hb4
      rw [hg] at hb4
      subst hb4
      refine ⟨fun h => by simp at h, fun _ => ⟨_, s49g hp s, _, s49g hq s, ?_⟩⟩
      rintro _ rfl
      refine ⟨fun a b c d e f g h a' b' c' d' e' f' g' h' mm is => GPr.mk a b c d e f g h = p ∧ GPr.mk a' b' c' d' e' f' g' h' = q ∧ mm = m.put s true ∧ is = false, ⟨fun t1 => ⟨fun t2 => ⟨fun t3 => absurd ⟨t1, t2, by omega⟩ hc, fun _ => ⟨rfl, rfl, rfl, rfl⟩⟩, fun _ => ⟨rfl, rfl, rfl, rfl⟩⟩, fun _ => ⟨rfl, rfl, rfl, rfl⟩⟩, ?_⟩
      rintro a b c d e f g h a' b' c' d' e' f' g' h' mm is ⟨rfl, rfl, rfl, rfl⟩ m28 rfl
      rfl

theorem same28 {p q : Pr} (hp : p.Datas.length ≤ 1000) (hq : q.Datas.length ≤ 1000) : ∀ (n : Nat) (A : Al) (a b : Ty) (x y : List Nm) (t : Bool) (A' : Al) (m : AM), sameN p.Datas q.Datas n A a b x y = some (t, A') → Rm m A → ∃ m', Rm m' A' ∧ sp28 ⟨p, q, m⟩ a b x y (t, ⟨p, q, m'⟩)
  | 0, A, a, b, x, y, t, A', m, h, hm => by simp [sameN] at h
  | n + 1, A, a, b, x, y, t, A', m, h, hm => by
    have ih := same28 hp hq n
    unfold sameN at h
    by_cases hxy : x.length ≤ 1000 ∧ y.length ≤ 1000
    · rw [if_pos hxy] at h
      have hx := s36 x a.Name (by omega)
      have hy := s36 y b.Name (by omega)
      by_cases hk : a.Kind = b.Kind
      · rw [if_neg (by simpa using hk)] at h
        by_cases h7 : a.Kind = 7
        · rw [if_pos h7] at h
          simp only [Option.some.injEq, Prod.mk.injEq] at h
          obtain ⟨rfl, rfl⟩ := h
          exact ⟨m, hm, ok28 ⟨p, q, m⟩ a b x y _ ⟨fun h => absurd hk h, fun _ => ⟨fun _ => rfl, fun h => absurd h7 h⟩⟩⟩
        · rw [if_neg h7] at h
          split at h
          · cases h
          · rename_i A1 h1
            simp only [Option.some.injEq, Prod.mk.injEq] at h
            obtain ⟨rfl, rfl⟩ := h
            obtain ⟨m1, r1, r2⟩ := types37 (fun A a b t A' m h hm => ih A a b x y t A' m h hm) h1 hm
            exact ⟨m1, r1, ok28 ⟨p, q, m⟩ a b x y _ ⟨fun h => absurd hk h, fun _ => ⟨fun h => absurd h h7, fun _ => ⟨_, r2, fun _ => rfl, fun h => by simp at h⟩⟩⟩⟩
          · rename_i A1 h1
            obtain ⟨m1, r1, r2⟩ := types37 (fun A a b t A' m h hm => ih A a b x y t A' m h hm) h1 hm
            have wrap : ∀ (r : Bool × GTw), ((a.Kind = 5 → ∃ r7 : Int, sp36 x a.Name r7 ∧ ((0 ≤ r7 → ∃ r8 : Int, sp36 y b.Name r8 ∧ (r7 == r8, (⟨p, q, m1⟩ : GTw)) = r) ∧ (r7 < 0 → (false, (⟨p, q, m1⟩ : GTw)) = r))) ∧
                (a.Kind ≠ 5 → (a.Kind = 6 → (a.Name = b.Name → ∃ r10 : Bool × GTw, sp38 ⟨p, q, m1⟩ a.Name r10 ∧ (r10.1, r10.2) = r) ∧ (a.Name ≠ b.Name → (false, (⟨p, q, m1⟩ : GTw)) = r)) ∧
                  (a.Kind ≠ 6 → (a.Name = [] → (b.Name == [], (⟨p, q, m1⟩ : GTw)) = r) ∧ (a.Name ≠ [] → (false, (⟨p, q, m1⟩ : GTw)) = r)))) → sp28 ⟨p, q, m⟩ a b x y r := by
              rintro r ⟨q5, q6⟩
              refine ok28 ⟨p, q, m⟩ a b x y _ ⟨fun h => absurd hk h, fun _ => ⟨fun h => absurd h h7, fun _ => ⟨_, r2, fun h => by simp at h, fun _ => ⟨fun h5 => ?_, fun h5 => ⟨fun h6 => ⟨fun hn => ?_, fun hn => ((q6 h5).1 h6).2 hn⟩, fun h6 => ⟨fun hn => ?_, fun hn => ((q6 h5).2 h6).2 hn⟩⟩⟩⟩⟩⟩
              · obtain ⟨r7, g1, g2, g3⟩ := q5 h5
                refine ⟨r7, g1, fun h0 => ?_, fun h0 => g3 h0⟩
                obtain ⟨r8, g4, g5⟩ := g2 h0
                refine ⟨r8, g4, ?_⟩
                rintro _ rfl
                exact g5
              · obtain ⟨r10, g1, g2⟩ := ((q6 h5).1 h6).1 hn
                exact ⟨r10, g1, g2⟩
              · rintro _ rfl
                exact ((q6 h5).2 h6).1 hn
            by_cases h5 : a.Kind = 5
            · rw [if_pos h5] at h
              by_cases hi : 0 ≤ fidx (fun s => a.Name == s) x
              · rw [if_pos hi] at h
                simp only [Option.some.injEq, Prod.mk.injEq] at h
                obtain ⟨rfl, rfl⟩ := h
                exact ⟨m1, r1, wrap _ ⟨fun _ => ⟨_, hx, fun _ => ⟨_, hy, rfl⟩, fun h => by omega⟩, fun h => absurd h5 h⟩⟩
              · rw [if_neg hi] at h
                simp only [Option.some.injEq, Prod.mk.injEq] at h
                obtain ⟨rfl, rfl⟩ := h
                exact ⟨m1, r1, wrap _ ⟨fun _ => ⟨_, hx, fun h => absurd h hi, fun h => rfl⟩, fun h => absurd h5 h⟩⟩
            · rw [if_neg h5] at h
              by_cases h6 : a.Kind = 6
              · rw [if_pos h6] at h
                by_cases hn : a.Name = b.Name
                · rw [if_pos hn] at h
                  obtain ⟨m2, r3, r4⟩ := datas38 hp hq (fun A a b x y t A' m h hm => ih A a b x y t A' m h hm) h r1
                  exact ⟨m2, r3, wrap _ ⟨fun h => absurd h h5, fun _ => ⟨fun _ => ⟨fun _ => ⟨_, r4, rfl⟩, fun h => absurd hn h⟩, fun h => absurd h6 h⟩⟩⟩
                · rw [if_neg hn] at h
                  simp only [Option.some.injEq, Prod.mk.injEq] at h
                  obtain ⟨rfl, rfl⟩ := h
                  exact ⟨m1, r1, wrap _ ⟨fun h => absurd h h5, fun _ => ⟨fun _ => ⟨fun h => absurd h hn, fun _ => rfl⟩, fun h => absurd h6 h⟩⟩⟩
              · rw [if_neg h6] at h
                by_cases hn : a.Name = []
                · rw [if_pos hn] at h
                  simp only [Option.some.injEq, Prod.mk.injEq] at h
                  obtain ⟨rfl, rfl⟩ := h
                  exact ⟨m1, r1, wrap _ ⟨fun h => absurd h h5, fun _ => ⟨fun h => absurd h h6, fun _ => ⟨fun _ => rfl, fun h => absurd hn h⟩⟩⟩⟩
                · rw [if_neg hn] at h
                  simp only [Option.some.injEq, Prod.mk.injEq] at h
                  obtain ⟨rfl, rfl⟩ := h
                  exact ⟨m1, r1, wrap _ ⟨fun h => absurd h h5, fun _ => ⟨fun h => absurd h h6, fun _ => ⟨fun h => absurd h hn, fun _ => rfl⟩⟩⟩⟩
      · rw [if_pos (by simpa using hk)] at h
        simp only [Option.some.injEq, Prod.mk.injEq] at h
        obtain ⟨rfl, rfl⟩ := h
        exact ⟨m, hm, ok28 ⟨p, q, m⟩ a b x y _ ⟨fun _ => rfl, fun h => absurd h hk⟩⟩
    · rw [if_neg hxy] at h
      cases h
end Go.Hw.VR

