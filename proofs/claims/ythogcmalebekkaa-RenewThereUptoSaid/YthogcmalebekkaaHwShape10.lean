import Derived.Test.YthogcmalebekkaaHwShape9
set_option linter.unusedVariables false
set_option linter.unusedSimpArgs false
namespace Go.Hw.VR
open Go Go.Proofs

theorem numAt_r64 {l : List Int} (hr : ∀ x ∈ l, R64 x) {deep : Int} : R64 (numAt l deep) := by
  unfold numAt
  split
  · cases h : l[deep.toNat]? with
    | none => unfold R64; simp
    | some x => exact hr x (List.mem_of_getElem? h)
  · unfold R64; omega
theorem head14 {p : Pr} {t : Ty} {l : List Int} {deep : Int} (h0 : 0 ≤ deep) {Q : Vl → Prop}
    (h : (t.Kind = 1 → Q ⟨2, numAt l deep, [], []⟩) ∧ (t.Kind = 2 → ∃ r, sp12 (numAt l deep) 2 r ∧ Q ⟨3, r, [], []⟩) ∧ (t.Kind = 3 → ∃ r, sp12 (numAt l deep) 5 r ∧ ∃ s, sp29 [116] r s ∧ Q ⟨4, 0, s, []⟩) ∧
      (t.Kind = 9 → ∃ a, t.Args = [a] ∧ R64 (deep + 1) ∧ ∃ r, sp14 p a l (deep + 1) r ∧ Q ⟨8, 0, [], [r]⟩) ∧ t.Kind ≠ 6 ∧ (t.Kind = 4 → Q ⟨1, 0, [], []⟩) ∧ (t.Kind = 1 ∨ t.Kind = 2 ∨ t.Kind = 3 ∨ t.Kind = 4 ∨ t.Kind = 9)) : w14 p t l deep Q := by
  obtain ⟨h1, h2, h3, h9, h6, h4, hor⟩ := h
  refine ⟨fun x => x = numAt l deep, ⟨fun hlt => ⟨⟨h0, hlt⟩, fun a ha => ?_⟩, fun hge => ?_⟩, ?_⟩
  · unfold numAt; rw [if_pos hlt, ha]; rfl
  · unfold numAt; rw [if_neg (by omega)]
  rintro _ rfl
  refine ⟨h1, fun _ => ⟨h2, fun _ => ⟨h3, fun _ => ⟨fun hk => ?_, fun _ => ⟨fun h => absurd h h6, fun _ => h4 (by omega)⟩⟩⟩⟩⟩
  obtain ⟨a, ha, hr, r, hs, hq⟩ := h9 hk
  rw [ha]
  refine ⟨by simp, fun b hb => ?_⟩
  simp at hb
  subst hb
  refine ⟨hr, ?_⟩
  rintro _ rfl
  exact ⟨r, hs, hq⟩

theorem v14 {k : Int} {z : Bool} {p : Pr} (hp : p.Datas = datas k z) (hk : k = 1 ∨ k = 2) (h29 : ∀ n : Nat, n ≤ 5 → ∃ s, sp29 [116] (n : Int) s) {l : List Int} (hr : ∀ x ∈ l, R64 x) :
    ∀ (n : Nat) (deep : Int) (τ : CT), Low τ → 0 ≤ deep → deep + rank τ ≤ 9 → far deep τ < n → ∃ v, sp14 p τ.ty l deep v ∧ okV k z v τ = true
  | 0, _, _, _, _, _, h => absurd h (Nat.not_lt_zero _)
  | n + 1, deep, τ, hlow, h0, h9, hfar => by
    have hn : R64 (numAt l deep) := numAt_r64 hr
    have ih : ∀ σ, Low σ → deep + 1 + rank σ ≤ 9 → far (deep + 1) σ < far deep τ → ∃ v, sp14 p σ.ty l (deep + 1) v ∧ okV k z v σ = true :=
      fun σ h1 h2 h3 => v14 hp hk h29 hr n (deep + 1) σ h1 (by omega) h2 (by omega)
    have hD : p.Datas[0]? = some (dataD k) := by rw [hp]; rfl
    have hL : p.Datas[1]? = some (dataL z) := by rw [hp]; rfl
    have hE : p.Datas[2]? = some dataE := by rw [hp]; rfl
    have h3 : p.Datas.length ≤ 1000 := by rw [hp]; simp [datas]
    cases hlow with
    | int =>
      refine ⟨⟨2, numAt l deep, [], []⟩, ok14 p _ l deep _ (head14 h0 ⟨fun _ => rfl, fun h => ?_, fun h => ?_, fun h => ?_, ?_, fun h => ?_, ?_⟩), ?_⟩
      all_goals first | (rw [okV_eq]; simp [kindOf, partsOf, okVs]; done) | (simp [CT.ty, tOne] at h; done) | (simp [CT.ty, tOne]; done)
    | bool =>
      refine ⟨⟨3, rest (numAt l deep) 2, [], []⟩, ok14 p _ l deep _ (head14 h0 ⟨fun h => ?_, fun h => ⟨_, s12 hn (by omega), rfl⟩, fun h => ?_, fun h => ?_, ?_, fun h => ?_, ?_⟩), ?_⟩
      all_goals first | (rw [okV_eq]; simp [kindOf, partsOf, okVs]; done) | (simp [CT.ty, tOne] at h; done) | (simp [CT.ty, tOne]; done)
    | text =>
      have hr5 := rest_range (numAt l deep) (m := 5) (by omega)
      obtain ⟨s, hs⟩ := h29 (rest (numAt l deep) 5).toNat (by omega)
      rw [Int.toNat_of_nonneg hr5.1] at hs
      refine ⟨⟨4, 0, s, []⟩, ok14 p _ l deep _ (head14 h0 ⟨fun h => ?_, fun h => ?_, fun h => ⟨_, s12 hn (by omega), s, hs, rfl⟩, fun h => ?_, ?_, fun h => ?_, ?_⟩), ?_⟩
      all_goals first | (rw [okV_eq]; simp [kindOf, partsOf, okVs]; done) | (simp [CT.ty, tOne] at h; done) | (simp [CT.ty, tOne]; done)
    | unit =>
      refine ⟨⟨1, 0, [], []⟩, ok14 p _ l deep _ (head14 h0 ⟨fun h => ?_, fun h => ?_, fun h => ?_, fun h => ?_, ?_, fun h => rfl, ?_⟩), ?_⟩
      all_goals first | (rw [okV_eq]; simp [kindOf, partsOf, okVs]; done) | (simp [CT.ty, tOne] at h; done) | (simp [CT.ty, tOne]; done)
    | cellD =>
      obtain ⟨v, hv, hok⟩ := ih .D .D (by simp [rank] at h9 ⊢; omega) (by
        by_cases hd : deep ≤ 5
        · exact far_le hd _ _
        · unfold far; rw [if_pos (by omega), if_pos (by omega)]; simp [rank])
      refine ⟨⟨8, 0, [], [v]⟩, ok14 p _ l deep _ (head14 h0 ⟨fun h => ?_, fun h => ?_, fun h => ?_, fun _ => ⟨tD, rfl, by unfold R64; simp [rank] at h9; omega, v, hv, rfl⟩, ?_, fun h => ?_, ?_⟩), ?_⟩
      · simp [CT.ty, tC] at h
      · simp [CT.ty, tC] at h
      · simp [CT.ty, tC] at h
      · simp [CT.ty, tC]
      · simp [CT.ty, tC] at h
      · simp [CT.ty, tC]
      · rw [okV_eq]; simp [kindOf, partsOf, okVs, hok]
    | D =>
      have hrr := rest_range (numAt l deep) (m := 3) (by omega)
      by_cases hd : 5 < deep
      · refine node14 (d := dataD k) (m := ⟨[90], []⟩) rfl rfl h3 ⟨0, hD, rfl, fun j hj => by omega⟩ (by simp [dataD]) (fun _ => by simp [dataD]) ⟨h0, by simp [rank] at h9; omega⟩ hn ?_ ⟨[], ⟨rfl, rfl, by simp⟩, by simp, by simp⟩ ih
        unfold pickM
        rw [if_neg (by simp [dataD]), if_pos ⟨hd, rfl⟩]
        rfl
      · have hlt : (rest (numAt l deep) 3).toNat < (dataD k).Makes.length := by simp [dataD]; omega
        obtain ⟨ps, hf⟩ := fit_D hk z _ (List.getElem_mem hlt)
        refine node14 (d := dataD k) rfl rfl h3 ⟨0, hD, rfl, fun j hj => by omega⟩ (by simp [dataD]) (fun _ => by simp [dataD]) ⟨h0, by simp [rank] at h9; omega⟩ hn ?_ (good_any hf (by omega)) ih
        unfold pickM
        rw [if_neg (by omega), if_neg (by omega)]
        exact List.getElem?_eq_getElem hlt
    | E =>
      have hrr := rest_range (numAt l deep) (m := 1) (by omega)
      have h0' : rest (numAt l deep) 1 = 0 := by omega
      refine node14 (d := dataE) (m := ⟨[87], [tL tD, tOne 3]⟩) rfl rfl h3 ⟨2, hE, rfl, fun j hj b hb => ?_⟩ (by simp [dataE]) (fun h => by simp [dataE] at h) ⟨h0, by simp [rank] at h9; omega⟩ hn ?_ ⟨[.L .D, .text], fit_E k z _ (by simp [dataE]), by simp, ?_⟩ ih
      · have : j = 0 ∨ j = 1 := by omega
        rcases this with rfl | rfl
        · rw [hD] at hb; injection hb with hb; subst hb; simp [dataD, CT.ty, tE]
        · rw [hL] at hb; injection hb with hb; subst hb; simp [dataL, CT.ty, tE]
      · unfold pickM
        rw [if_neg (by simp [dataE]), if_neg (by simp [dataE])]
        show dataE.Makes[(rest (numAt l deep) 1).toNat]? = _
        rw [h0']; rfl
      · intro σ hσ
        by_cases hd : deep ≤ 5
        · refine ⟨far_le hd _ _, ?_⟩
          have := @rank_le σ; omega
        · unfold far
          rw [if_pos (by omega), if_pos (by omega)]
          simp [rank] at h9
          simp at hσ
          rcases hσ with rfl | rfl <;> simp [rank] <;> omega
    | L t ht =>
      have hrr := rest_range (numAt l deep) (m := 2) (by omega)
      have hbef : ∀ j < 1, ∀ b, p.Datas[j]? = some b → b.Name ≠ (CT.L t).ty.Name := by
        intro j hj b hb
        have : j = 0 := by omega
        subst this
        rw [hD] at hb; injection hb with hb; subst hb; simp [dataD, CT.ty, tL]
      by_cases hd : 5 < deep
      · obtain ⟨ps, hf, hall⟩ := fit_L0 k z t
        refine node14 (d := dataL z) (m := ⟨[78], if z then [tD] else []⟩) rfl rfl h3 ⟨1, hL, rfl, hbef⟩ (by simp [dataL]) (fun h => by simp [dataL] at h) ⟨h0, by simp [rank] at h9; omega⟩ hn ?_ ⟨ps, hf, fit_len hf, fun σ hσ => ?_⟩ ih
        · unfold pickM
          rw [if_pos ⟨hd, rfl⟩]
          rfl
        · rw [hall σ hσ]
          unfold far
          rw [if_pos (by omega), if_pos (by omega)]
          simp [rank] at h9 ⊢
          omega
      · have hlt : (rest (numAt l deep) 2).toNat < (dataL z).Makes.length := by simp [dataL]; omega
        obtain ⟨ps, hf⟩ := fit_L (k := k) z ht _ (List.getElem_mem hlt)
        refine node14 (d := dataL z) rfl rfl h3 ⟨1, hL, rfl, hbef⟩ (by simp [dataL]) (fun h => by simp [dataL] at h) ⟨h0, by simp [rank] at h9; omega⟩ hn ?_ (good_any hf (by omega)) ih
        unfold pickM
        rw [if_neg (by omega), if_neg (by omega)]
        exact List.getElem?_eq_getElem hlt
theorem s14 {k : Int} {z : Bool} {p : Pr} (hp : p.Datas = datas k z) (hk : k = 1 ∨ k = 2) (h29 : ∀ n : Nat, n ≤ 5 → ∃ s, sp29 [116] (n : Int) s) {l : List Int} (hr : ∀ x ∈ l, R64 x) {τ : CT} (hτ : Low τ) :
    ∃ v, sp14 p τ.ty l 0 v ∧ okV k z v τ = true :=
  v14 hp hk h29 hr _ 0 τ hτ (by omega) (by have := @rank_le τ; omega) (Nat.lt_succ_self _)
end Go.Hw.VR

