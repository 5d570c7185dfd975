import Derived.Test.YthogcmalebekkaaHwShape8
set_option linter.unusedVariables false
set_option linter.unusedSimpArgs false
namespace Go.Hw.VR
open Go Go.Proofs

def pickM (d : Da) (deep n : Int) : Option Mk :=
  if 5 < deep ∧ d.Name = [76] then d.Makes[0]? else if 5 < deep ∧ d.Name = [68] then d.Makes[2]? else d.Makes[(rest n d.Makes.length).toNat]?

theorem node14 {k : Int} {z : Bool} {p : Pr} {τ : CT} {d : Da} {l : List Int} {deep : Int} {m : Mk} (h6 : τ.ty.Kind = 6) (hk5 : kindOf τ = 5)
    (hp3 : p.Datas.length ≤ 1000) (hfind : ∃ i : Nat, p.Datas[i]? = some d ∧ d.Name = τ.ty.Name ∧ ∀ j < i, ∀ b, p.Datas[j]? = some b → b.Name ≠ τ.ty.Name)
    (h0 : 0 < d.Makes.length) (h2 : d.Name = [68] → 2 < d.Makes.length) (hdeep : 0 ≤ deep ∧ deep ≤ 9) (hn : R64 (numAt l deep))
    (hm : pickM d deep (numAt l deep) = some m) (hg : Good k z deep τ m.Name m.Args)
    (ih : ∀ σ, Low σ → deep + 1 + rank σ ≤ 9 → far (deep + 1) σ < far deep τ → ∃ v, sp14 p σ.ty l (deep + 1) v ∧ okV k z v σ = true) :
    ∃ v, sp14 p τ.ty l deep v ∧ okV k z v τ = true := by
  obtain ⟨ps, ⟨f1, f2, f3⟩, flen, f4⟩ := hg
  obtain ⟨vs, g1, g2, g3⟩ := parts_loop (k := k) (z := z) ps (fun σ v => sp14 p σ.ty l (deep + 1) v) (fun σ hσ => ih σ (f3 σ hσ) (f4 σ hσ).2 (f4 σ hσ).1)
  have hlen : m.Args.length = ps.length := by simpa using congrArg List.length f2
  refine ⟨⟨5, 0, m.Name, vs⟩, ?_, ?_⟩
  · refine ok14 p τ.ty l deep _ ⟨fun x => x = numAt l deep, ⟨fun hlt => ⟨⟨hdeep.1, hlt⟩, fun a ha => ?_⟩, fun hge => ?_⟩, ?_⟩
    · unfold numAt; rw [if_pos hlt, ha]; rfl
    · unfold numAt; rw [if_neg (by omega)]
    rintro _ rfl
    rw [h6]
    refine ⟨fun h => by omega, fun _ => ⟨fun h => by omega, fun _ => ⟨fun h => by omega, fun _ => ⟨fun h => by omega, fun _ => ⟨fun _ => ?_, fun h => absurd rfl h⟩⟩⟩⟩⟩
    obtain ⟨i, hi, hin, hbef⟩ := hfind
    have hilt := (List.getElem?_eq_some_iff.1 hi).1
    refine ⟨fun v => 0 ≤ v ∧ v ≤ (i : Int), fun v => ((i : Int) - v).toNat, ⟨by omega, by omega⟩, ?_⟩
    rintro v ⟨v0, v1⟩ w rfl
    refine ⟨fun hw => ?_, fun hw => ?_⟩
    · simp at hw
      refine ⟨⟨v0, hw⟩, fun a ha => ⟨fun hne => ?_, fun he => ?_⟩⟩
      · have hvi : v ≠ (i : Int) := by
          intro e
          subst e
          simp only [Int.toNat_natCast] at ha
          rw [hi] at ha
          injection ha with ha
          subst ha
          exact hne hin
        refine ⟨⟨by omega, by omega⟩, ?_⟩
        rintro _ rfl
        exact ⟨⟨by omega, by omega⟩, by simp only; omega⟩
      · have hvi : v = (i : Int) := by
          by_cases e : v = (i : Int)
          · exact e
          · exact absurd he (hbef v.toNat (by omega) a ha)
        subst hvi
        simp only [Int.toNat_natCast] at ha
        rw [hi] at ha
        injection ha with ha
        subst ha
        have hr := rest_range (numAt l deep) (m := (d.Makes.length : Int)) (by omega)
        refine ⟨_, s12 hn (by omega), hr, fun a62 ha62 => ?_⟩
        refine ⟨fun nm ar => (d.Name ≠ [76] ∨ deep ≤ 5) → nm = m.Name ∧ ar = m.Args, ⟨fun hd => ⟨fun hN => ⟨⟨by omega, by have := h2 hN; omega⟩, fun a66 ha66 _ => ?_⟩, fun hN => fun hor => ?_⟩, fun hd => fun _ => ?_⟩, ?_⟩
        · unfold pickM at hm
          rw [if_neg (by rw [hN]; simp), if_pos ⟨hd, hN⟩] at hm
          have : some a66 = some m := ha66.symm.trans hm
          injection this with this
          subst this; exact ⟨rfl, rfl⟩
        · unfold pickM at hm
          rw [if_neg (by rintro ⟨_, h⟩; rcases hor with h' | h'; exact h' h; omega), if_neg (by rintro ⟨_, h⟩; exact hN h)] at hm
          have : some a62 = some m := ha62.symm.trans hm
          injection this with this
          subst this; exact ⟨rfl, rfl⟩
        · unfold pickM at hm
          rw [if_neg (by omega), if_neg (by omega)] at hm
          have : some a62 = some m := ha62.symm.trans hm
          injection this with this
          subst this; exact ⟨rfl, rfl⟩
        intro nm ar hJ
        refine ⟨fun nm ar => nm = m.Name ∧ ar = m.Args, ⟨fun hd => ⟨fun hN => ⟨⟨by omega, by omega⟩, fun a70 ha70 => ?_⟩, fun hN => hJ (.inl hN)⟩, fun hd => hJ (.inr hd)⟩, ?_⟩
        · unfold pickM at hm
          rw [if_pos ⟨hd, hN⟩] at hm
          have : some a70 = some m := ha70.symm.trans hm
          injection this with this
          subst this; exact ⟨rfl, rfl⟩
        rintro _ _ ⟨rfl, rfl⟩
        refine ⟨fun us j => 0 ≤ j ∧ j ≤ m.Args.length ∧ us = vs.take j.toNat, fun _ j => ((m.Args.length : Int) - j).toNat, ⟨by omega, by omega, by simp⟩, ?_⟩
        rintro us j ⟨j0, j1, rfl⟩ w rfl
        refine ⟨fun hj => ?_, fun hj => ?_⟩
        · simp at hj
          refine ⟨⟨j0, hj⟩, fun a88 ha88 => ?_⟩
          have hjl : j.toNat < ps.length := by omega
          have hσ : ps[j.toNat]? = some ps[j.toNat] := List.getElem?_eq_getElem hjl
          obtain ⟨v, hv, hs⟩ := g3 _ _ hσ
          have hsub : subT τ.ty a88 = some (ps[j.toNat]).ty := by
            have e := congrArg (fun l => l[j.toNat]?) f2
            simp only [List.getElem?_map, ha88, hσ, Option.map_some, Option.some.injEq] at e
            exact e
          refine ⟨fun kd nm ar => (⟨kd, nm, ar⟩ : Ty) = (ps[j.toNat]).ty, ⟨fun hk => ⟨⟨by omega, ?_⟩, fun a93 ha93 => ?_⟩, fun hk => ⟨fun hpos => ⟨⟨by omega, hpos⟩, fun a94 ha94 => ⟨fun h5 => ?_, fun h5 => ?_⟩⟩, fun hz => ?_⟩⟩, ?_⟩
          · unfold subT at hsub
            rw [if_pos hk] at hsub
            have := (List.getElem?_eq_some_iff.1 hsub).1
            omega
          · unfold subT at hsub
            rw [if_pos hk] at hsub
            have : some a93 = some _ := ha93.symm.trans hsub
            injection this with this
            show GTy.mk a93.Kind a93.Name a93.Args = _
            rw [ty_eta]; exact this
          · unfold subT at hsub
            have ha94' : a88.Args[0]? = some a94 := ha94
            rw [if_neg hk, ha94'] at hsub
            simp only [h5, if_true, Option.some.injEq] at hsub
            exact hsub
          · unfold subT at hsub
            have ha94' : a88.Args[0]? = some a94 := ha94
            rw [if_neg hk, ha94'] at hsub
            simp only [h5, if_false, Option.some.injEq] at hsub
            show GTy.mk a88.Kind a88.Name a88.Args = _
            rw [ty_eta]; exact hsub
          · unfold subT at hsub
            have : a88.Args[0]? = none := List.getElem?_eq_none (by omega)
            rw [if_neg hk, this] at hsub
            simp only [Option.some.injEq] at hsub
            show GTy.mk a88.Kind a88.Name a88.Args = _
            rw [ty_eta]; exact hsub
          intro kd nm ar hty
          refine ⟨⟨by omega, by omega⟩, ?_⟩
          rintro _ rfl
          refine ⟨v, ?_, ?_⟩
          · rw [hty]; exact hs
          refine ⟨?_, ?_⟩
          · simp only [List.length_take, List.length_singleton]; omega
          rintro _ rfl
          refine ⟨⟨by omega, by omega⟩, ?_⟩
          rintro _ rfl
          refine ⟨⟨by omega, by omega, ?_⟩, by simp only; omega⟩
          rw [(at_nat j0 hv).2.1]
        · simp at hj
          show GVl.mk 5 0 m.Name (vs.take j.toNat) = _
          rw [all_nat (by omega)]
    · simp at hw
      omega
  · rw [okV_eq, hk5, f1]
    simpa using g2
end Go.Hw.VR

