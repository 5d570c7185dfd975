import Derived.Test.YthogcmalebekkaaHwShape10
set_option linter.unusedVariables false
set_option linter.unusedSimpArgs false
namespace Go.Hw.VR
open Go Go.Proofs

theorem s84_var (t : Ty) : sp84 tA [[97]] [t] t := by
  refine ok84 tA [[97]] [t] t ⟨fun _ => False, ⟨0, s36 [[97]] [97] (by simp), fun _ => ⟨fun _ => ⟨fun _ => ⟨by simp, fun a ha => ?_⟩, fun h => by simp at h⟩, fun h => by simp at h⟩, fun h => absurd rfl h⟩, fun _ h => h.elim⟩
  simp at ha
  subst ha
  exact ty_eta _
theorem s84_node {t : Ty} {names : List (List UInt8)} {args rs : List Ty} (hk : t.Kind ≠ 5) (hn : names.length ≤ 1000) (hl : t.Args.length ≤ 1000) (hlen : rs.length = t.Args.length)
    (h : ∀ (i : Nat) (a r : Ty), t.Args[i]? = some a → rs[i]? = some r → sp84 a names args r) : sp84 t names args ⟨t.Kind, t.Name, rs⟩ := by
  refine ok84 t names args _ ⟨fun _ => True, ⟨_, s36 names t.Name (by omega), fun h5 => absurd h5 hk, fun _ => trivial⟩, fun _ _ => ?_⟩
  refine ⟨fun us j => 0 ≤ j ∧ j ≤ t.Args.length ∧ us = rs.take j.toNat, fun _ j => ((t.Args.length : Int) - j).toNat, ⟨by omega, by omega, by simp⟩, ?_⟩
  rintro us j ⟨j0, j1, rfl⟩ w rfl
  refine ⟨fun hj => ?_, fun hj => ?_⟩
  · simp at hj
    refine ⟨⟨j0, hj⟩, fun a ha => ?_⟩
    have hr : rs[j.toNat]? = some (rs[j.toNat]'(by omega)) := List.getElem?_eq_getElem (by omega)
    refine ⟨rs[j.toNat]'(by omega), ?_, ?_, ?_⟩
    · rw [ty_eta]; exact h _ _ _ ha hr
    · simp only [List.length_take, List.length_singleton]; omega
    rintro _ rfl
    refine ⟨⟨by omega, by omega⟩, ?_⟩
    rintro _ rfl
    refine ⟨⟨by omega, by omega, ?_⟩, by simp only; omega⟩
    rw [(at_nat j0 hr).2.1]
  · simp at hj
    show GTy.mk t.Kind t.Name (rs.take j.toNat) = _
    rw [all_nat (by omega)]
theorem s84_one (k : Int) (hk : k ≠ 5) (names : List (List UInt8)) (args : List Ty) (hn : names.length ≤ 1000) : sp84 (tOne k) names args (tOne k) :=
  s84_node (t := tOne k) (rs := []) hk hn (by simp [tOne]) rfl (fun i a r h => by simp [tOne] at h)
theorem s84_D (names : List (List UInt8)) (args : List Ty) (hn : names.length ≤ 1000) : sp84 tD names args tD :=
  s84_node (t := tD) (rs := []) (by simp [tD]) hn (by simp [tD]) rfl (fun i a r h => by simp [tD] at h)
theorem s84_L {t r : Ty} {names : List (List UInt8)} {args : List Ty} (hn : names.length ≤ 1000) (h : sp84 t names args r) : sp84 (tL t) names args (tL r) :=
  s84_node (t := tL t) (rs := [r]) (by simp [tL]) hn (by simp [tL]) rfl (fun i a r' h1 h2 => by
    cases i with
    | zero => simp [tL] at h1 h2; subst h1; subst h2; exact h
    | succ i => simp [tL] at h1)

def Fills (names : List (List UInt8)) (args : List Ty) (ar : List Ty) (ps : List CT) : Prop :=
  ar.length = ps.length ∧ ∀ (i : Nat) (a : Ty) (σ : CT), ar[i]? = some a → ps[i]? = some σ → sp84 a names args σ.ty
theorem fills_nil (names args) : Fills names args [] [] := ⟨rfl, fun i a σ h => by simp at h⟩
theorem fills_cons {names args a σ ar ps} (h : sp84 a names args σ.ty) (t : Fills names args ar ps) : Fills names args (a :: ar) (σ :: ps) := by
  refine ⟨by simp [t.1], fun i a' σ' h1 h2 => ?_⟩
  cases i with
  | zero => simp at h1 h2; subst h1; subst h2; exact h
  | succ i => exact t.2 i a' σ' (by simpa using h1) (by simpa using h2)

theorem s69 {p : Pr} {τ : CT} {d : Da} {m : Mk} {i : Nat} {ps : List CT} (h49 : sp49 p τ.ty.Name (d, true)) (hl : d.Params.length = τ.ty.Args.length) (hm : d.Makes.length ≤ 1000)
    (hi : fidx (fun x : Mk => x.Name == m.Name) d.Makes = (i : Int)) (him : d.Makes[i]? = some m) (h6 : m.Args.length ≤ 6) (hf : Fills d.Params τ.ty.Args m.Args ps) : sp69 p τ.ty m.Name (ps.map CT.ty, true) := by
  obtain ⟨f1, f2⟩ := hf
  have hlt := (List.getElem?_eq_some_iff.1 him).1
  refine ok69 p τ.ty m.Name _ ⟨(d, true), h49, _, s65' d.Makes m.Name (by omega), fun h => by simp at h, fun _ => ⟨fun h => ?_, fun _ => ⟨fun h => ?_, fun _ => ?_⟩⟩⟩
  · rw [hi] at h; simp only at h; omega
  · simp only at h; omega
  · rw [hi]
    refine ⟨⟨by simp, by simp only; omega⟩, fun a6 ha6 => ?_⟩
    simp only [Int.toNat_natCast] at ha6
    rw [him] at ha6
    injection ha6 with ha6
    subst ha6
    refine ⟨fun h => by omega, fun _ => ⟨⟨by simp, by simp only; omega⟩, fun a7 ha7 => ?_⟩⟩
    simp only [Int.toNat_natCast] at ha7
    rw [him] at ha7
    injection ha7 with ha7
    subst ha7
    refine ⟨fun us j => 0 ≤ j ∧ j ≤ m.Args.length ∧ us = (ps.map CT.ty).take j.toNat, fun _ j => ((m.Args.length : Int) - j).toNat, ⟨by omega, by omega, by simp⟩, ?_⟩
    rintro us j ⟨j0, j1, rfl⟩ w rfl
    refine ⟨fun hj => ?_, fun hj => ?_⟩
    · simp at hj
      refine ⟨⟨j0, hj⟩, fun a ha => ?_⟩
      have hjl : j.toNat < ps.length := by omega
      have hσ : ps[j.toNat]? = some ps[j.toNat] := List.getElem?_eq_getElem hjl
      have hσ' : (ps.map CT.ty)[j.toNat]? = some (ps[j.toNat]).ty := by rw [List.getElem?_map, hσ]; rfl
      refine ⟨(ps[j.toNat]).ty, ?_, ?_, ?_⟩
      · rw [ty_eta]; exact f2 _ _ _ ha hσ
      · simp only [List.length_take, List.length_singleton]; omega
      rintro _ rfl
      refine ⟨⟨by omega, by omega⟩, ?_⟩
      rintro _ rfl
      refine ⟨⟨by omega, by omega, ?_⟩, by simp only; omega⟩
      rw [(at_nat j0 hσ').2.1]
    · simp at hj
      show ((ps.map CT.ty).take j.toNat, true) = _
      rw [all_nat (by simp; omega)]

def need : CT → Int
  | .D => 1 | .L _ => 2 | .E => 3 | .cell _ => 2 | _ => 0
theorem made {k : Int} {z : Bool} {p : Pr} (hp : p.Datas = datas k z) (hk : k = 1 ∨ k = 2) {τ : CT} (hτ : Low τ) (h6 : τ.ty.Kind = 6) :
    ∃ d, sp49 p τ.ty.Name (d, true) ∧ d.Makes.length ≤ 1000 ∧ (∃ m ∈ d.Makes, ∀ ps, partsOf k z τ m.Name = some ps → ∀ σ ∈ ps, need σ + 1 ≤ need τ) ∧ ∀ m ∈ d.Makes, ∃ ps, partsOf k z τ m.Name = some ps ∧ (∀ σ ∈ ps, Low σ) ∧ ps.length ≤ 2 ∧ sp69 p τ.ty m.Name (ps.map CT.ty, true) := by
  have hk5 : k ≠ 5 := by omega
  cases hτ with
  | int => simp [CT.ty, tOne] at h6
  | bool => simp [CT.ty, tOne] at h6
  | text => simp [CT.ty, tOne] at h6
  | unit => simp [CT.ty, tOne] at h6
  | cellD => simp [CT.ty, tC] at h6
  | D =>
    have h49 := s49 hp (s := CT.D.ty.Name) (d := dataD k) (.inl ⟨rfl, rfl⟩)
    refine ⟨_, h49, by simp [dataD], ⟨⟨[90], []⟩, by simp [dataD], fun ps h => by cases h; simp⟩, fun m hm => ?_⟩
    simp [dataD] at hm
    rcases hm with rfl | rfl | rfl
    · exact ⟨[.D], rfl, by simp; exact .D, by simp, s69 (τ := .D) (d := dataD k) (i := 0) (m := ⟨[88], [tD]⟩) h49 rfl (by simp [dataD]) rfl rfl (by simp) (fills_cons (s84_D _ _ (by simp [dataD])) (fills_nil _ _))⟩
    · refine ⟨[ctOf k], rfl, ?_, by simp, s69 (τ := .D) (d := dataD k) (i := 1) (m := ⟨[89], [tOne k]⟩) h49 rfl (by simp [dataD]) rfl rfl (by simp) (fills_cons ?_ (fills_nil _ _))⟩
      · rcases hk with rfl | rfl <;> simp [ctOf] <;> constructor
      · have e : (ctOf k).ty = tOne k := by rcases hk with rfl | rfl <;> rfl
        rw [e]; exact s84_one k hk5 _ _ (by simp [dataD])
    · exact ⟨[], rfl, by simp, by simp, s69 (τ := .D) (d := dataD k) (i := 2) (m := ⟨[90], []⟩) h49 rfl (by simp [dataD]) rfl rfl (by simp) (fills_nil _ _)⟩
  | E =>
    have h49 := s49 hp (s := CT.E.ty.Name) (d := dataE) (.inr (.inr ⟨rfl, rfl⟩))
    refine ⟨_, h49, by simp [dataE], ⟨⟨[87], [tL tD, tOne 3]⟩, by simp [dataE], fun ps h => by cases h; simp [need]⟩, fun m hm => ?_⟩
    simp [dataE] at hm
    subst hm
    exact ⟨[.L .D, .text], rfl, by simp; exact ⟨.L _ .D, .text⟩, by simp, s69 (τ := .E) (d := dataE) (i := 0) (m := ⟨[87], [tL tD, tOne 3]⟩) h49 rfl (by simp [dataE]) rfl rfl (by simp) (fills_cons (s84_L (by simp [dataE]) (s84_D _ _ (by simp [dataE]))) (fills_cons (s84_one 3 (by omega) _ _ (by simp [dataE])) (fills_nil _ _)))⟩
  | L t ht =>
    have h49 := s49 hp (s := (CT.L t).ty.Name) (d := dataL z) (.inr (.inl ⟨rfl, rfl⟩))
    refine ⟨_, h49, by simp [dataL], ⟨⟨[78], if z then [tD] else []⟩, by simp [dataL], fun ps h => by cases h; cases z <;> simp [need]⟩, fun m hm => ?_⟩
    simp [dataL] at hm
    rcases hm with rfl | rfl
    · cases z
      · exact ⟨[], rfl, by simp, by simp, s69 (τ := .L t) (d := dataL false) (i := 0) (m := ⟨[78], []⟩) h49 rfl (by simp [dataL]) rfl rfl (by simp) (fills_nil _ _)⟩
      · exact ⟨[.D], rfl, by simp; exact .D, by simp, s69 (τ := .L t) (d := dataL true) (i := 0) (m := ⟨[78], [tD]⟩) h49 rfl (by simp [dataL]) rfl rfl (by simp) (fills_cons (s84_D _ _ (by simp [dataL])) (fills_nil _ _))⟩
    · exact ⟨[t, .L t], rfl, by simp; exact ⟨ht, .L _ ht⟩, by simp, s69 (τ := .L t) (d := dataL z) (i := 1) (m := ⟨[67], [tA, tL tA]⟩) h49 rfl (by simp [dataL]) rfl rfl (by simp) (fills_cons (s84_var _) (fills_cons (s84_L (by simp [dataL]) (s84_var _)) (fills_nil _ _)))⟩
end Go.Hw.VR

