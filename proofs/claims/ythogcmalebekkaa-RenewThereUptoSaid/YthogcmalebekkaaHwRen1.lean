import Derived.Test.YthogcmalebekkaaHwSame5
import Derived.Test.YthogcmalebekkaaHwR3
set_option linter.unusedVariables false
set_option linter.unusedSimpArgs false
namespace Go.Hw.VR
open Go Go.Proofs
abbrev Ac := GAc
abbrev Fd := GFd
abbrev Mv := GMv
abbrev Wy := GWy
abbrev Sv := GSv

theorem okV_args {k : Int} {z : Bool} {v : Vl} {τ : CT} (h : okV k z v τ = true) : v.Args.length ≤ 2 ∧ ∀ u ∈ v.Args, ∃ σ, okV k z u σ = true := by
  rw [okV_eq, Bool.and_eq_true] at h
  cases hps : partsOf k z τ v.Text with
  | none => rw [hps] at h; exact absurd h.2 (by simp)
  | some ps =>
    rw [hps] at h
    have h2 : okVs k z v.Args ps = true := h.2
    have hl := okVs_lens h2
    refine ⟨by have := parts_len hps; omega, fun u hu => ?_⟩
    obtain ⟨i, hi⟩ := List.getElem?_of_mem hu
    have hlt := (List.getElem?_eq_some_iff.1 hi).1
    have hσ : ps[i]? = some (ps[i]'(by omega)) := List.getElem?_eq_getElem (by omega)
    refine ⟨ps[i]'(by omega), Classical.byContradiction fun hc => ?_⟩
    have := okVs_bad k z v.Args ps i u _ hi hσ (by simpa using hc)
    rw [h2] at this; cases this
theorem copy_size {k : Int} {z : Bool} : ∀ (n : Nat) (v : Vl), SizeOf.sizeOf v < n → ∀ τ, okV k z v τ = true → sp35 v v ∧ sp17 v v true
  | 0, v, h, _, _ => absurd h (Nat.not_lt_zero _)
  | n + 1, v, hn, τ, hok => by
    obtain ⟨hl, hargs⟩ := okV_args hok
    have ih : ∀ u ∈ v.Args, sp35 u u ∧ sp17 u u true := fun u hu => by
      obtain ⟨σ, hσ⟩ := hargs u hu
      exact copy_size n u (by have := args_lt hu; omega) σ hσ
    constructor
    · refine ok35 v v ⟨fun us j => 0 ≤ j ∧ j ≤ v.Args.length ∧ us = v.Args.take j.toNat, fun _ j => ((v.Args.length : Int) - j).toNat, ⟨by omega, by omega, by simp⟩, ?_⟩
      rintro us j ⟨j0, j1, rfl⟩ w rfl
      refine ⟨fun hj => ?_, fun hj => ?_⟩
      · simp at hj
        refine ⟨⟨j0, hj⟩, fun u hu => ⟨u, by rw [vl_eta]; exact (ih u (List.mem_of_getElem? hu)).1, ?_, ?_⟩⟩
        · simp only [List.length_take, List.length_singleton]; omega
        rintro _ rfl
        refine ⟨by unfold R64; omega, ?_⟩
        rintro _ rfl
        refine ⟨⟨by omega, by omega, ?_⟩, by simp only; omega⟩
        rw [(at_nat j0 hu).2.1]
      · simp at hj
        rw [all_nat (by omega), vl_eta]
    · refine ok17 v v true ⟨fun _ => ⟨fun _ => ⟨fun _ => ⟨true, ?_, rfl⟩, fun h => absurd rfl h⟩, fun h => absurd rfl h⟩, fun h => absurd rfl h⟩
      have := s31 v.Args v.Args (List.replicate v.Args.length true) (by omega) rfl (by simp) (fun i a c b h1 h2 h3 => by
        rw [h1] at h2; injection h2 with h2; subst h2
        have hb : b = true := by
          have := List.mem_of_getElem? h3
          exact (List.mem_replicate.1 this).2
        subst hb
        exact (ih a (List.mem_of_getElem? h1)).2)
      have hall : (List.replicate v.Args.length true).all id = true := by rw [List.all_eq_true]; intro x hx; exact (List.mem_replicate.1 hx).2
      rw [hall] at this
      exact this
theorem s35 {k : Int} {z : Bool} {v : Vl} {τ : CT} (h : okV k z v τ = true) : sp35 v v := (copy_size _ v (Nat.lt_succ_self _) τ h).1
theorem s17r {k : Int} {z : Bool} {v : Vl} {τ : CT} (h : okV k z v τ = true) : sp17 v v true := (copy_size _ v (Nat.lt_succ_self _) τ h).2

theorem s73 {l : List Ty} (hl : l.length ≤ 1000) (h : ∀ t ∈ l, sp74 t t) : sp73 l l := by
  refine ok73 l l ⟨fun us j => 0 ≤ j ∧ j ≤ l.length ∧ us = l.take j.toNat, fun _ j => ((l.length : Int) - j).toNat, ⟨by omega, by omega, by simp⟩, ?_⟩
  rintro us j ⟨j0, j1, rfl⟩ w rfl
  refine ⟨fun hj => ?_, fun hj => ?_⟩
  · simp at hj
    refine ⟨⟨j0, hj⟩, fun u hu => ⟨u, by rw [ty_eta]; exact h u (List.mem_of_getElem? hu), ?_, ?_⟩⟩
    · simp only [List.length_take, List.length_singleton]; omega
    rintro _ rfl
    refine ⟨by unfold R64; omega, ?_⟩
    rintro _ rfl
    refine ⟨⟨by omega, by omega, ?_⟩, by simp only; omega⟩
    rw [(at_nat j0 hu).2.1]
  · simp at hj
    exact all_nat (by omega)
theorem s74_of {t : Ty} (h : sp73 t.Args t.Args) : sp74 t t := ok74 t t ⟨_, h, ty_eta t⟩
theorem s74 (τ : CT) : sp74 τ.ty τ.ty := by
  have h0 : sp73 [] [] := s73 (by simp) (by simp)
  induction τ with
  | int => exact s74_of h0
  | bool => exact s74_of h0
  | text => exact s74_of h0
  | unit => exact s74_of h0
  | D => exact s74_of h0
  | E => exact s74_of h0
  | L t ih => exact s74_of (s73 (l := [t.ty]) (by simp) (by simpa using ih))
  | cell t ih => exact s74_of (s73 (l := [t.ty]) (by simp) (by simpa using ih))
theorem s72 {l : List Nm} (hl : l.length ≤ 1000) : sp72 l l := by
  refine ok72 l l ⟨fun h => (List.length_eq_zero_iff.1 h).symm, by simp only [List.length_nil]; omega, ?_⟩
  rintro _ rfl
  rfl
theorem s71 (a : Ac) (s : Nm) : sp71 a s (a.Name == s, s) := ok71 a s _ (by rintro v rfl; simp)
theorem s77 (m : Mv) (s : Nm) : sp77 m s (m.Actor == s, s) := ok77 m s _ (by rintro v rfl; simp)
theorem s54 (f : Fd) (i : Int) : sp54 f i (f.From == i, i) := ok54 f i _ (by rintro v rfl; simp)
theorem s70 (a : Ac) (s : Nm) : sp70_71 [a] s (if a.Name = s then 0 else -1, s) := by
  refine ok70_71 [a] s _ ⟨fun t i => t = s ∧ 0 ≤ i ∧ i ≤ 1 ∧ (i = 1 → a.Name ≠ s), fun _ i => (1 - i).toNat, ⟨rfl, by omega, by omega, by omega⟩, ?_⟩
  rintro t i ⟨rfl, i0, i1, i2⟩ w rfl
  refine ⟨fun hi => ?_, fun hi => ?_⟩
  · have hi' : i = 0 := by simp at hi; omega
    subst hi'
    refine ⟨by simp, fun x hx => ⟨_, s71 x t, fun hn => ?_, fun hn => ⟨by unfold R64; omega, ?_⟩⟩⟩
    · simp at hx; subst hx
      rw [if_pos (by simpa using hn)]
    · rintro _ rfl
      simp at hx; subst hx
      exact ⟨⟨rfl, by omega, by omega, fun _ => by simpa using hn⟩, by simp⟩
  · have hi' : i = 1 := by simp at hi; omega
    rw [if_neg (i2 hi')]
theorem s76 (m : Mv) (s : Nm) : sp76_77 [m] s (if m.Actor = s then 0 else -1, s) := by
  refine ok76_77 [m] s _ ⟨fun t i => t = s ∧ 0 ≤ i ∧ i ≤ 1 ∧ (i = 1 → m.Actor ≠ s), fun _ i => (1 - i).toNat, ⟨rfl, by omega, by omega, by omega⟩, ?_⟩
  rintro t i ⟨rfl, i0, i1, i2⟩ w rfl
  refine ⟨fun hi => ?_, fun hi => ?_⟩
  · have hi' : i = 0 := by simp at hi; omega
    subst hi'
    refine ⟨by simp, fun x hx => ⟨_, s77 x t, fun hn => ?_, fun hn => ⟨by unfold R64; omega, ?_⟩⟩⟩
    · simp at hx; subst hx
      rw [if_pos (by simpa using hn)]
    · rintro _ rfl
      simp at hx; subst hx
      exact ⟨⟨rfl, by omega, by omega, fun _ => by simpa using hn⟩, by simp⟩
  · have hi' : i = 1 := by simp at hi; omega
    rw [if_neg (i2 hi')]
theorem s75 (l : List Fd) (c : Int) (hl : l.length ≤ 1000) : sp75_54 l c (fidx (fun f => f.From == c) l, c) := by
  obtain ⟨f1, f2⟩ := fidx_loop (fun x : Fd => x.From == c) l
  refine ok75_54 l c _ ⟨fun t i => t = c ∧ 0 ≤ i ∧ i ≤ l.length ∧ ∀ j : Nat, (j : Int) < i → ∀ b, l[j]? = some b → (b.From == c) = false, fun _ i => ((l.length : Int) - i).toNat, ⟨rfl, by omega, by omega, fun j hj => by omega⟩, ?_⟩
  rintro t i ⟨rfl, h0, h1, h2⟩ v rfl
  refine ⟨fun hi => ?_, fun hi => ?_⟩
  · simp at hi
    refine ⟨⟨h0, hi⟩, fun a ha => ⟨_, s54 a t, fun he => ?_, fun hne => ?_⟩⟩
    · have := f1 i.toNat a ha he (fun j hj b hb => h2 j (by omega) b hb)
      show (i, t) = _
      rw [this]; congr 1; omega
    · refine ⟨by unfold R64; omega, ?_⟩
      rintro _ rfl
      refine ⟨⟨rfl, by omega, by omega, fun j hj b hb => ?_⟩, by simp only; omega⟩
      by_cases hji : (j : Int) < i
      · exact h2 j hji b hb
      · have : j = i.toNat := by omega
        subst this
        rw [ha] at hb; injection hb with hb; subst hb
        exact hne
  · simp at hi
    show ((-1 : Int), t) = _
    rw [f2]
    intro a ha
    obtain ⟨j, hj⟩ := List.getElem?_of_mem ha
    exact h2 j (by have := (List.getElem?_eq_some_iff.1 hj).1; omega) a hj
theorem fidx_any {α : Type} (p : α → Bool) (l : List α) : decide (fidx p l ≥ 0) = l.any p := by
  rcases fidx_find p l with ⟨h1, h2⟩ | ⟨h1, h2, h3⟩
  · rw [List.find?_eq_none] at h2
    have : l.any p = false := by
      rw [← Bool.not_eq_true, List.any_eq_true]
      rintro ⟨x, hx, hp⟩
      exact h2 x hx hp
    rw [this]
    simpa using h1
  · have hlt : (fidx p l).toNat < l.length := by omega
    rw [List.getElem?_eq_getElem hlt] at h3
    have hp := List.find?_some h3
    have : l.any p = true := List.any_eq_true.2 ⟨_, List.getElem_mem hlt, hp⟩
    rw [this]
    simpa using h1
theorem s53 (l : List Fd) (c : Int) (hl : l.length ≤ 1000) : sp53_54 l c (l.any (fun f => f.From == c), c) := by
  refine ok53_54 l c _ ⟨_, s75 l c hl, ?_⟩
  rintro _ rfl
  rw [fidx_any]
theorem s78 {i : Int} {m : Mv} (h : 0 ≤ i ∧ i < m.Count) : sp78 i m (false, m) := by
  refine ok78 i m _ ⟨fun h' => by omega, fun _ => ?_⟩
  rintro _ rfl
  have : decide (i ≥ m.Count) = false := by simpa using h.2
  rw [this]
theorem s80 {f : Fd} {m : Mv} (h : f.From = -1 ∨ (0 ≤ f.From ∧ f.From < m.Count)) : sp80_c_78 f m (false, m) :=
  ok80_c_78 f m _ ⟨fun hne => ⟨_, s78 (h.resolve_left hne), rfl⟩, fun _ => rfl⟩
theorem s85 {l : List Int} {m : Mv} (hl : l.length ≤ 1000) (h : ∀ i ∈ l, 0 ≤ i ∧ i < m.Count) : sp85_78 l m (-1, m) := by
  refine ok85_78 l m _ ⟨fun a b c d i => GMv.mk a b c d = m ∧ 0 ≤ i ∧ i ≤ l.length, fun _ _ _ _ i => ((l.length : Int) - i).toNat, ⟨rfl, by omega, by omega⟩, ?_⟩
  rintro a b c d i ⟨hm, i0, i1⟩ w rfl
  rw [hm]
  refine ⟨fun hi => ?_, fun hi => rfl⟩
  simp at hi
  refine ⟨⟨i0, hi⟩, fun x hx => ⟨_, s78 (h x (List.mem_of_getElem? hx)), fun h => by simp at h, fun _ => ⟨by unfold R64; omega, ?_⟩⟩⟩
  rintro _ rfl
  exact ⟨⟨rfl, by omega, by omega⟩, by simp only; omega⟩
theorem s79 {l : List Int} {m : Mv} (hl : l.length ≤ 1000) (h : ∀ i ∈ l, 0 ≤ i ∧ i < m.Count) : sp79_78 l m (false, m) := by
  refine ok79_78 l m _ ⟨_, s85 hl h, ?_⟩
  rintro _ rfl
  rfl
theorem s75c {l : List Fd} {m : Mv} (hl : l.length ≤ 1000) (h : ∀ f ∈ l, f.From = -1 ∨ (0 ≤ f.From ∧ f.From < m.Count)) : sp75_80_c_78 l m (-1, m) := by
  refine ok75_80_c_78 l m _ ⟨fun a b c d i => GMv.mk a b c d = m ∧ 0 ≤ i ∧ i ≤ l.length, fun _ _ _ _ i => ((l.length : Int) - i).toNat, ⟨rfl, by omega, by omega⟩, ?_⟩
  rintro a b c d i ⟨hm, i0, i1⟩ w rfl
  rw [hm]
  refine ⟨fun hi => ?_, fun hi => rfl⟩
  simp at hi
  refine ⟨⟨i0, hi⟩, fun x hx => ⟨_, s80 (h x (List.mem_of_getElem? hx)), fun h => by simp at h, fun _ => ⟨by unfold R64; omega, ?_⟩⟩⟩
  rintro _ rfl
  exact ⟨⟨rfl, by omega, by omega⟩, by simp only; omega⟩
theorem s53c {l : List Fd} {m : Mv} (hl : l.length ≤ 1000) (h : ∀ f ∈ l, f.From = -1 ∨ (0 ≤ f.From ∧ f.From < m.Count)) : sp53_80_c_78 l m (false, m) := by
  refine ok53_80_c_78 l m _ ⟨_, s75c hl h, ?_⟩
  rintro _ rfl
  rfl
structure Fine (m : Mv) : Prop where
  count : 0 ≤ m.Count ∧ m.Count ≤ 1000
  lost : m.Lost.length ≤ 1000 ∧ ∀ i ∈ m.Lost, 0 ≤ i ∧ i < m.Count
  fields : m.Fields.length ≤ 1000 ∧ ∀ f ∈ m.Fields, f.From = -1 ∨ (0 ≤ f.From ∧ f.From < m.Count)
abbrev noMove : Mv := ⟨[], 0, [], []⟩
theorem s55 {m : Mv} (hf : Fine m) : sp55 ⟨[m]⟩ m.Actor (m, 0) := by
  have h76 := s76 m m.Actor
  rw [if_pos rfl] at h76
  refine ok55 ⟨[m]⟩ m.Actor _ ⟨_, h76, fun h => by simp at h, fun _ => ⟨by simp, fun a ha => ?_⟩⟩
  simp at ha; subst ha
  refine ⟨fun a b c d t => GMv.mk a b c d = m ∧ t = false, ⟨fun h => by have := hf.count.1; omega, fun _ => ⟨fun h => by have := hf.count.2; omega, fun _ => ⟨_, s79 hf.lost.1 hf.lost.2, fun h => by simp at h, fun _ => ⟨_, s53c hf.fields.1 hf.fields.2, rfl, rfl⟩⟩⟩⟩, ?_⟩
  rintro a b c d t ⟨rfl, rfl⟩
  exact ⟨fun h => by simp at h, fun _ => rfl⟩
theorem s34 {m : Mv} (hf : Fine m) {s : Sv} (ha : s.Actor = m.Actor) (old : Bool) (hn : (s.State.length : Int) = if old then m.Count else (m.Fields.length : Int)) (hi : s.Inputs = []) : sp34 s ⟨[m]⟩ old (m, 0) := by
  refine ok34 s ⟨[m]⟩ old _ ⟨_, by rw [ha]; exact s55 hf, fun h => absurd rfl h, fun _ => ⟨fun n => n = if old then m.Count else (m.Fields.length : Int), ⟨fun h => by rw [h]; rfl, fun h => by rw [h]; rfl⟩, ?_⟩⟩
  rintro _ rfl
  refine ⟨fun h => absurd hn h, fun _ => ⟨fun h => by rw [hi] at h; simp at h, fun _ => rfl⟩⟩
def turnV (s : Sv) (f : Fd) : Vl := if 0 ≤ f.From then (s.State[f.From.toNat]?).getD f.First else f.First
theorem s21 {m : Mv} {s : Sv} (h : sp34 s ⟨[m]⟩ true (m, 0)) (hf : Fine m) (hn : (s.State.length : Int) = m.Count) (hc : ∀ f ∈ m.Fields, sp35 (turnV s f) (turnV s f)) : sp21 s ⟨[m]⟩ (⟨s.Actor, m.Fields.map (turnV s), []⟩, 0) := by
  refine ok21 s ⟨[m]⟩ _ ⟨_, h, fun h => absurd rfl h, fun _ => ?_⟩
  have hl := hf.fields.1
  refine ⟨fun us j => 0 ≤ j ∧ j ≤ m.Fields.length ∧ us = (m.Fields.map (turnV s)).take j.toNat, fun _ j => ((m.Fields.length : Int) - j).toNat, ⟨by omega, by omega, by simp⟩, ?_⟩
  rintro us j ⟨j0, j1, rfl⟩ w rfl
  refine ⟨fun hj => ?_, fun hj => ?_⟩
  · simp at hj
    refine ⟨⟨j0, hj⟩, fun f hfj => ?_⟩
    have hmem := List.mem_of_getElem? hfj
    refine ⟨fun a b c d => GVl.mk a b c d = turnV s f, ⟨fun hp => ?_, fun hp => ?_⟩, ?_⟩
    · have := (hf.fields.2 f hmem).resolve_left (by omega)
      refine ⟨⟨hp, by omega⟩, fun a ha => ?_⟩
      unfold turnV
      rw [if_pos hp, ha]
      exact vl_eta a
    · unfold turnV
      rw [if_neg (by omega)]
      exact vl_eta f.First
    intro a b c d hab
    have hm : (m.Fields.map (turnV s))[j.toNat]? = some (turnV s f) := by rw [List.getElem?_map, hfj]; rfl
    refine ⟨turnV s f, by rw [hab]; exact hc f hmem, ?_, ?_⟩
    · simp only [List.length_take, List.length_singleton, List.length_map]; omega
    rintro _ rfl
    refine ⟨by unfold R64; omega, ?_⟩
    rintro _ rfl
    refine ⟨⟨by omega, by omega, ?_⟩, by simp only; omega⟩
    rw [(at_nat j0 hm).2.1]
  · simp at hj
    show (GSv.mk s.Actor ((m.Fields.map (turnV s)).take j.toNat) [], (0 : Int)) = _
    rw [all_nat (by simp; omega)]
end Go.Hw.VR

