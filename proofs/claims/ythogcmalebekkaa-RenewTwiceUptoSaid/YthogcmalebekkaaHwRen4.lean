import Derived.Test.YthogcmalebekkaaHwRen3
set_option linter.unusedVariables false
set_option linter.unusedSimpArgs false
namespace Go.Hw.VR
open Go Go.Proofs

theorem okay_self (b z : Bool) (S : List F9) (g : F9) : Okay b z b z S S g g := ⟨out_self b z (ty_mem g), fun j _ _ => out_self b z (ty_mem j)⟩
theorem okay_sym {b z b' z' : Bool} {S S' : List F9} {g g' : F9} (h : Okay b z b' z' S S' g g') : Okay b' z' b z S' S g' g := by
  have one : ∀ i j : F9, outB b z b' z' (tyF i) (tyF j) = some true → outB b' z' b z (tyF j) (tyF i) = some true := by
    intro i j hij
    obtain ⟨r, o1, o2⟩ := out_sym b z b' z' (ty_mem i) (ty_mem j)
    rw [hij] at o1; injection o1 with o1; subst o1
    exact o2
  exact ⟨one g g' h.1, fun j hj hj' => one j j (h.2 j hj' hj)⟩
theorem turn_in {S : List F9} (hS : S.Nodup) {vq : F9 → Vl} {s : Sv} {j : F9} {a : Nat} {v : Vl} (ha : S[a]? = some j) (hv : s.State[a]? = some v) : turnV s (fldF S vq j) = v := by
  unfold turnV fldF
  rw [if_pos (List.mem_of_getElem? ha), pos_in hS ha]
  simp only [Int.toNat_natCast, hv, Option.getD_some]
  rw [if_pos (by omega)]
theorem turn_out {S : List F9} {vq : F9 → Vl} {s : Sv} {j : F9} (h : j ∉ S) : turnV s (fldF S vq j) = vq j := by
  unfold turnV fldF
  rw [if_neg h]
  simp
def Vals (b z : Bool) (S : List F9) (vals : List Vl) : Prop := vals.length = S.length ∧ ∀ (i : Nat) (j : F9), S[i]? = some j → ∃ v, vals[i]? = some v ∧ ∃ k z, okV k z v (ctF j) = true
theorem turn_ok {S : List F9} (hS : S.Nodup) {b z b' z' : Bool} {vq : F9 → Vl} (hv : ∀ j, okV (kb b') z' (vq j) (ctF j) = true) {s : Sv} (hs : Vals b z S s.State) (j : F9) : ∃ k z, okV k z (turnV s (fldF S vq j)) (ctF j) = true := by
  by_cases h : j ∈ S
  · obtain ⟨a, ha⟩ := List.getElem?_of_mem h
    obtain ⟨v, h1, h2⟩ := hs.2 a j ha
    rw [turn_in hS ha h1]; exact h2
  · rw [turn_out h]; exact ⟨_, _, hv j⟩
theorem turned {p q : Pr} {b z b' z' : Bool} {S S' : List F9} {g g' : F9} (hp : Prog p b z S g) (hq : Prog q b' z' S' g') {vq : F9 → Vl} (hv : ∀ j, sp18 q (tyF j) (vq j, 0) ∧ okV (kb b') z' (vq j) (ctF j) = true)
    {s : Sv} (ha : s.Actor = [65]) (hi : s.Inputs = []) (hs : Vals b z S s.State) : sp21 s ⟨[moveF S S' vq]⟩ (⟨[65], S'.map (fun j => turnV s (fldF S vq j)), []⟩, 0) ∧ Vals b' z' S' (S'.map (fun j => turnV s (fldF S vq j))) := by
  have hf := move_fine hp.once hp.few hq.few vq
  constructor
  · have := s21 (m := moveF S S' vq) (s := s) (s34 hf ha true (by simp [moveF, hs.1]) hi) hf (by simp [moveF, hs.1]) (fun f hf' => by
      obtain ⟨j, -, rfl⟩ := List.mem_map.1 hf'
      obtain ⟨k, z, h⟩ := turn_ok hp.once (fun j => (hv j).2) hs j
      exact s35 h)
    rw [ha] at this
    simp only [moveF, List.map_map] at this ⊢
    exact this
  · refine ⟨by simp, fun i j hj => ⟨_, by rw [List.getElem?_map, hj]; rfl, turn_ok hp.once (fun j => (hv j).2) hs j⟩⟩

theorem vals_of {b z : Bool} {S : List F9} {vals : List Vl} (v1 : vals.length = S.length) (v2 : ∀ (i : Nat) (j : F9), S[i]? = some j → ∃ v, vals[i]? = some v ∧ okV (kb b) z v (ctF j) = true) : Vals b z S vals :=
  ⟨v1, fun i j hj => by obtain ⟨v, h1, h2⟩ := v2 i j hj; exact ⟨v, h1, _, _, h2⟩⟩
theorem w9_true {n m : Int} {l : List Int} (hn : R64 n) (hm : R64 m) (hl : ∀ x ∈ l, R64 x) (hll : l.length ≤ 2 ^ 62) : w9 n m l (fun b => b = true) := by
  obtain ⟨b, z, S, g, hp⟩ := progF_prog n
  obtain ⟨b', z', S', g', hq⟩ := progF_prog m
  obtain ⟨vp, hvp⟩ := firstsOf hp
  obtain ⟨vq, hvq⟩ := firstsOf hq
  obtain ⟨vals, v1, v2, v3⟩ := s20 hp hl hll
  have hs := vals_of v1 v2
  have h6 := hp.few
  have h6' := hq.few
  have hself : sp19 (progF n) (progF n) (⟨[moveF S S vp]⟩, 0) := s19 hp hp hvp _ (.inl ⟨okay_self b z S g, rfl⟩)
  by_cases hok : Okay b z b' z' S S' g g'
  · obtain ⟨t1, t2⟩ := turned hp hq hvq (s := ⟨[65], vals, []⟩) rfl rfl hs
    obtain ⟨u1, u2⟩ := turned hq hp hvp (s := ⟨[65], S'.map (fun j => turnV ⟨[65], vals, []⟩ (fldF S vq j)), []⟩) rfl rfl t2
    obtain ⟨body, ha⟩ := hp.actors
    obtain ⟨body', ha'⟩ := hq.actors
    refine ⟨_, s11 hn, _, s11 hm, _, s19 hp hq hvq _ (.inl ⟨hok, rfl⟩), _, s19 hq hp hvp _ (.inl ⟨okay_sym hok, rfl⟩), _, hself, fun h => absurd rfl h, fun _ => ⟨fun h => absurd rfl h, fun _ => ?_⟩⟩
    rintro _ rfl _ rfl _ rfl
    refine ⟨fun h => by simp at h, fun _ => ⟨fun h => absurd rfl h, fun _ => ?_⟩⟩
    refine ⟨_, v3, _, t1, _, u1, fun h => absurd rfl h, fun _ => ⟨fun h => absurd rfl h, fun _ => ⟨fun h => by simp [v1] at h, fun _ => ⟨by rw [ha]; simp, fun a15 h15 => ?_⟩⟩⟩⟩
    rw [ha] at h15; simp at h15; subst h15
    refine ⟨fun v => 0 ≤ v ∧ v ≤ S.length, fun v => ((S.length : Int) - v).toNat, ⟨by omega, by omega⟩, ?_⟩
    rintro v ⟨i0, i1⟩ w rfl
    refine ⟨fun hi => ?_, fun _ => rfl⟩
    simp at hi
    have next : R64 (v + 1) ∧ ∀ v55 : Int, v55 = v + 1 → ((0 ≤ v55 ∧ v55 ≤ S.length) ∧ ((S.length : Int) - v55).toNat < ((S.length : Int) - v).toNat) := by
      refine ⟨by unfold R64; omega, ?_⟩
      rintro _ rfl
      exact ⟨⟨by omega, by omega⟩, by omega⟩
    refine ⟨⟨i0, by simpa using hi⟩, fun nm hnm => ⟨by rw [ha']; simp, fun a35 h35 => ?_⟩⟩
    rw [ha'] at h35; simp at h35; subst h35
    rw [List.getElem?_map] at hnm
    obtain ⟨j, hj, rfl⟩ := Option.map_eq_some_iff.1 hnm
    refine ⟨_, s22 (by simp; omega) (nmF j), ?_⟩
    rcases pos_cases hq.once j with ⟨hjS, c, hc, hcl, hpos⟩ | ⟨hjS, hpos⟩
    · refine ⟨fun _ => ⟨⟨i0, by simp only; omega⟩, fun x hx => ⟨⟨i0, by simp; omega⟩, fun y hy => ?_⟩⟩, fun h => by simp only [hpos] at h; simp at h⟩
      obtain ⟨vv, w1, w2⟩ := v2 _ _ hj
      simp only at hx
      rw [w1] at hx; injection hx with hx; subst hx
      simp only [List.getElem?_map, hj, Option.map_some, Option.some.injEq] at hy
      rw [turn_in hq.once hc (v := vv) (by simp only [List.getElem?_map, hc, Option.map_some]; rw [turn_in hp.once hj w1])] at hy
      subst hy
      exact ⟨true, s17r w2, fun h => by simp at h, fun _ => next⟩
    · refine ⟨fun h => by simp only [hpos] at h; simp at h, fun _ => ⟨by rw [ha]; simp, fun a41 h41 => ?_⟩⟩
      rw [ha] at h41; simp at h41; subst h41
      refine ⟨⟨i0, by simpa using hi⟩, fun t ht => ?_⟩
      simp only [List.getElem?_map, hj, Option.map_some, Option.some.injEq] at ht
      subst ht
      refine ⟨_, (hvp j).1, fun h => absurd rfl h, fun _ => ⟨⟨i0, by simp; omega⟩, fun y hy => ?_⟩⟩
      simp only [List.getElem?_map, hj, Option.map_some, Option.some.injEq] at hy
      rw [turn_out hjS] at hy
      subst hy
      exact ⟨true, by rw [vl_eta]; exact s17r (hvp j).2, fun h => by simp at h, fun _ => next⟩
  · have hno : ¬ Okay b' z' b z S' S g' g := fun h => hok (okay_sym h)
    refine ⟨_, s11 hn, _, s11 hm, _, s19 hp hq hvq _ (.inr ⟨hok, rfl⟩), _, s19 hq hp hvp _ (.inr ⟨hno, rfl⟩), _, hself, fun h => absurd rfl h, fun _ => ⟨fun h => absurd rfl h, fun _ => ?_⟩⟩
    rintro _ rfl _ rfl _ rfl
    exact ⟨fun h => by simp at h, fun _ => ⟨fun _ => rfl, fun h => by simp at h⟩⟩
theorem twice_call (n m : Int) (l : List Int) (h1 : B64 n) (h2 : B64 m) (h3 : ∀ x ∈ l, B64 x) (h4 : l.length ≤ 2 ^ 62) : sp9 n m l true := ok9 n m l true (w9_true (r64_of h1) (r64_of h2) (fun x hx => r64_of (h3 x hx)) h4)
end Go.Hw.VR

