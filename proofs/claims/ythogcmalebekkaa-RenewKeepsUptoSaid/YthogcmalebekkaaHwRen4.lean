import Derived.Test.YthogcmalebekkaaHwRen3
set_option linter.unusedVariables false
set_option linter.unusedSimpArgs false
namespace Go.Hw.VR
open Go Go.Proofs

theorem okay_self (b z : Bool) (S : List F9) (g : F9) : Okay b z b z S S g g := ⟨out_self b z (ty_mem g), fun j _ _ => out_self b z (ty_mem j)⟩
theorem turn_in {S : List F9} (hS : S.Nodup) {vq : F9 → Vl} {s : Sv} {j : F9} {a : Nat} {v : Vl} (ha : S[a]? = some j) (hv : s.State[a]? = some v) : turnV s (fldF S vq j) = v := by
  unfold turnV fldF
  rw [if_pos (List.mem_of_getElem? ha), pos_in hS ha]
  simp only [Int.toNat_natCast, hv, Option.getD_some]
  rw [if_pos (by omega)]
theorem turn_out {S : List F9} {vq : F9 → Vl} {s : Sv} {j : F9} (h : j ∉ S) : turnV s (fldF S vq j) = vq j := by
  unfold turnV fldF
  rw [if_neg h]
  simp
def Vals (b z : Bool) (S : List F9) (vals : List Vl) : Prop := vals.length = S.length ∧ ∀ (i : Nat) (j : F9), S[i]? = some j → ∃ v, vals[i]? = some v ∧ ∃ k z, okV k z v (ctF j) = true
theorem turn_ok {S : List F9} (hS : S.Nodup) {b z b' z' : Bool} {vq : F9 → Vl} (hv : ∀ j, okV (kb b') z' (vq j) (ctF j) = true) {s : Sv} (hs : Vals b z S s.State) (j : F9) : ∃ k z, okV k z (turnV s (fldF S vq j)) (ctF j) = true := by
  by_cases h : j ∈ S
  · obtain ⟨a, ha⟩ := List.getElem?_of_mem h
    obtain ⟨v, h1, h2⟩ := hs.2 a j ha
    rw [turn_in hS ha h1]; exact h2
  · rw [turn_out h]; exact ⟨_, _, hv j⟩
theorem turned {p q : Pr} {b z b' z' : Bool} {S S' : List F9} {g g' : F9} (hp : Prog p b z S g) (hq : Prog q b' z' S' g') {vq : F9 → Vl} (hv : ∀ j, sp18 q (tyF j) (vq j, 0) ∧ okV (kb b') z' (vq j) (ctF j) = true)
    {s : Sv} (ha : s.Actor = [65]) (hi : s.Inputs = []) (hs : Vals b z S s.State) : sp21 s ⟨[moveF S S' vq]⟩ (⟨[65], S'.map (fun j => turnV s (fldF S vq j)), []⟩, 0) ∧ Vals b' z' S' (S'.map (fun j => turnV s (fldF S vq j))) := by
  have hf := move_fine hp.once hp.few hq.few vq
  constructor
  · have := s21 (m := moveF S S' vq) (s := s) (s34 hf ha true (by simp [moveF, hs.1]) hi) hf (by simp [moveF, hs.1]) (fun f hf' => by
      obtain ⟨j, -, rfl⟩ := List.mem_map.1 hf'
      obtain ⟨k, z, h⟩ := turn_ok hp.once (fun j => (hv j).2) hs j
      exact s35 h)
    rw [ha] at this
    simp only [moveF, List.map_map] at this ⊢
    exact this
  · refine ⟨by simp, fun i j hj => ⟨_, by rw [List.getElem?_map, hj]; rfl, turn_ok hp.once (fun j => (hv j).2) hs j⟩⟩

theorem vals_of {b z : Bool} {S : List F9} {vals : List Vl} (v1 : vals.length = S.length) (v2 : ∀ (i : Nat) (j : F9), S[i]? = some j → ∃ v, vals[i]? = some v ∧ okV (kb b) z v (ctF j) = true) : Vals b z S vals :=
  ⟨v1, fun i j hj => by obtain ⟨v, h1, h2⟩ := v2 i j hj; exact ⟨v, h1, _, _, h2⟩⟩
theorem w7_true {n m : Int} {l : List Int} (hn : R64 n) (hm : R64 m) (hl : ∀ x ∈ l, R64 x) (hll : l.length ≤ 2 ^ 62) : w7 n m l (fun b => b = true) := by
  obtain ⟨b, z, S, g, hp⟩ := progF_prog n
  obtain ⟨b', z', S', g', hq⟩ := progF_prog m
  obtain ⟨vp, hvp⟩ := firstsOf hp
  obtain ⟨vq, hvq⟩ := firstsOf hq
  obtain ⟨vals, v1, v2, v3⟩ := s20 hp hl hll
  have hs := vals_of v1 v2
  have h6 := hp.few
  have h6' := hq.few
  have hself : sp19 (progF n) (progF n) (⟨[moveF S S vp]⟩, 0) := s19 hp hp hvp _ (.inl ⟨okay_self b z S g, rfl⟩)
  by_cases hok : Okay b z b' z' S S' g g'
  · obtain ⟨t1, t2⟩ := turned hp hq hvq (s := ⟨[65], vals, []⟩) rfl rfl hs
    obtain ⟨body, ha⟩ := hp.actors
    obtain ⟨body', ha'⟩ := hq.actors
    refine ⟨_, s11 hn, _, s11 hm, _, s19 hp hq hvq _ (.inl ⟨hok, rfl⟩), _, hself, fun h => absurd rfl h, fun _ => ⟨fun h => absurd rfl h, fun _ => ⟨fun h => absurd rfl h, fun _ => ?_⟩⟩⟩
    refine ⟨_, v3, _, t1, fun h => absurd rfl h, fun _ => ⟨by rw [ha']; simp, fun a11 h11 => ?_⟩⟩
    rw [ha'] at h11; simp at h11; subst h11
    refine ⟨fun h => by simp at h, fun _ => ⟨by rw [ha]; simp, fun a12 h12 => ?_⟩⟩
    rw [ha] at h12; simp at h12; subst h12
    refine ⟨fun v => 0 ≤ v ∧ v ≤ S.length, fun v => ((S.length : Int) - v).toNat, ⟨by omega, by omega⟩, ?_⟩
    rintro v ⟨i0, i1⟩ w rfl
    refine ⟨fun hi => ?_, fun _ => rfl⟩
    simp at hi
    refine ⟨⟨i0, by simpa using hi⟩, fun nm hnm => ⟨by rw [ha']; simp, fun a39 h39 => ?_⟩⟩
    rw [ha'] at h39; simp at h39; subst h39
    rw [List.getElem?_map] at hnm
    obtain ⟨j, hj, rfl⟩ := Option.map_eq_some_iff.1 hnm
    refine ⟨fun c => 0 ≤ c ∧ c ≤ S'.length, fun c => ((S'.length : Int) - c).toNat, ⟨by omega, by omega⟩, ?_⟩
    rintro c ⟨c0, c1⟩ w rfl
    refine ⟨fun hc => ?_, fun _ => ⟨by unfold R64; omega, ?_⟩⟩
    · simp at hc
      refine ⟨⟨c0, by simpa using hc⟩, fun nm' hnm' => ?_⟩
      rw [List.getElem?_map] at hnm'
      obtain ⟨j', hj', rfl⟩ := Option.map_eq_some_iff.1 hnm'
      have next : R64 (c + 1) ∧ ∀ v55 : Int, v55 = c + 1 → ((0 ≤ v55 ∧ v55 ≤ S'.length) ∧ ((S'.length : Int) - v55).toNat < ((S'.length : Int) - c).toNat) := by
        refine ⟨by unfold R64; omega, ?_⟩
        rintro _ rfl
        exact ⟨⟨by omega, by omega⟩, by omega⟩
      refine ⟨fun he => ?_, fun _ => next⟩
      have hjj := nm_inj j j' he
      subst hjj
      refine ⟨⟨i0, by simp only; omega⟩, fun x hx => ⟨⟨c0, by simp; omega⟩, fun y hy => ?_⟩⟩
      obtain ⟨vv, w1, w2⟩ := v2 _ _ hj
      simp only at hx
      rw [w1] at hx; injection hx with hx; subst hx
      simp only [List.getElem?_map, hj', Option.map_some, Option.some.injEq] at hy
      rw [turn_in hp.once hj w1] at hy
      subst hy
      exact ⟨true, s17r w2, fun h => by simp at h, fun _ => next⟩
    · rintro _ rfl
      exact ⟨⟨by omega, by omega⟩, by simp only; omega⟩
  · refine ⟨_, s11 hn, _, s11 hm, _, s19 hp hq hvq _ (.inr ⟨hok, rfl⟩), _, hself, fun h => absurd rfl h, fun _ => ⟨fun h => absurd rfl h, fun _ => ⟨fun _ => ?_, fun h => by simp at h⟩⟩⟩
    rintro _ rfl
    rfl
theorem keeps_call (n m : Int) (l : List Int) (h1 : B64 n) (h2 : B64 m) (h3 : ∀ x ∈ l, B64 x) (h4 : l.length ≤ 2 ^ 62) : sp7 n m l true := ok7 n m l true (w7_true (r64_of h1) (r64_of h2) (fun x hx => r64_of (h3 x hx)) h4)
end Go.Hw.VR

