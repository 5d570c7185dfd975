import Derived.Test.YthogcmalebekkaaHwRen3
set_option linter.unusedVariables false
set_option linter.unusedSimpArgs false
namespace Go.Hw.VR
open Go Go.Proofs

theorem okay_self (b z : Bool) (S : List F9) (g : F9) : Okay b z b z S S g g := ⟨out_self b z (ty_mem g), fun j _ _ => out_self b z (ty_mem j)⟩
theorem turn_in {S : List F9} (hS : S.Nodup) {vq : F9 → Vl} {s : Sv} {j : F9} {a : Nat} {v : Vl} (ha : S[a]? = some j) (hv : s.State[a]? = some v) : turnV s (fldF S vq j) = v := by
  unfold turnV fldF
  rw [if_pos (List.mem_of_getElem? ha), pos_in hS ha]
  simp only [Int.toNat_natCast, hv, Option.getD_some]
  rw [if_pos (by omega)]
theorem turn_out {S : List F9} {vq : F9 → Vl} {s : Sv} {j : F9} (h : j ∉ S) : turnV s (fldF S vq j) = vq j := by
  unfold turnV fldF
  rw [if_neg h]
  simp
def Vals (b z : Bool) (S : List F9) (vals : List Vl) : Prop := vals.length = S.length ∧ ∀ (i : Nat) (j : F9), S[i]? = some j → ∃ v, vals[i]? = some v ∧ ∃ k z, okV k z v (ctF j) = true
theorem turn_ok {S : List F9} (hS : S.Nodup) {b z b' z' : Bool} {vq : F9 → Vl} (hv : ∀ j, okV (kb b') z' (vq j) (ctF j) = true) {s : Sv} (hs : Vals b z S s.State) (j : F9) : ∃ k z, okV k z (turnV s (fldF S vq j)) (ctF j) = true := by
  by_cases h : j ∈ S
  · obtain ⟨a, ha⟩ := List.getElem?_of_mem h
    obtain ⟨v, h1, h2⟩ := hs.2 a j ha
    rw [turn_in hS ha h1]; exact h2
  · rw [turn_out h]; exact ⟨_, _, hv j⟩
theorem turned {p q : Pr} {b z b' z' : Bool} {S S' : List F9} {g g' : F9} (hp : Prog p b z S g) (hq : Prog q b' z' S' g') {vq : F9 → Vl} (hv : ∀ j, sp18 q (tyF j) (vq j, 0) ∧ okV (kb b') z' (vq j) (ctF j) = true)
    {s : Sv} (ha : s.Actor = [65]) (hi : s.Inputs = []) (hs : Vals b z S s.State) : sp21 s ⟨[moveF S S' vq]⟩ (⟨[65], S'.map (fun j => turnV s (fldF S vq j)), []⟩, 0) ∧ Vals b' z' S' (S'.map (fun j => turnV s (fldF S vq j))) := by
  have hf := move_fine hp.once hp.few hq.few vq
  constructor
  · have := s21 (m := moveF S S' vq) (s := s) (s34 hf ha true (by simp [moveF, hs.1]) hi) hf (by simp [moveF, hs.1]) (fun f hf' => by
      obtain ⟨j, -, rfl⟩ := List.mem_map.1 hf'
      obtain ⟨k, z, h⟩ := turn_ok hp.once (fun j => (hv j).2) hs j
      exact s35 h)
    rw [ha] at this
    simp only [moveF, List.map_map] at this ⊢
    exact this
  · refine ⟨by simp, fun i j hj => ⟨_, by rw [List.getElem?_map, hj]; rfl, turn_ok hp.once (fun j => (hv j).2) hs j⟩⟩

theorem vals_of {b z : Bool} {S : List F9} {vals : List Vl} (v1 : vals.length = S.length) (v2 : ∀ (i : Nat) (j : F9), S[i]? = some j → ∃ v, vals[i]? = some v ∧ okV (kb b) z v (ctF j) = true) : Vals b z S vals :=
  ⟨v1, fun i j hj => by obtain ⟨v, h1, h2⟩ := v2 i j hj; exact ⟨v, h1, _, _, h2⟩⟩
end Go.Hw.VR

