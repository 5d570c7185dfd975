import Derived.Test.YtonoaimefgodfaaHwMk3
set_option linter.unusedVariables false
set_option linter.unusedSimpArgs false
namespace Go.Hw.VK
open Go Go.Proofs

def restF (x n : Int) : Int := if x < 0 then (-(x + 1)).tmod n else x.tmod n
theorem s17 (x n : Int) (hx : R64 x) (hn : 0 < n) : sp17 x n (restF x n) := by
  refine ok17 _ _ _ ?_
  simp only [R64] at hx
  unfold w17
  refine ⟨fun y => y = if x < 0 then -(x + 1) else x, ⟨fun h => ⟨by simp only [R64]; omega, ?_⟩, fun h => by rw [if_neg (by omega)]⟩, ?_⟩
  · rintro _ rfl
    refine ⟨by omega, ?_⟩
    rintro _ rfl
    rw [if_pos h]
  · rintro _ rfl
    refine ⟨by omega, ?_⟩
    rintro _ rfl
    unfold restF
    split <;> rfl
theorem restF_bound (x n : Int) (hn : 0 < n) : 0 ≤ restF x n ∧ restF x n < n := by
  have key : ∀ y : Int, 0 ≤ y → 0 ≤ y.tmod n ∧ y.tmod n < n := by
    intro y hy
    rw [Int.tmod_eq_emod_of_nonneg hy]
    exact ⟨Int.emod_nonneg _ (by omega), Int.emod_lt_of_pos _ hn⟩
  unfold restF
  split
  · exact key _ (by omega)
  · exact key _ (by omega)
def idxI {A : Type} [DecidableEq A] (l : List A) (v : A) : Int := match l.findIdx? (fun a => decide (v = a)) with
  | some j => j
  | none => -1
theorem idxI_at {A : Type} [DecidableEq A] {l : List A} {v : A} {k : Nat} (h : l[k]? = some v) (hn : ∀ j < k, l[j]? ≠ some v) : idxI l v = k := by
  have : l.findIdx? (fun a => decide (v = a)) = some k := by
    rw [List.findIdx?_eq_some_iff_getElem]
    obtain ⟨h1, h2⟩ := List.getElem?_eq_some_iff.1 h
    refine ⟨h1, by simp [h2], fun j hj => ?_⟩
    have := hn j hj
    rw [List.getElem?_eq_getElem (by omega)] at this
    simp only [decide_eq_true_eq]
    intro hc
    exact this (by rw [← hc])
  unfold idxI
  rw [this]
theorem idxI_no {A : Type} [DecidableEq A] {l : List A} {v : A} (h : v ∉ l) : idxI l v = -1 := by
  have : l.findIdx? (fun a => decide (v = a)) = none := by
    rw [List.findIdx?_eq_none_iff]
    intro x hx
    simp only [decide_eq_false_iff_not]
    rintro rfl
    exact h hx
  unfold idxI
  rw [this]
theorem idxI_cases {A : Type} [DecidableEq A] (l : List A) (v : A) : (idxI l v = -1 ∧ v ∉ l) ∨ ∃ k : Nat, idxI l v = k ∧ l[k]? = some v ∧ k < l.length := by
  by_cases h : v ∈ l
  · right
    cases hf : l.findIdx? (fun a => decide (v = a)) with
    | none =>
      have := List.findIdx?_eq_none_iff.1 hf v h
      simp at this
    | some j =>
      have h2 := hf
      rw [List.findIdx?_eq_some_iff_getElem] at h2
      obtain ⟨h1, h2, _⟩ := h2
      refine ⟨j, by unfold idxI; rw [hf], ?_, h1⟩
      rw [List.getElem?_eq_getElem h1]
      have : v = l[j] := by simpa using h2
      rw [← this]
  · exact .inl ⟨idxI_no h, h⟩
theorem s48 (l : List Int) (v : Int) (hl : l.length ≤ 1000000) : sp48 l v (idxI l v) := by
  refine ok48 l v _ ⟨fun i => ∃ k : Nat, i = k ∧ k ≤ l.length ∧ ∀ j < k, l[j]? ≠ some v, fun i => (l.length - i).toNat, ⟨0, rfl, by omega, by simp⟩, ?_⟩
  rintro i ⟨k, rfl, hk, hn⟩ w rfl
  refine ⟨fun h => ⟨by have := of_decide_eq_true h; omega, fun a ha => ?_⟩, fun h => ?_⟩
  · have hlt : k < l.length := by have := of_decide_eq_true h; omega
    have ha' : l[k]? = some a := by simpa using ha
    refine ⟨fun he => ?_, fun he => ⟨by simp only [R64]; omega, ?_⟩⟩
    · subst he; exact (idxI_at ha' hn).symm
    · rintro _ rfl
      refine ⟨⟨k + 1, by omega, by omega, fun j hj => ?_⟩, by first | omega | (dsimp only; omega)⟩
      rcases Nat.lt_or_ge j k with h1 | h1
      · exact hn j h1
      · obtain rfl : j = k := by omega
        rw [ha']
        intro hc; injection hc with hc; exact he hc.symm
  · have hge : l.length ≤ k := by have := of_decide_eq_false h; omega
    refine (idxI_no fun hm => ?_).symm
    obtain ⟨j, hj⟩ := List.getElem?_of_mem hm
    exact hn j (by have := (List.getElem?_eq_some_iff.1 hj).1; omega) hj
theorem s63 (l : List Bool) (v : Bool) (hl : l.length ≤ 1000000) : sp63 l v (idxI l v) := by
  refine ok63 l v _ ⟨fun i => ∃ k : Nat, i = k ∧ k ≤ l.length ∧ ∀ j < k, l[j]? ≠ some v, fun i => (l.length - i).toNat, ⟨0, rfl, by omega, by simp⟩, ?_⟩
  rintro i ⟨k, rfl, hk, hn⟩ w rfl
  refine ⟨fun h => ⟨by have := of_decide_eq_true h; omega, fun a ha => ?_⟩, fun h => ?_⟩
  · have hlt : k < l.length := by have := of_decide_eq_true h; omega
    have ha' : l[k]? = some a := by simpa using ha
    rintro t rfl
    simp only [Bool.false_eq_true, if_false]
    refine ⟨fun he => ?_, fun he => ⟨by simp only [R64]; omega, ?_⟩⟩
    · have he : v = a := by simpa using he
      subst he; exact (idxI_at ha' hn).symm
    · rintro _ rfl
      have he : v ≠ a := by simpa using he
      refine ⟨⟨k + 1, by omega, by omega, fun j hj => ?_⟩, by first | omega | (dsimp only; omega)⟩
      rcases Nat.lt_or_ge j k with h1 | h1
      · exact hn j h1
      · obtain rfl : j = k := by omega
        rw [ha']
        intro hc; injection hc with hc; exact he hc.symm
  · have hge : l.length ≤ k := by have := of_decide_eq_false h; omega
    refine (idxI_no fun hm => ?_).symm
    obtain ⟨j, hj⟩ := List.getElem?_of_mem hm
    exact hn j (by have := (List.getElem?_eq_some_iff.1 hj).1; omega) hj
theorem idxI_dec {A : Type} [DecidableEq A] (l : List A) (v : A) : decide (idxI l v ≥ 0) = decide (v ∈ l) := by
  rcases idxI_cases l v with ⟨h1, h2⟩ | ⟨k, h1, h2, h3⟩
  · rw [h1]; simp [h2]
  · rw [h1]
    have : v ∈ l := List.mem_of_getElem? h2
    simp [this]
theorem s50 (l : List Bool) (v : Bool) (hl : l.length ≤ 1000000) : sp50 l v (decide (v ∈ l)) := by
  refine ok50 l v _ ⟨_, s63 l v hl, ?_⟩
  rintro _ rfl
  exact idxI_dec l v
theorem s46 (l : List Int) (v : Int) (hl : l.length ≤ 1000000) : sp46 l v (decide (v ∈ l)) := by
  refine ok46 l v _ ⟨_, s48 l v hl, ?_⟩
  rintro _ rfl
  exact idxI_dec l v
theorem s47 (l : List Int) (hl : l.length ≤ 1000000) : sp47 l l := by
  refine ok47 l _ ⟨fun h0 => ?_, by simp; omega, fun v hv => ?_⟩
  · exact (List.eq_nil_of_length_eq_zero h0).symm
  · simpa using hv
theorem s24 (a b : List Int) (ha : a.length ≤ 1000000) : sp24 a b (decide (a = b)) := by
  refine ok24 a b _ ⟨fun h => ?_, fun h => ⟨fun i => ∃ k : Nat, i = k ∧ k ≤ a.length ∧ a.take k = b.take k, fun i => (a.length - i).toNat, ⟨0, rfl, by omega, by simp⟩, ?_⟩⟩
  · have : a ≠ b := by rintro rfl; exact h rfl
    simp [this]
  have hlen : a.length = b.length := by omega
  rintro i ⟨k, rfl, hk, hn⟩ w rfl
  refine ⟨fun h => ⟨by have := of_decide_eq_true h; omega, fun x hx => ⟨by have := of_decide_eq_true h; omega, fun y hy => ?_⟩⟩, fun h => ?_⟩
  · have hx' : a[k]? = some x := by simpa using hx
    have hy' : b[k]? = some y := by simpa using hy
    refine ⟨fun he => ?_, fun he => ⟨by simp only [R64]; have := of_decide_eq_true h; omega, ?_⟩⟩
    · have : a ≠ b := by rintro rfl; rw [hx'] at hy'; injection hy' with hy'; exact he hy'
      simp [this]
    · rintro _ rfl
      have := of_decide_eq_true h
      refine ⟨⟨k + 1, by omega, by omega, ?_⟩, by first | omega | (dsimp only; omega)⟩
      rw [List.take_add_one, List.take_add_one, hn, hx', hy', he]
  · have hge : a.length ≤ k := by have := of_decide_eq_false h; omega
    rw [List.take_of_length_le hge, List.take_of_length_le (by omega)] at hn
    simp [hn]
end Go.Hw.VK

