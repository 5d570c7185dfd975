import Derived.Test.YthogcmalebekkaaHwSame4
set_option linter.unusedVariables false
set_option linter.unusedSimpArgs false
namespace Go.Hw.VR
open Go Go.Proofs

theorem kb_of (n : Int) : ∃ b, kb b = 1 + rest n 2 := by
  have hr := rest_range n (m := 2) (by omega)
  have : rest n 2 = 0 ∨ rest n 2 = 1 := by omega
  rcases this with h | h
  · exact ⟨false, by rw [h]; rfl⟩
  · exact ⟨true, by rw [h]; rfl⟩
theorem progF_kb (n : Int) : ∃ b z, (progF n).Datas = datas (kb b) z := by
  obtain ⟨b, hb⟩ := kb_of n
  exact ⟨b, _, by rw [hb]; rfl⟩
theorem mem_B2 (b : Bool) : b ∈ B2 := by cases b <;> simp [B2]
theorem out_self (b z : Bool) {a : Ty} (ha : a ∈ t9) : outB b z b z a a = some true := by
  have := chk_self
  rw [List.all_eq_true] at this
  have := this b (mem_B2 b)
  rw [List.all_eq_true] at this
  have := this z (mem_B2 z)
  rw [List.all_eq_true] at this
  simpa using this a ha
theorem out_sym (b z b' z' : Bool) {a c : Ty} (ha : a ∈ t9) (hc : c ∈ t9) : ∃ r, outB b z b' z' a c = some r ∧ outB b' z' b z c a = some r := by
  have := chk_sym
  rw [List.all_eq_true] at this
  have := this b (mem_B2 b)
  rw [List.all_eq_true] at this
  have := this z (mem_B2 z)
  rw [List.all_eq_true] at this
  have := this b' (mem_B2 b')
  rw [List.all_eq_true] at this
  have := this z' (mem_B2 z')
  rw [List.all_eq_true] at this
  have := this a ha
  rw [List.all_eq_true] at this
  have := this c hc
  simp only [Bool.and_eq_true, beq_iff_eq] at this
  obtain ⟨r, hr⟩ := Option.isSome_iff_exists.1 this.1
  exact ⟨r, hr, by rw [← this.2]; exact hr⟩
theorem datas_len (k : Int) (z : Bool) : (datas k z).length ≤ 1000 := by simp [datas]
theorem s13b {p q : Pr} {b z b' z' : Bool} (hp : p.Datas = datas (kb b) z) (hq : q.Datas = datas (kb b') z') {a c : Ty} {t : Bool} (h : outB b z b' z' a c = some t) : sp13 p q a c t :=
  s13 (f := 5) (by rw [hp]; exact datas_len _ _) (by rw [hq]; exact datas_len _ _) (by rw [hp, hq]; exact h)
theorem kb_or (b : Bool) : kb b = 1 ∨ kb b = 2 := by cases b <;> simp [kb]
end Go.Hw.VR

