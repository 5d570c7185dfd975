import Derived.Test.YthogcmalebekkaaHwShape13
import Derived.Test.YthogcmalebekkaaHwLayR
set_option linter.unusedVariables false
set_option linter.unusedSimpArgs false
namespace Go.Hw.VR
open Go Go.Proofs

theorem s29' (n : Nat) (hn : n ≤ 5) : ∃ s, sp29 [116] (n : Int) s := ⟨_, s29 [116] n (by simp; omega) (by omega)⟩
theorem typed {n : Int} (i : Int) (hi : R64 i) : ∃ a : GaActor, (progF n).Actors = [a] ∧ ∃ r, sp12 i (a.Types.length : Int) r ∧ (0 ≤ r ∧ r < (a.Types.length : Int)) ∧ ∀ t, a.Types[r.toNat]? = some t → ∃ τ, Low τ ∧ t = τ.ty := by
  have hr := rest_range (n.tdiv 16) (m := 511) (by omega)
  have hb := sel_ne ⟨(rest (n.tdiv 16) 511).toNat, by omega⟩
  simp only [Int.toNat_of_nonneg hr.1] at hb
  rw [Int.add_comm] at hb
  obtain ⟨hm, -, -⟩ := sel_mem (1 + rest (n.tdiv 16) 511)
  refine ⟨_, rfl, _, s12 hi ?_, rest_range _ ?_, fun t ht => ?_⟩
  · show ((sel (1 + rest (n.tdiv 16) 511)).2.length : Int) ≠ 0
    omega
  · show 0 < ((sel (1 + rest (n.tdiv 16) 511)).2.length : Int)
    omega
  · have := hm t (List.mem_of_getElem? ht)
    rw [t9_c9, List.mem_map] at this
    obtain ⟨τ, hτ, rfl⟩ := this
    exact ⟨τ, low9 τ hτ, rfl⟩
theorem progF_datas (n : Int) : ∃ k z, (progF n).Datas = datas k z ∧ (k = 1 ∨ k = 2) := by
  have hr := rest_range n (m := 2) (by omega)
  exact ⟨_, _, rfl, by omega⟩
abbrev B64 (n : Int) : Prop := IntKind.i64.min ≤ n ∧ n ≤ IntKind.i64.max
theorem r64_of {n : Int} (h : B64 n) : R64 n := by
  have h1 : IntKind.i64.min = -9223372036854775808 := by decide
  have h2 : IntKind.i64.max = 9223372036854775807 := by decide
  unfold B64 at h
  rw [h1, h2] at h
  exact h
end Go.Hw.VR

