import Derived.Test.YthogcmalebekkaaHwShape13
import Derived.Test.YthogcmalebekkaaHwLayR
set_option linter.unusedVariables false
set_option linter.unusedSimpArgs false
namespace Go.Hw.VR
open Go Go.Proofs

theorem s29' (n : Nat) (hn : n ≤ 5) : ∃ s, sp29 [116] (n : Int) s := ⟨_, s29 [116] n (by simp; omega) (by omega)⟩
theorem typed {n : Int} (i : Int) (hi : R64 i) : ∃ a : GaActor, (progF n).Actors = [a] ∧ ∃ r, sp12 i (a.Types.length : Int) r ∧ (0 ≤ r ∧ r < (a.Types.length : Int)) ∧ ∀ t, a.Types[r.toNat]? = some t → ∃ τ, Low τ ∧ t = τ.ty := by
  have hr := rest_range (n.tdiv 16) (m := 511) (by omega)
  have hb := sel_ne ⟨(rest (n.tdiv 16) 511).toNat, by omega⟩
  simp only [Int.toNat_of_nonneg hr.1] at hb
  rw [Int.add_comm] at hb
  obtain ⟨hm, -, -⟩ := sel_mem (1 + rest (n.tdiv 16) 511)
  refine ⟨_, rfl, _, s12 hi ?_, rest_range _ ?_, fun t ht => ?_⟩
  · show ((sel (1 + rest (n.tdiv 16) 511)).2.length : Int) ≠ 0
    omega
  · show 0 < ((sel (1 + rest (n.tdiv 16) 511)).2.length : Int)
    omega
  · have := hm t (List.mem_of_getElem? ht)
    rw [t9_c9, List.mem_map] at this
    obtain ⟨τ, hτ, rfl⟩ := this
    exact ⟨τ, low9 τ hτ, rfl⟩
theorem progF_datas (n : Int) : ∃ k z, (progF n).Datas = datas k z ∧ (k = 1 ∨ k = 2) := by
  have hr := rest_range n (m := 2) (by omega)
  exact ⟨_, _, rfl, by omega⟩
theorem w6_true {n i : Int} {l : List Int} (hn : R64 n) (hi : R64 i) (hl : ∀ x ∈ l, R64 x) : w6 n i l (fun b => b = true) := by
  obtain ⟨k, z, hp, hk⟩ := progF_datas n
  obtain ⟨a, ha, r, hr, hr2, ht⟩ := typed (n := n) i hi
  refine ⟨_, s11 hn, by rw [ha]; simp, fun a5 h5 => ?_⟩
  rw [ha] at h5; simp at h5; subst h5
  refine ⟨by rw [ha]; simp, fun a6 h6 => ?_⟩
  rw [ha] at h6; simp at h6; subst h6
  refine ⟨r, hr, hr2, fun t h8 => ?_⟩
  obtain ⟨τ, hτ, rfl⟩ := ht t h8
  obtain ⟨v, hv, hok⟩ := s18 hp hk hτ
  refine ⟨_, by rw [ty_eta]; exact hv, fun _ => ?_, fun h => absurd rfl h⟩
  refine ⟨_, by rw [ty_eta, vl_eta]; exact s15 hp hk v τ, fun _ => ?_, fun h => by rw [hok] at h; cases h⟩
  obtain ⟨u, hu, huk⟩ := s14 hp hk s29' hl hτ
  refine ⟨u, by rw [ty_eta]; exact hu, _, by rw [ty_eta]; exact s15 hp hk u τ, fun _ => ?_, fun h => by rw [huk] at h; cases h⟩
  refine ⟨_, by rw [ty_eta]; exact s15 hp hk _ τ, ?_⟩
  rw [okV_eq]
  cases τ <;> simp [kindOf]
abbrev B64 (n : Int) : Prop := IntKind.i64.min ≤ n ∧ n ≤ IntKind.i64.max
theorem r64_of {n : Int} (h : B64 n) : R64 n := by
  have h1 : IntKind.i64.min = -9223372036854775808 := by decide
  have h2 : IntKind.i64.max = 9223372036854775807 := by decide
  unfold B64 at h
  rw [h1, h2] at h
  exact h
theorem first_call (n i : Int) (l : List Int) (h1 : B64 n) (h2 : B64 i) (h3 : ∀ x ∈ l, B64 x) : sp6 n i l true :=
  ok6 n i l true (w6_true (r64_of h1) (r64_of h2) fun x hx => r64_of (h3 x hx))
end Go.Hw.VR

