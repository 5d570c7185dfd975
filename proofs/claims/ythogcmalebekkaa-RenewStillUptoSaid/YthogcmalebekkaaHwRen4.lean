import Derived.Test.YthogcmalebekkaaHwRen3
set_option linter.unusedVariables false
set_option linter.unusedSimpArgs false
namespace Go.Hw.VR
open Go Go.Proofs

theorem okay_self (b z : Bool) (S : List F9) (g : F9) : Okay b z b z S S g g := ⟨out_self b z (ty_mem g), fun j _ _ => out_self b z (ty_mem j)⟩
theorem w8_true {n : Int} {l : List Int} {late : Bool} (hn : R64 n) (hl : ∀ x ∈ l, R64 x) (hll : l.length ≤ 2 ^ 62) : w8 n l late (fun b => b = true) := by
  obtain ⟨b, z, S, g, hp⟩ := progF_prog n
  obtain ⟨vp, hv⟩ := firstsOf hp
  obtain ⟨vals, v1, v2, v3⟩ := s20 hp hl hll
  have hf := move_fine hp.once hp.few hp.few vp
  refine ⟨_, s11 hn, _, s19 hp hp hv _ (.inl ⟨okay_self b z S g, rfl⟩), _, v3, fun s e => (s = [66] ∧ e = 4) ∨ (s = [65] ∧ e = 8), ⟨fun _ => .inl ⟨rfl, rfl⟩, fun _ => .inr ⟨rfl, rfl⟩⟩, ?_⟩
  intro s e hse
  have key : sp21 ⟨s, vals, [⟨3, zeroV⟩]⟩ ⟨[moveF S S vp]⟩ (noSaved, e) := by
    rcases hse with ⟨rfl, rfl⟩ | ⟨rfl, rfl⟩
    · exact s21_err (s34_no (by simp [moveF]) true) (by omega)
    · exact s21_err (s34_in hf rfl (by simp [moveF, v1]) (by simp)) (by omega)
  refine ⟨_, key, fun _ => ⟨fun _ => ⟨fun _ => ?_, fun h => absurd rfl h⟩, fun h => absurd rfl h⟩, fun h => absurd rfl h⟩
  rintro _ rfl
  rfl
theorem still_call (n : Int) (l : List Int) (late : Bool) (h1 : B64 n) (h2 : ∀ x ∈ l, B64 x) (h3 : l.length ≤ 2 ^ 62) : sp8 n l late true := ok8 n l late true (w8_true (r64_of h1) (fun x hx => r64_of (h2 x hx)) h3)
end Go.Hw.VR

