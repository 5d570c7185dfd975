import Derived.Shelf.Spec.SlicesGrow
import Derived.Test.YtcenjonbenlfkaaHwF2
set_option linter.unusedVariables false
set_option linter.unusedSimpArgs false
namespace Go.Hw
open Go Go.Proofs
variable {P : Program}
theorem grow_nil {ρ : _root_.Go.Shelf.Ren} (L : Lays8.n4 P ρ) (hfn : ∃ fn, P.funcs[ρ.f 4]? = some fn ∧ fn.body.isSome = true ∧ fn.name ≠ "runtime.NumGoroutine")
    (i0 : TypeInfo) (z : Value) (hi0 : P.info? (ρ.t 25) = some i0) (hz0 : i0.zero = some z) (sz : Nat) (hsz : i0.size = sz) (hs0 : 0 < sz) (hzc : z.cells.size = sz)
    (n : Nat) (hn : n * i0.bytes ≤ 140737488355328) (hn2 : n ≤ 4611686018427387904) {A : Type} (f : A → HV) :
    MC P (ρ.f 4) [.nilslice, .int .i64 n] [] (.arr 0 0 0 sz) [GA f []] := by
  refine ⟨hfn, fun K w vs hh hl hv => ?_⟩
  obtain ⟨v0, v1, rfl⟩ : ∃ v0 v1, vs = [v0, v1] := by
    match vs, hl with
    | [a, b], _ => exact ⟨a, b, rfl⟩
  have h0 := hv 0 _ v0 rfl rfl
  have h1 := hv 1 _ v1 rfl rfl
  cases h0
  cases h1
  by_cases hz : n = 0
  · subst hz
    refine (Any8.slices_Grow_room L none 0 0 0 w (by omega) (by omega) (by omega) (by omega)).mono ?_
    rintro en w' ⟨rfl, rfl⟩
    exact ⟨_, .arr 0 0 0 sz, K, [.cells []], rfl, .refl K w', heap_app hh [], .arrn 0 0 sz, rfl, rfl⟩
  · refine (Any8.slices_Grow_grow L i0 z hi0 hz0 (by omega) none 0 0 n [] w (by omega) (by omega) (by simpa using hn) (by omega) (by simp) (fun _ => rfl) (fun a ha => by cases ha)).mono ?_
    rintro en w' ⟨rfl, rfl⟩
    have hcap : n ≤ grownCap w (0 + n) 0 (ρ.t 25) := by
      have := grownCap_ge w (0 + n) 0 (ρ.t 25)
      omega
    generalize grownCap w (0 + n) 0 (ρ.t 25) = c at *
    generalize hcs : ([].toArray ++ Builtin.zeroCells z.cells (0 + n - 0) ++ Builtin.zeroCells z.cells (c - (0 + n)) : Array Value) = cs at *
    have hcz : c * sz ≤ cs.size := by
      rw [← hcs]
      simp only [Array.size_append, size_zeroCells, hzc, List.size_toArray, List.length_nil, Nat.zero_add, Nat.sub_zero, ← Nat.add_mul]
      exact Nat.mul_le_mul_right _ (by omega)
    obtain ⟨s, hh'⟩ := push_obj (id := ([] : Heap).length) (w' := w.drew.alloc (.cells cs (ρ.t 25))) (ob := .cells cs (ρ.t 25)) (x := .cells []) hh rfl rfl tk rfl (.inr ⟨rfl, rfl⟩) (by simp) (fun K' _ => ⟨cs, ρ.t 25, (0, 0), heap_alloc_new w.drew _, by simp, fun _ _ => by omega, fun j x hx => by simp at hx⟩)
    exact ⟨_, .arr 0 0 0 sz, _, _, rfl, s, hh', .arr 0 0 0 sz w.heap.size c 0 (by simp [GK.rhoAt]) (by omega) (fun _ => rfl) ⟨cs, ρ.t 25, (0, 0), heap_alloc_new w.drew _, by omega⟩, rfl, rfl⟩
theorem info_of {t : TypeId} {z : Value} {sz by_ : Nat} (h : (P.info? t).isSome = true) (hz : (P.info? t).bind (·.zero) = some z) (hs : (P.info? t).map (·.size) = some sz) (hb : (P.info? t).map (·.bytes) = some by_) :
    ∃ i0, P.info? t = some i0 ∧ i0.zero = some z ∧ i0.size = sz ∧ i0.bytes = by_ := by
  cases hq : P.info? t with
  | none => rw [hq] at h; cases h
  | some i =>
    rw [hq] at hz hs hb
    simp at hz hs hb
    exact ⟨i, rfl, hz, hs, hb⟩
end Go.Hw

