import Derived.Shelf.Spec.SlicesGrow
import Derived.Test.YthikpbaphpdpfaaHwS2
set_option linter.unusedVariables false
set_option linter.unusedSimpArgs false
namespace Go.Hw.VB
open Go Go.Proofs

def gρ : _root_.Go.Shelf.Ren := ⟨fun k => if k = 4 then 96 else k, fun k => if k = 22 then 27 else if k = 25 then 5 else k, fun k => k⟩
theorem gL : Lays8.n4 Try.prog gρ where
  mixed := by kernel_rfl
  f4 := ⟨"slices.Grow[[]byte,byte]", by decide, by kernel_rfl⟩
  t0 := by kernel_rfl
  a0 := fun w => by kernel_rfl
  z0 := fun w => by kernel_rfl
  v0 := fun w => by kernel_rfl
  t3 := by kernel_rfl
  a3 := fun w => by kernel_rfl
  z3 := fun w => by kernel_rfl
  v3 := fun w => by kernel_rfl
  t4 := by kernel_rfl
  a4 := fun w => by kernel_rfl
  z4 := fun w => by kernel_rfl
  v4 := fun w => by kernel_rfl
  t9 := by kernel_rfl
  a9 := fun w => by kernel_rfl
  z9 := fun w => by kernel_rfl
  v9 := fun w => by kernel_rfl
  t20 := by kernel_rfl
  a20 := fun w => by kernel_rfl
  z20 := fun w => by kernel_rfl
  v20 := fun w => by kernel_rfl
  t22 := by kernel_rfl
  a22 := fun w => by kernel_rfl
  z22 := fun w => by kernel_rfl
  v22 := fun w => by kernel_rfl
theorem grow_call (n : Nat) (hn : n ≤ 140737488355328) : sp96_s (n : Int) [] := by

  refine ⟨⟨Try.f96, Try.func96, rfl, by decide⟩, fun K w vs hh hl hv => ?_⟩
  obtain ⟨v0, v1, rfl⟩ : ∃ v0 v1, vs = [v0, v1] := by
    match vs, hl with
    | [a, b], _ => exact ⟨a, b, rfl⟩
  have h0 := hv 0 _ v0 rfl rfl
  have h1 := hv 1 _ v1 rfl rfl
  cases h0
  cases h1
  by_cases hz : n = 0
  · subst hz
    refine (Any8.slices_Grow_room gL none 0 0 0 w (by omega) (by omega) (by omega) (by omega)).mono ?_
    rintro en w' ⟨rfl, rfl⟩
    exact ⟨_, .arr 0 0 0 1, K, [.cells []], rfl, .refl K w', heap_app hh [], .arrn 0 0 1, rfl, rfl⟩
  · obtain ⟨i0, hi0, hz0, hs0, hb0⟩ : ∃ i0, Try.prog.info? 5 = some i0 ∧ i0.zero = some (.int .u8 0) ∧ i0.size = 1 ∧ i0.bytes = 1 := by
      have h : (Try.prog.info? 5).isSome = true := by kernel_rfl
      have hz : (Try.prog.info? 5).bind (·.zero) = some (.int .u8 0) := by kernel_rfl
      have hs : (Try.prog.info? 5).map (·.size) = some 1 := by kernel_rfl
      have hb : (Try.prog.info? 5).map (·.bytes) = some 1 := by kernel_rfl
      cases hq : Try.prog.info? 5 with
      | none => rw [hq] at h; cases h
      | some i =>
        rw [hq] at hz hs hb
        simp at hz hs hb
        exact ⟨i, rfl, hz, hs, hb⟩
    refine (Any8.slices_Grow_grow gL i0 (.int .u8 0) hi0 hz0 (by omega) none 0 0 n [] w (by omega) (by omega) (by rw [hb0]; omega) (by omega) (by simp) (fun _ => rfl) (fun a ha => by cases ha)).mono ?_
    rintro en w' ⟨rfl, rfl⟩
    have hcap : n ≤ grownCap w (0 + n) 0 (gρ.t 25) := by
      have := grownCap_ge w (0 + n) 0 (gρ.t 25)
      omega
    generalize grownCap w (0 + n) 0 (gρ.t 25) = c at *
    generalize hcs : ([].toArray ++ Builtin.zeroCells (Value.int .u8 0).cells (0 + n - 0) ++ Builtin.zeroCells (Value.int .u8 0).cells (c - (0 + n)) : Array Value) = cs at *
    have hsz : c ≤ cs.size := by
      rw [← hcs]
      simp [size_zeroCells, Value.cells]
      omega
    obtain ⟨s, hh'⟩ := push_obj (id := ([] : Heap).length) (w' := w.drew.alloc (.cells cs (gρ.t 25))) (ob := .cells cs (gρ.t 25)) (x := .cells []) hh rfl rfl rfl rfl (.inr ⟨rfl, rfl⟩) (by simp) (fun K' _ => ⟨cs, gρ.t 25, (0, 0), heap_alloc_new w.drew _, by simp, fun _ _ => by omega, fun j x hx => by simp at hx⟩)
    exact ⟨_, .arr 0 0 0 1, _, _, rfl, s, hh', .arr 0 0 0 1 w.heap.size c 0 (by simp [GK.rhoAt]) (by omega) (fun _ => rfl) ⟨cs, gρ.t 25, (0, 0), heap_alloc_new w.drew _, by omega⟩, rfl, rfl⟩
end Go.Hw.VB

