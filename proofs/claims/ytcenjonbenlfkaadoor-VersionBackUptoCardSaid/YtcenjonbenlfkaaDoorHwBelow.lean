import Derived.Below
import Derived.Test.YtcenjonbenlfkaaDoorHwF2
set_option linter.unusedVariables false
namespace Go.Hw
open Go Go.RowKit
theorem below_step {K : GK} {h : Heap} {w w' : World} (hh : HeapRel K h w) (hb : Below w.heap.size w w') : ∃ K', Step K w K' w' ∧ HeapRel K' h w' := by
  have hold := hb.block
  have s : Step K w K w' := by
    refine ⟨hb.os, ⟨hb.tape, Nat.zero_le _⟩, hb.output, hb.size, fun _ => Nat.le_refl _, fun _ => Nat.le_refl _, fun _ _ => ⟨rfl, fun _ _ => rfl⟩, fun _ _ h => h, fun b i v hi hc => ?_, fun b n hr => ?_, fun _ _ h => h, fun b hlt _ => ⟨hold b hlt, rfl⟩⟩
    · have hlt := World.block_lt_of_cell? w _ hc
      rw [World.cell?_of_block (hold b hlt)]; exact hc
    · obtain ⟨c, e, fr, h1, h2⟩ := hr
      have hlt : b < w.heap.size := by
        rcases Nat.lt_or_ge b w.heap.size with h | h
        · exact h
        · rw [Array.getElem?_eq_none h] at h1; cases h1
      exact ⟨c, e, fr, by rw [hold b hlt]; exact h1, h2⟩
  refine ⟨K, s, ⟨fun id b hid => ?_, hh.inj, hh.wm, fun i b hi => ?_, hh.tinj, ⟨fun b hlt => hh.limb b (Nat.le_trans s.size hlt), hh.limb.t.step s⟩⟩⟩
  · obtain ⟨k1, ob, k2, k3, k4⟩ := hh.obj id b hid
    exact ⟨Nat.lt_of_lt_of_le k1 s.size, ob, k2, k3.keep s (hold b k1), k4⟩
  · obtain ⟨k1, k2, k3, c, e, fr, k4, k5, k6⟩ := hh.tok i b hi
    exact ⟨Nat.lt_of_lt_of_le k1 s.size, k2, k3, c, e, fr, by rw [hold b k1]; exact k4, k5, k6⟩
end Go.Hw

