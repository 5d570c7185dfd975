import Derived.Test.YthogcmalebekkaaHwShape1
set_option linter.unusedVariables false
set_option linter.unusedSimpArgs false
namespace Go.Hw.VR
open Go Go.Proofs

theorem sel_ne : ∀ b : _root_.Fin 511, (sel ((b.val : Int) + 1)).2.length ≠ 0 := by decide +kernel
theorem sel_mem (bits : Int) : (∀ t ∈ (sel bits).2, t ∈ t9) ∧ (sel bits).1.length = (sel bits).2.length ∧ (sel bits).1.length ≤ 6 := by
  have key : ∀ (l : List (Ty × Nat)) (acc : List (List UInt8) × List Ty), (∀ x ∈ l, x.1 ∈ t9) → (∀ t ∈ acc.2, t ∈ t9) → acc.1.length = acc.2.length → acc.1.length ≤ 6 →
      (∀ t ∈ (l.foldl (selStep bits) acc).2, t ∈ t9) ∧ (l.foldl (selStep bits) acc).1.length = (l.foldl (selStep bits) acc).2.length ∧ (l.foldl (selStep bits) acc).1.length ≤ 6 := by
    intro l
    induction l with
    | nil => intro acc _ h1 h2 h3; exact ⟨h1, h2, h3⟩
    | cons x l ih =>
      intro acc hl h1 h2 h3
      refine ih _ (fun y hy => hl y (by simp [hy])) ?_ ?_ ?_
      · intro t ht
        unfold selStep at ht
        split at ht
        · rcases List.mem_append.1 ht with h | h
          · exact h1 t h
          · rw [List.mem_singleton.1 h]; exact hl x (by simp)
        · exact h1 t ht
      · unfold selStep; split <;> simp [h2]
      · unfold selStep; split
        · rename_i h; simp; omega
        · exact h3
  exact key _ _ (fun x hx => (List.mem_zipIdx hx).2.2 ▸ List.getElem_mem _) (by simp) rfl (by simp)

inductive CT where
  | int | bool | text | unit | D | L (t : CT) | E | cell (t : CT)
def CT.ty : CT → Ty
  | .int => tOne 1 | .bool => tOne 2 | .text => tOne 3 | .unit => tOne 4
  | .D => tD | .L t => tL t.ty | .E => tE | .cell t => tC t.ty
def c9 : List CT := [.int, .bool, .text, .unit, .D, .L .int, .L (.L .D), .E, .cell .D]
theorem t9_c9 : t9 = c9.map CT.ty := rfl
def ctOf (k : Int) : CT := if k = 1 then .int else .bool
end Go.Hw.VR

