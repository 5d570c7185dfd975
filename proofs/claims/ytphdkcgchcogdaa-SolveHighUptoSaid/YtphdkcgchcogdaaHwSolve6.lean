import Derived.Test.YtphdkcgchcogdaaHwSolve5
set_option linter.unusedVariables false
set_option linter.unusedSimpArgs false
namespace Go.Hw.VE
open Go Go.Proofs Go.Shelf


theorem isort_part {α : Type} (q : α → Bool) (l : List α) : isort (fun a b => q a && !q b) l = l.filter q ++ l.filter fun a => !q a := by
  have key : ∀ (l : List α) (S : List α) (l0 : List α), S = l0.filter q ++ (l0.filter fun a => !q a) → l.foldl (fun S x => insB (fun a b => q a && !q b) x S) S = (l0 ++ l).filter q ++ (l0 ++ l).filter fun a => !q a := by
    intro l
    induction l with
    | nil => intro S l0 h; simpa using h
    | cons x l ih =>
      intro S l0 h
      simp only [List.foldl_cons]
      rw [ih _ (l0 ++ [x])]
      · simp
      · subst h
        cases hq : q x with
        | true =>
          rw [insB_eq (fun b hb => by simp only [List.mem_filter] at hb; simp [hq, hb.2])]
          · simp [hq]
          · by_cases hF : l0.filter q = []
            · exact .inl hF
            · obtain ⟨A', a, hA⟩ := split_last _ hF
              refine .inr ⟨A', a, hA, ?_⟩
              have : a ∈ l0.filter q := by rw [hA]; simp
              simp only [List.mem_filter] at this
              simp [this.2]
        | false =>
          have h0 : insB (fun a b => q a && !q b) x ((l0.filter q ++ l0.filter fun a => !q a) ++ []) = (l0.filter q ++ l0.filter fun a => !q a) ++ [x] := by
            refine insB_eq nofun ?_
            by_cases hF : (l0.filter q ++ l0.filter fun a => !q a) = []
            · exact .inl hF
            · obtain ⟨A', a, hA⟩ := split_last _ hF
              exact .inr ⟨A', a, hA, by simp [hq]⟩
          rw [List.append_nil] at h0
          rw [h0]
          simp [hq]
  have h := key l [] [] rfl
  rw [List.nil_append] at h
  exact h
def Uq (l : List Pk) : Prop := l.Pairwise fun a b => a.Name ≠ b.Name
def Mt (reg : List Md) (p : Pk) (m : Md) : Prop := m ∈ reg ∧ m.Name = p.Name ∧ m.Version = p.Version
def Sat (S : List Pk) (u : Us) : Prop := ∃ p ∈ S, p.Name = u.Name ∧ u.Low ≤ p.Version ∧ p.Version ≤ u.High
structure Sel (reg : List Md) (root : List Us) (S : List Pk) : Prop where
  uq : ∀ p ∈ S, ∀ q ∈ S, p.Name = q.Name → p = q
  root : ∀ u ∈ root, Sat S u
  cl : ∀ p ∈ S, ∃ m, Mt reg p m ∧ ∀ u ∈ m.Uses, Sat S u
inductive Rch (reg : List Md) (root : List Us) : List Pk → Prop
  | nil : Rch reg root []
  | snoc {P : List Pk} {p : Pk} {u : Us} (h : Rch reg root P) (hu : u.Name = p.Name) (hs : u ∈ root ∨ ∃ q ∈ P, ∃ m, Mt reg q m ∧ u ∈ m.Uses) : Rch reg root (P ++ [p])
structure Fnd (reg : List Md) (root : List Us) (P : List Pk) (W : List Us) : Prop where
  rt : ∀ u ∈ root, u ∈ W
  right : rightF W P = true
  uq : Uq P
  at_ : ∀ p ∈ P, ∃ m, Mt reg p m ∧ ∀ u ∈ m.Uses, u ∈ W
  src : ∀ u ∈ W, u ∈ root ∨ ∃ q ∈ P, ∃ m, Mt reg q m ∧ u ∈ m.Uses
  rch : Rch reg root P
theorem hasN_iff {P : List Pk} {n : List UInt8} : hasN P n = true ↔ ∃ p ∈ P, p.Name = n := by
  unfold hasN
  rw [List.any_eq_true]
  simp
theorem Fnd.step {reg : List Md} {root : List Us} {P : List Pk} {W : List Us} (F : Fnd reg root P W) (hn : nextB W P ≠ []) {m : Md} (hm : m ∈ reg) (hmn : m.Name = nextB W P) (hr : rightF (W ++ m.Uses) (P ++ [⟨nextB W P, m.Version⟩]) = true) :
    Fnd reg root (P ++ [⟨nextB W P, m.Version⟩]) (W ++ m.Uses) := by
  obtain ⟨⟨u, hu, hun⟩, hP⟩ := nextB_mem hn
  refine ⟨fun v hv => by simp [F.rt v hv], hr, List.pairwise_append.2 ⟨F.uq, List.pairwise_singleton _ _, fun a ha b hb => ?_⟩, fun p hp => ?_, fun v hv => ?_, F.rch.snoc hun (F.src u hu)⟩
  · obtain rfl : b = (⟨nextB W P, m.Version⟩ : Pk) := by simpa using hb
    intro he
    have : hasN P (nextB W P) = true := hasN_iff.2 ⟨a, ha, he⟩
    rw [hP] at this; cases this
  · rcases List.mem_append.1 hp with hp | hp
    · obtain ⟨m', h1, h2⟩ := F.at_ p hp
      exact ⟨m', h1, fun v hv => by simp [h2 v hv]⟩
    · obtain rfl : p = (⟨nextB W P, m.Version⟩ : Pk) := by simpa using hp
      exact ⟨m, ⟨hm, hmn, rfl⟩, fun v hv => by simp [hv]⟩
  · rcases List.mem_append.1 hv with hv | hv
    · rcases F.src v hv with h | ⟨q, hq, m', h1, h2⟩
      · exact .inl h
      · exact .inr ⟨q, by simp [hq], m', h1, h2⟩
    · exact .inr ⟨⟨nextB W P, m.Version⟩, by simp, m, ⟨hm, hmn, rfl⟩, hv⟩
end Go.Hw.VE

