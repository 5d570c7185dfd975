import Derived.Test.YtphdkcgchcogdaaHwSolve5
set_option linter.unusedVariables false
set_option linter.unusedSimpArgs false
namespace Go.Hw.VE
open Go Go.Proofs Go.Shelf


def rk : List UInt8 → Nat
  | [c] => c.toNat
  | _ => 0
theorem rk_facts : ∀ a ∈ Nm5, ∀ b ∈ Nm5, (cmpS a b < 0 ↔ rk a < rk b) ∧ (rk a = rk b → a = b) ∧ bytesLess a b = decide (rk a < rk b) := by decide
def Asc (l : List Pk) : Prop := l.Pairwise fun a b => rk a.Name < rk b.Name
def Uq (l : List Pk) : Prop := l.Pairwise fun a b => a.Name ≠ b.Name
def Mt (reg : List Md) (p : Pk) (m : Md) : Prop := m ∈ reg ∧ m.Name = p.Name ∧ m.Version = p.Version
def Sat (S : List Pk) (u : Us) : Prop := ∃ p ∈ S, p.Name = u.Name ∧ u.Low ≤ p.Version ∧ p.Version ≤ u.High
structure Sel (reg : List Md) (root : List Us) (S : List Pk) : Prop where
  uq : ∀ p ∈ S, ∀ q ∈ S, p.Name = q.Name → p = q
  root : ∀ u ∈ root, Sat S u
  cl : ∀ p ∈ S, ∃ m, Mt reg p m ∧ ∀ u ∈ m.Uses, Sat S u
theorem right_of {S P : List Pk} {W : List Us} (uq : ∀ p ∈ S, ∀ q ∈ S, p.Name = q.Name → p = q) (hP : ∀ p ∈ P, p ∈ S) (hW : ∀ u ∈ W, Sat S u) : rightF W P = true := by
  unfold rightF
  rw [Bool.not_eq_true', List.any_eq_false]
  intro u hu
  rw [Bool.not_eq_true, List.any_eq_false]
  intro p hp
  obtain ⟨q, hq, h1, h2, h3⟩ := hW u hu
  unfold badP
  by_cases hn : p.Name = u.Name
  · have := uq p (hP p hp) q hq (hn.trans h1.symm)
    subst this
    have a1 : ¬ p.Version < u.Low := by omega
    have a2 : ¬ u.High < p.Version := by omega
    simp [a1, a2]
  · simp [hn]
theorem vers_of {reg : List Md} {f : List Pk} {m : Md} (h : m ∈ reg) : m ∈ versF reg f m.Name :=
  (isort_perm (lt := ltM f m.Name) (named reg m.Name)).mem_iff.2 (by simp [named, h])
theorem complete {Nm : List (List UInt8)} {reg : List Md} {f : List Pk} (R : Reg Nm reg f) {root : List Us} {S : List Pk} (hS : Sel reg root S) :
    ∀ (k : Nat) (P : List Pk) (W : List Us), Bnd Nm P W → cnt Nm P < k → (∀ p ∈ P, p ∈ S) → (∀ u ∈ W, Sat S u) → runF reg f k P W ≠ none
  | 0, P, W, _, h, _, _ => by omega
  | k + 1, P, W, B, hk, hP, hW => by
    by_cases hn : nextB W P = []
    · rw [runF, if_pos hn]; simp
    · rw [runF, if_neg hn]
      obtain ⟨⟨u, hu, hun⟩, _⟩ := nextB_mem hn
      obtain ⟨p, hp, h1, h2, h3⟩ := hW u hu
      obtain ⟨m, ⟨hm, hm1, hm2⟩, hmu⟩ := hS.cl p hp
      have hname : m.Name = nextB W P := hm1.trans (h1.trans hun)
      have hv : m ∈ versF reg f (nextB W P) := hname ▸ vers_of hm
      obtain ⟨B', hc'⟩ := Bnd.step R B hn hv
      have hpe : (⟨nextB W P, m.Version⟩ : Pk) = p := by
        obtain ⟨a, b⟩ := p
        simp only at h1 hm2 hm1
        rw [← hname, hm1, hm2]
      rw [hpe] at B' hc'
      have hP' : ∀ q ∈ P ++ [p], q ∈ S := fun q hq => by
        rcases List.mem_append.1 hq with hq | hq
        · exact hP q hq
        · obtain rfl : q = p := by simpa using hq
          exact hp
      have hW' : ∀ v ∈ W ++ m.Uses, Sat S v := fun v hv => by
        rcases List.mem_append.1 hv with hv | hv
        · exact hW v hv
        · exact hmu v hv
      have ih := complete R hS k (P ++ [p]) (W ++ m.Uses) B' (by omega) hP' hW'
      intro he
      have := List.findSome?_eq_none_iff.1 he m hv
      rw [hpe, if_pos (right_of hS.uq hP' hW')] at this
      exact ih this


inductive Rch (reg : List Md) (root : List Us) : List Pk → Prop
  | nil : Rch reg root []
  | snoc {P : List Pk} {p : Pk} {u : Us} (h : Rch reg root P) (hu : u.Name = p.Name) (hs : u ∈ root ∨ ∃ q ∈ P, ∃ m, Mt reg q m ∧ u ∈ m.Uses) : Rch reg root (P ++ [p])
structure Fnd (reg : List Md) (root : List Us) (P : List Pk) (W : List Us) : Prop where
  rt : ∀ u ∈ root, u ∈ W
  right : rightF W P = true
  uq : Uq P
  at_ : ∀ p ∈ P, ∃ m, Mt reg p m ∧ ∀ u ∈ m.Uses, u ∈ W
  src : ∀ u ∈ W, u ∈ root ∨ ∃ q ∈ P, ∃ m, Mt reg q m ∧ u ∈ m.Uses
  rch : Rch reg root P
theorem hasN_iff {P : List Pk} {n : List UInt8} : hasN P n = true ↔ ∃ p ∈ P, p.Name = n := by
  unfold hasN
  rw [List.any_eq_true]
  simp
theorem Fnd.step {reg : List Md} {root : List Us} {P : List Pk} {W : List Us} (F : Fnd reg root P W) (hn : nextB W P ≠ []) {m : Md} (hm : m ∈ reg) (hmn : m.Name = nextB W P) (hr : rightF (W ++ m.Uses) (P ++ [⟨nextB W P, m.Version⟩]) = true) :
    Fnd reg root (P ++ [⟨nextB W P, m.Version⟩]) (W ++ m.Uses) := by
  obtain ⟨⟨u, hu, hun⟩, hP⟩ := nextB_mem hn
  refine ⟨fun v hv => by simp [F.rt v hv], hr, List.pairwise_append.2 ⟨F.uq, List.pairwise_singleton _ _, fun a ha b hb => ?_⟩, fun p hp => ?_, fun v hv => ?_, F.rch.snoc hun (F.src u hu)⟩
  · obtain rfl : b = (⟨nextB W P, m.Version⟩ : Pk) := by simpa using hb
    intro he
    have : hasN P (nextB W P) = true := hasN_iff.2 ⟨a, ha, he⟩
    rw [hP] at this; cases this
  · rcases List.mem_append.1 hp with hp | hp
    · obtain ⟨m', h1, h2⟩ := F.at_ p hp
      exact ⟨m', h1, fun v hv => by simp [h2 v hv]⟩
    · obtain rfl : p = (⟨nextB W P, m.Version⟩ : Pk) := by simpa using hp
      exact ⟨m, ⟨hm, hmn, rfl⟩, fun v hv => by simp [hv]⟩
  · rcases List.mem_append.1 hv with hv | hv
    · rcases F.src v hv with h | ⟨q, hq, m', h1, h2⟩
      · exact .inl h
      · exact .inr ⟨q, by simp [hq], m', h1, h2⟩
    · exact .inr ⟨⟨nextB W P, m.Version⟩, by simp, m, ⟨hm, hmn, rfl⟩, hv⟩
theorem uq_eq {P : List Pk} (h : Uq P) : ∀ p ∈ P, ∀ q ∈ P, p.Name = q.Name → p = q := by
  intro p hp q hq he
  obtain ⟨i, hi⟩ := mem_get hp
  obtain ⟨j, hj⟩ := mem_get hq
  obtain ⟨h1, rfl⟩ := List.getElem?_eq_some_iff.1 hi
  obtain ⟨h2, rfl⟩ := List.getElem?_eq_some_iff.1 hj
  rcases Nat.lt_trichotomy i j with hlt | rfl | hlt
  · exact absurd he (List.pairwise_iff_getElem.1 h i j h1 h2 hlt)
  · rfl
  · exact absurd he.symm (List.pairwise_iff_getElem.1 h j i h2 h1 hlt)
end Go.Hw.VE

