import Derived.Test.YtphdkcgchcogdaaHwSolve6
import Derived.Test.YtphdkcgchcogdaaHwS2
set_option linter.unusedVariables false
set_option linter.unusedSimpArgs false
namespace Go.Hw.VE
open Go Go.Proofs Go.Shelf

theorem RegAt.uqR {reg : List Md} (h : RegAt 20 reg) : UqR reg := by
  have key : ∀ (i j : Nat) (m m' : Md), reg[i]? = some m → reg[j]? = some m' → i < j → m.Name = m'.Name → m.Version = m'.Version → False := by
    intro i j m m' hi hj hlt hn hv
    obtain ⟨h1, rfl⟩ := List.getElem?_eq_some_iff.1 hi
    obtain ⟨h2, rfl⟩ := List.getElem?_eq_some_iff.1 hj
    have ho := List.pairwise_iff_getElem.1 h.ord i j h1 h2 hlt
    obtain ⟨k, hk, ha⟩ := h.at_ _ (List.getElem_mem h1)
    unfold ordM at ho
    rw [← hn, ha.nm, cmp_nm _ (by omega) _ (by omega), ← hv] at ho
    simp [cmpI] at ho
  intro m hm m' hm' hn hv
  obtain ⟨i, hi⟩ := mem_get hm
  obtain ⟨j, hj⟩ := mem_get hm'
  rcases Nat.lt_trichotomy i j with hlt | rfl | hlt
  · exact (key i j m m' hi hj hlt hn hv).elim
  · rw [hi] at hj; injection hj
  · exact (key j i m' m hj hi hlt hn.symm hv.symm).elim
theorem ne_nil {n : List UInt8} (h : n ∈ Nm5) : n ≠ [] := by
  intro e
  subst e
  revert h
  decide
structure First (reg : List Md) (root : List Us) (P : List Pk) (W : List Us) : Prop where
  F : Fnd reg root P W
  B : Bnd Nm5 P W
  N : ∀ p ∈ P, p.Name ∈ Nm5
theorem First.step {reg : List Md} {root : List Us} {P : List Pk} {W : List Us} {f : List Pk} (R : Reg Nm5 reg f) (h : First reg root P W) (hn : nextB W P ≠ []) {m : Md} (hm : m ∈ reg) (hmn : m.Name = nextB W P) (hr : rightF (W ++ m.Uses) (P ++ [⟨nextB W P, m.Version⟩]) = true) :
    First reg root (P ++ [⟨nextB W P, m.Version⟩]) (W ++ m.Uses) := by
  obtain ⟨⟨u, hu, hun⟩, hP⟩ := nextB_mem hn
  refine ⟨h.F.step hn hm hmn hr, (Bnd.step R h.B hn (hmn ▸ vers_of hm)).1, fun p hp => ?_⟩
  rcases List.mem_append.1 hp with hp | hp
  · exact h.N p hp
  · obtain rfl : p = (⟨nextB W P, m.Version⟩ : Pk) := by simpa using hp
    exact hun ▸ h.B.nm u hu
theorem run_first {reg : List Md} {root : List Us} {f : List Pk} (R : Reg Nm5 reg f) (hB : Bnd Nm5 [] root) {P : List Pk} {W : List Us} (h : runF reg f 14 [] root = some (P, W)) : First reg root P W ∧ nextB W P = [] :=
  runF_ind (First reg root) (fun P W m hF hn hm hr => hF.step R hn (vers_mem hm).1 (vers_mem hm).2 hr) 14 [] root P W ⟨.start, hB, nofun⟩ h
theorem First.sel {reg : List Md} {root : List Us} {P : List Pk} {W : List Us} (h : First reg root P W) (h0 : nextB W P = []) : Sel reg root P := h.F.sel (fun u hu => ne_nil (h.B.nm u hu)) h0
theorem cnt5 (P : List Pk) : cnt Nm5 P ≤ 5 := by
  unfold cnt
  exact List.length_filter_le _ _
theorem best_cases (reg : List Md) (f : List Pk) (root : List Us) : (∃ P W, runF reg f 14 [] root = some (P, W) ∧ bestF reg f root = (isort ltP P, 0)) ∨ (runF reg f 14 [] root = none ∧ bestF reg f root = ([], 22)) := by
  cases h : runF reg f 14 [] root with
  | none => exact .inr ⟨rfl, by simp only [bestF, h]⟩
  | some q =>
    obtain ⟨P, W⟩ := q
    exact .inl ⟨P, W, rfl, by simp only [bestF, h]⟩
theorem best_some {reg : List Md} {f : List Pk} {root : List Us} (R : Reg Nm5 reg f) (hB : Bnd Nm5 [] root) {S : List Pk} (hS : Sel reg root S) : ∃ P W, runF reg f 14 [] root = some (P, W) ∧ bestF reg f root = (isort ltP P, 0) := by
  rcases best_cases reg f root with h | ⟨h, _⟩
  · exact h
  · have := cnt5 []
    exact absurd h (complete R hS 14 [] root hB (by omega) nofun hS.root)
theorem best_again {reg : List Md} {root : List Us} {P : List Pk} {W : List Us} (hr : UqR reg) (R : Reg Nm5 reg (isort ltP P)) (hB : Bnd Nm5 [] root) (h : First reg root P W) (h0 : nextB W P = []) : bestF reg (isort ltP P) root = (isort ltP P, 0) := by
  have hS := h.sel h0
  obtain ⟨P2, W2, h1, h2⟩ := best_some R hB hS
  rw [h2]
  have hx : ∀ p, p ∈ isort ltP P ↔ p ∈ P := fun p => (isort_perm P).mem_iff
  have := cnt5 []
  obtain ⟨⟨hF2, hPS, _⟩, hn2⟩ := follow R hr hS hx (fun P' W' => First reg root P' W' ∧ (∀ p ∈ P', p ∈ P) ∧ ∀ u ∈ W', Sat P u) (fun P' W' m hT hn hm hmn hp => by
    obtain ⟨hF, hPS, hWS⟩ := hT
    have hP' : ∀ p ∈ P' ++ [(⟨nextB W' P', m.Version⟩ : Pk)], p ∈ P := fun p hpm => by
      rcases List.mem_append.1 hpm with hpm | hpm
      · exact hPS p hpm
      · obtain rfl : p = (⟨nextB W' P', m.Version⟩ : Pk) := by simpa using hpm
        exact hp
    have hW' : ∀ u ∈ W' ++ m.Uses, Sat P u := fun u hu => by
      rcases List.mem_append.1 hu with hu | hu
      · exact hWS u hu
      · obtain ⟨m', hm', hall⟩ := hS.cl _ hp
        have : m' = m := hr m' hm'.1 m hm (hm'.2.1.trans hmn.symm) hm'.2.2
        subst this
        exact hall u hu
    exact ⟨hF.step R hn hm hmn (right_of hS.uq hP' hW'), hP', hW'⟩) 14 [] root P2 W2 hB (by omega) nofun hS.root ⟨⟨.start, hB, nofun⟩, nofun, hS.root⟩ h1
  have hset := same_set hr hS h.F.rch hF2.F (fun u hu => ne_nil (hF2.B.nm u hu)) hn2 hPS
  have : isort ltP P2 = isort ltP P := by
    refine asc_unique (asc_sort hF2.N hF2.F.uq) (asc_sort h.N h.F.uq) fun p => ?_
    rw [(isort_perm P2).mem_iff, (isort_perm P).mem_iff]
    exact (hset p).symm
  rw [this]


end Go.Hw.VE

