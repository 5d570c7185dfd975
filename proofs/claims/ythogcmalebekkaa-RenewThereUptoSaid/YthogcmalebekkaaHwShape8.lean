import Derived.Test.YthogcmalebekkaaHwShape7
set_option linter.unusedVariables false
set_option linter.unusedSimpArgs false
namespace Go.Hw.VR
open Go Go.Proofs

def subT (t a : Ty) : Option Ty :=
  if a.Kind = 5 then t.Args[0]? else match a.Args[0]? with
    | some x => if x.Kind = 5 then some ⟨a.Kind, a.Name, t.Args⟩ else some a
    | none => some a
def numAt (l : List Int) (deep : Int) : Int := if deep < l.length then (l[deep.toNat]?).getD 0 else 0
def Fit (k : Int) (z : Bool) (τ : CT) (nm : List UInt8) (ar : List Ty) (ps : List CT) : Prop :=
  partsOf k z τ nm = some ps ∧ ar.map (subT τ.ty) = ps.map (fun σ => some σ.ty) ∧ ∀ σ ∈ ps, Low σ
theorem fit_D {k : Int} (hk : k = 1 ∨ k = 2) (z : Bool) : ∀ m ∈ (dataD k).Makes, ∃ ps, Fit k z .D m.Name m.Args ps := by
  intro m hm
  simp [dataD] at hm
  rcases hm with rfl | rfl | rfl
  · exact ⟨[.D], rfl, rfl, by simp; exact .D⟩
  · rcases hk with rfl | rfl
    · exact ⟨[.int], rfl, rfl, by simp; exact .int⟩
    · exact ⟨[.bool], rfl, rfl, by simp; exact .bool⟩
  · exact ⟨[], rfl, rfl, by simp⟩
theorem fit_L0 (k : Int) (z : Bool) (t : CT) : ∃ ps, Fit k z (.L t) [78] (if z then [tD] else []) ps ∧ ∀ σ ∈ ps, σ = .D := by
  cases z
  · exact ⟨[], ⟨rfl, rfl, by simp⟩, by simp⟩
  · exact ⟨[.D], ⟨rfl, rfl, by simp; exact .D⟩, by simp⟩
theorem fit_L {k : Int} (z : Bool) {t : CT} (ht : Low t) : ∀ m ∈ (dataL z).Makes, ∃ ps, Fit k z (.L t) m.Name m.Args ps := by
  intro m hm
  simp [dataL] at hm
  rcases hm with rfl | rfl
  · obtain ⟨ps, h, _⟩ := fit_L0 k z t; exact ⟨ps, h⟩
  · exact ⟨[t, .L t], rfl, rfl, by simp; exact ⟨ht, .L _ ht⟩⟩
theorem fit_E (k : Int) (z : Bool) : ∀ m ∈ dataE.Makes, Fit k z .E m.Name m.Args [.L .D, .text] := by
  intro m hm
  simp [dataE] at hm
  subst hm
  exact ⟨rfl, rfl, by simp; exact ⟨.L _ .D, .text⟩⟩

def Good (k : Int) (z : Bool) (deep : Int) (τ : CT) (nm : List UInt8) (ar : List Ty) : Prop :=
  ∃ ps, Fit k z τ nm ar ps ∧ ps.length ≤ 2 ∧ ∀ σ ∈ ps, far (deep + 1) σ < far deep τ ∧ deep + 1 + rank σ ≤ 9
theorem rank_le {τ : CT} : rank τ ≤ 3 := by cases τ <;> simp [rank]
theorem far_le {deep : Int} (h : deep ≤ 5) (σ τ : CT) : far (deep + 1) σ < far deep τ := by
  have h1 := @rank_le σ
  have e : far deep τ = (6 - deep).toNat + 10 := by unfold far; rw [if_neg (by omega)]
  rw [e]
  unfold far
  split <;> omega
theorem fit_len {k : Int} {z : Bool} {τ : CT} {nm : List UInt8} {ar : List Ty} {ps : List CT} (h : Fit k z τ nm ar ps) : ps.length ≤ 2 := by
  have h1 := h.1
  unfold partsOf at h1
  split at h1
  all_goals
    repeat' split at h1
    all_goals first
      | (injection h1 with h1; subst h1; simp; done)
      | (injection h1 with h1; subst h1; split <;> simp; done)
      | exact absurd h1 (by simp)
theorem good_any {k : Int} {z : Bool} {deep : Int} {τ : CT} {nm : List UInt8} {ar : List Ty} {ps : List CT} (h : Fit k z τ nm ar ps) (hd : deep ≤ 5) : Good k z deep τ nm ar := by
  refine ⟨ps, h, fit_len h, fun σ hσ => ⟨far_le hd σ τ, ?_⟩⟩
  have := @rank_le σ
  omega
end Go.Hw.VR

