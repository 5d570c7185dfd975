import Derived.Test.YtcenjonbenlfkaaHwLayD
import Derived.Test.YtcenjonbenlfkaaHwGrow2
set_option linter.unusedVariables false
set_option linter.unusedSimpArgs false
namespace Go.Hw.VD
open Go Go.Proofs Go.Sort
abbrev R := GVersion_Range
instance : Inhabited R := ⟨⟨0, 0⟩⟩
def encR (a : R) : List Value := [.int .i64 a.Low, .int .i64 a.High]
theorem flatR : FlatE eGVersion_Range encR 2 where
  len _ := rfl
  one x v hv := by simp [encR] at hv; rcases hv with rfl | rfl <;> rfl
  agg K w x := by
    refine .agg [.int .i64 x.Low, .int .i64 x.High] [.int .i64 x.Low, .int .i64 x.High] rfl (by simp [HV.leaf]) ?_
    intro j h v h1 h2
    match j with
    | 0 => simp at h1 h2; subst h1; subst h2; exact .int _ _
    | 1 => simp at h1 h2; subst h1; subst h2; exact .int _ _
    | j + 2 => simp at h1
  cell K w x j c hc := by
    have hi : ∀ (n : Int) (v : Value), V K w (.int .i64 n) v ↔ v = .int .i64 n := fun n v => ⟨fun h => by cases h; rfl, fun h => by subst h; exact .int _ _⟩
    match j with
    | 0 =>
      have : c = .int .i64 x.Low := by simp [eGVersion_Range, HV.cells, ii] at hc; exact hc.symm
      subst this
      exact ⟨rfl, fun v => by rw [hi]; simp [encR, eq_comm]⟩
    | 1 =>
      have : c = .int .i64 x.High := by simp [eGVersion_Range, HV.cells, ii] at hc; exact hc.symm
      subst this
      exact ⟨rfl, fun v => by rw [hi]; simp [encR, eq_comm]⟩
    | j + 2 => simp [eGVersion_Range, HV.cells] at hc
  clen _ := rfl

def cmpI (a b : Int) : Int := if a < b then -1 else if b < a then 1 else 0
def cmpR (a b : R) : Int := if cmpI a.Low b.Low ≠ 0 then cmpI a.Low b.Low else cmpI a.High b.High
theorem ltR (a b : R) : ltOf cmpR a b = decide (a.Low < b.Low ∨ (a.Low = b.Low ∧ a.High < b.High)) := by
  unfold ltOf cmpR cmpI
  rw [decide_eq_decide]
  split <;> rename_i h <;> (repeat' split at h) <;> (repeat' split) <;> omega
theorem swoR : SWO (ltOf cmpR) where
  irrefl x := by rw [ltR]; simp
  trans x y z h1 h2 := by rw [ltR] at *; simp at *; omega
  ntrans x y z h1 h2 := by rw [ltR] at *; simp at *; omega
theorem totR (x y : R) (h1 : ltOf cmpR x y = false) (h2 : ltOf cmpR y x = false) : x = y := by
  rw [ltR] at *
  simp at h1 h2
  obtain ⟨a, b⟩ := x
  obtain ⟨c, d⟩ := y
  simp at *
  omega

theorem s45 (a : Int) : sp45 a false := ok45 a _ (by intro v hv; subst hv; simp)
theorem s29 (a b : Int) : sp29 a b (cmpI a b) := by
  refine ok29 a b _ ⟨false, s45 a, false, s45 b, by simp, ?_⟩
  intro _
  refine ⟨by simp, fun _ => ⟨fun h => ?_, fun h => ⟨fun h2 => ?_, fun h2 => ?_⟩⟩⟩
  · simp [cmpI, h]
  · have : ¬ a < b := by omega
    simp [cmpI, this, h2]
  · have h3 : ¬ a < b := by omega
    have h4 : ¬ b < a := by omega
    simp [cmpI, h3, h4]
theorem s28 (a b : Int) : sp28 [a, b] (if a ≠ 0 then a else b) := by
  refine ok28 [a, b] _ ⟨fun i => 0 ≤ i ∧ i ≤ 2 ∧ (0 < i → a = 0) ∧ (1 < i → b = 0), fun i => (2 - i).toNat, ⟨by omega, by omega, by omega, by omega⟩, ?_⟩
  rintro i ⟨h0, h2, h3, h4⟩ v hv
  subst hv
  refine ⟨fun hi => ?_, fun hi => ?_⟩
  · simp at hi
    refine ⟨⟨h0, by simpa using hi⟩, fun x hx => ?_⟩
    have : i = 0 ∨ i = 1 := by omega
    rcases this with rfl | rfl
    · simp at hx; subst hx
      exact ⟨fun h => by simp [h], fun h => ⟨by unfold R64; omega, fun v hv => by subst hv; exact ⟨⟨by omega, by omega, fun _ => h, by omega⟩, by simp⟩⟩⟩
    · simp at hx; subst hx
      have ha := h3 (by omega)
      exact ⟨fun h => by simp [ha], fun h => ⟨by unfold R64; omega, fun v hv => by subst hv; exact ⟨⟨by omega, by omega, fun _ => ha, fun _ => h⟩, by simp⟩⟩⟩
  · simp at hi
    have ha := h3 (by omega)
    have hb := h4 (by omega)
    simp [ha, hb]
theorem s27 (a b : R) : sp27 a b (cmpR a b) := by
  refine ok27 a b _ ⟨_, s29 _ _, _, s29 _ _, _, s28 _ _, ?_⟩
  simp [cmpR]

def sortR (l : List R) : List R := l.mergeSort fun x y => !(ltOf cmpR) y x
theorem s26 (l : List R) (hl : l.length ≤ 1000000) : sp26_27 l (sortR l) :=
  sort_call sL flatR (fun w => by kernel_rfl) (fun w => by kernel_rfl) ⟨Try.f26, Try.func26, rfl, by decide⟩ cmpR swoR totR 27 (fun x y => s27 x y) l (by omega) (by omega)
theorem s42 (n : Nat) (hn : n ≤ 1000000) : sp42_s (n : Int) [] := by
  obtain ⟨i0, h1, h2, h3, h4⟩ := info_of (P := Try.prog) (t := 31) (z := .agg #[.int .i64 0, .int .i64 0]) (sz := 2) (by_ := 16) (by kernel_rfl) (by kernel_rfl) (by kernel_rfl) (by kernel_rfl)
  exact grow_nil gL ⟨Try.f42, Try.func42, rfl, by decide⟩ i0 _ h1 h2 2 h3 (by omega) rfl n (by rw [h4]; omega) (by omega) eGVersion_Range
end Go.Hw.VD

