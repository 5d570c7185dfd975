import Derived.Test.YtphdkcgchcogdaaHwS1
import Derived.Lib.Bytealg
set_option linter.unusedVariables false
set_option linter.unusedSimpArgs false
namespace Go.Hw.VE
open Go Go.Proofs Go.Shelf


section
variable {α : Type} (lt : α → α → Bool)
def insB (x : α) (S : List α) : List α := (S.reverse.dropWhile (lt x)).reverse ++ x :: (S.reverse.takeWhile (lt x)).reverse
def isort (l : List α) : List α := l.foldl (fun S x => insB lt x S) []
variable {lt}
theorem insB_eq {x : α} {A B : List α} (hB : ∀ b ∈ B, lt x b = true) (hA : A = [] ∨ ∃ A' a, A = A' ++ [a] ∧ lt x a = false) : insB lt x (A ++ B) = A ++ x :: B := by
  have hB' : ∀ b ∈ B.reverse, lt x b = true := fun b hb => hB b (by simpa using hb)
  unfold insB
  rw [List.reverse_append, List.dropWhile_append_of_pos hB', List.takeWhile_append_of_pos hB']
  rcases hA with rfl | ⟨A', a, rfl, ha⟩
  · simp
  · rw [List.reverse_append]
    simp [List.dropWhile_cons, List.takeWhile_cons, ha]
theorem isort_snoc (l : List α) (x : α) : isort lt (l ++ [x]) = insB lt x (isort lt l) := by simp [isort]
theorem insB_perm (x : α) (S : List α) : (insB lt x S).Perm (x :: S) := by
  have h : S.Perm ((S.reverse.dropWhile (lt x)).reverse ++ (S.reverse.takeWhile (lt x)).reverse) := by
    have h1 : S.reverse = S.reverse.takeWhile (lt x) ++ S.reverse.dropWhile (lt x) := (List.takeWhile_append_dropWhile).symm
    have h2 : S = (S.reverse.dropWhile (lt x)).reverse ++ (S.reverse.takeWhile (lt x)).reverse := by
      rw [← List.reverse_append, ← h1, List.reverse_reverse]
    exact h2 ▸ List.Perm.refl _
  unfold insB
  exact List.perm_middle.trans (List.Perm.cons x h.symm)
theorem fold_perm : ∀ (l S : List α), (l.foldl (fun S x => insB lt x S) S).Perm (S ++ l)
  | [], S => by simp
  | x :: l, S => by
    simp only [List.foldl_cons]
    refine (fold_perm l (insB lt x S)).trans ?_
    exact (List.Perm.append_right l (insB_perm x S)).trans (List.perm_middle (l₁ := S)).symm
theorem isort_perm (l : List α) : (isort lt l).Perm l := by
  have := fold_perm (lt := lt) l []
  rw [List.nil_append] at this
  exact this
theorem isort_len (l : List α) : (isort lt l).length = l.length := (isort_perm l).length_eq
theorem swp (A : List α) (a x : α) (Y : List α) : ((A ++ a :: x :: Y).set (A.length + 1) a).set A.length x = A ++ x :: a :: Y := by
  simp [List.set_append]
end


abbrev cmpS := Lib.compareBytes
def cmpI (a b : Int) : Int := if a < b then -1 else if b < a then 1 else 0
theorem s77 (x : Int) : sp77 x false := by
  refine ok77 _ _ ?_
  unfold w77
  rintro _ rfl
  simp
theorem s44 (a b : Int) : sp44 a b (cmpI a b) := by
  refine ok44 _ _ _ ?_
  unfold w44
  refine ⟨false, s77 a, false, s77 b, ⟨fun h => (by cases h), fun _ => ⟨fun h => (by cases h), fun _ => ⟨fun h => ?_, fun h => ⟨fun h2 => ?_, fun h2 => ?_⟩⟩⟩⟩⟩
  · simp [cmpI, h]
  · simp [cmpI, h2]; omega
  · have : a = b := by omega
    subst this; simp [cmpI]
theorem s43 (a b : Int) : sp43 [a, b] (if a ≠ 0 then a else b) := by
  refine ok43 _ _ ?_
  unfold w43
  refine ⟨fun v => v = 0 ∨ (v = 1 ∧ a = 0) ∨ (v = 2 ∧ a = 0 ∧ b = 0), fun v => (2 - v).toNat, .inl rfl, ?_⟩
  intro v hv t ht
  refine ⟨fun h => ?_, fun h => ?_⟩
  · have hlt : v < 2 := by rw [h] at ht; simpa using of_decide_eq_true ht.symm
    rcases hv with rfl | ⟨rfl, h0⟩ | ⟨rfl, _⟩
    · refine ⟨by simp, fun q hq => ?_⟩
      obtain rfl : a = q := by simpa using hq
      refine ⟨fun h1 => by rw [if_pos h1], fun h1 => ⟨by decide, ?_⟩⟩
      rintro _ rfl
      exact ⟨.inr (.inl ⟨rfl, h1⟩), by decide⟩
    · refine ⟨by simp, fun q hq => ?_⟩
      obtain rfl : b = q := by simpa using hq
      refine ⟨fun h1 => by simp [h0], fun h1 => ⟨by decide, ?_⟩⟩
      rintro _ rfl
      exact ⟨.inr (.inr ⟨rfl, h0, h1⟩), by decide⟩
    · omega
  · have hge : ¬ v < 2 := by rw [h] at ht; simpa using of_decide_eq_false ht.symm
    rcases hv with rfl | ⟨rfl, _⟩ | ⟨rfl, h0, h1⟩
    · omega
    · omega
    · simp [h0, h1]


set_option maxRecDepth 100000 in
theorem s57 (n : Nat) (hn : n ≤ 12) : ∃ r, sp57 n r := by
  have key : ∀ (k : Nat) (r : Nat), k ≤ 12 → r ≤ 8 → (∀ c : UInt8, ([0, 1, 2, 2, 3, 3, 3, 3, 4, 4, 4, 4, 4] : List UInt8)[k]? = some c → c.toNat = r) → sp57 k r := by
    intro k r hk hr8 hr
    refine ok57 _ _ ?_
    unfold w57
    refine ⟨fun a b => a = k ∧ b = 0, ⟨fun h => by omega, fun _ => ⟨rfl, rfl⟩⟩, ?_⟩
    rintro _ _ ⟨rfl, rfl⟩
    refine ⟨fun a b => a = k ∧ b = 0, ⟨fun h => by omega, fun _ => ⟨rfl, rfl⟩⟩, ?_⟩
    rintro _ _ ⟨rfl, rfl⟩
    refine ⟨fun a b => a = k ∧ b = 0, ⟨fun h => by omega, fun _ => ⟨rfl, rfl⟩⟩, ?_⟩
    rintro _ _ ⟨rfl, rfl⟩
    rintro _ rfl
    have hw : IntKind.wrap .u8 (k : Int) = k := by
      have : k < 256 := by omega
      simp only [IntKind.wrap, IntKind.signed, IntKind.bits]
      simp
      omega
    rw [hw]
    refine ⟨⟨by omega, Int.lt_of_lt_of_le (b := 256) (by omega) (Int.le_of_eq rfl)⟩, fun c hc => ?_⟩
    have h1 : c.toNat = r := hr c (by
      have : ((k : Int)).toNat = k := by omega
      rw [this] at hc
      match k, hk with
      | 0, _ | 1, _ | 2, _ | 3, _ | 4, _ | 5, _ | 6, _ | 7, _ | 8, _ | 9, _ | 10, _ | 11, _ | 12, _ => exact hc)
    refine ⟨?_, ?_⟩
    · rw [h1]; simp only [R64]; omega
    · rintro _ rfl
      rw [h1]; simp
  rcases (by omega : n = 0 ∨ n = 1 ∨ n = 2 ∨ n = 3 ∨ n = 4 ∨ n = 5 ∨ n = 6 ∨ n = 7 ∨ n = 8 ∨ n = 9 ∨ n = 10 ∨ n = 11 ∨ n = 12) with rfl | rfl | rfl | rfl | rfl | rfl | rfl | rfl | rfl | rfl | rfl | rfl | rfl
  · exact ⟨_, key 0 0 (by decide) (by decide) (by intro c hc; simp at hc; subst hc; rfl)⟩
  · exact ⟨_, key 1 1 (by decide) (by decide) (by intro c hc; simp at hc; subst hc; rfl)⟩
  · exact ⟨_, key 2 2 (by decide) (by decide) (by intro c hc; simp at hc; subst hc; rfl)⟩
  · exact ⟨_, key 3 2 (by decide) (by decide) (by intro c hc; simp at hc; subst hc; rfl)⟩
  · exact ⟨_, key 4 3 (by decide) (by decide) (by intro c hc; simp at hc; subst hc; rfl)⟩
  · exact ⟨_, key 5 3 (by decide) (by decide) (by intro c hc; simp at hc; subst hc; rfl)⟩
  · exact ⟨_, key 6 3 (by decide) (by decide) (by intro c hc; simp at hc; subst hc; rfl)⟩
  · exact ⟨_, key 7 3 (by decide) (by decide) (by intro c hc; simp at hc; subst hc; rfl)⟩
  · exact ⟨_, key 8 4 (by decide) (by decide) (by intro c hc; simp at hc; subst hc; rfl)⟩
  · exact ⟨_, key 9 4 (by decide) (by decide) (by intro c hc; simp at hc; subst hc; rfl)⟩
  · exact ⟨_, key 10 4 (by decide) (by decide) (by intro c hc; simp at hc; subst hc; rfl)⟩
  · exact ⟨_, key 11 4 (by decide) (by decide) (by intro c hc; simp at hc; subst hc; rfl)⟩
  · exact ⟨_, key 12 4 (by decide) (by decide) (by intro c hc; simp at hc; subst hc; rfl)⟩
theorem s35 (n : Nat) (hn : n ≤ 12) : ∃ r, sp35 n r := by
  obtain ⟨r, h⟩ := s57 n hn
  exact ⟨r, ok35 _ _ ⟨r, h, rfl⟩⟩


def restF (x n : Int) : Int := if x < 0 then (-(x + 1)).tmod n else x.tmod n
theorem s12 (x n : Int) (hx : R64 x) (hn : 0 < n) : sp12 x n (restF x n) := by
  refine ok12 _ _ _ ?_
  simp only [R64] at hx
  unfold w12
  refine ⟨fun y => y = if x < 0 then -(x + 1) else x, ⟨fun h => ⟨by simp only [R64]; omega, ?_⟩, fun h => by rw [if_neg (by omega)]⟩, ?_⟩
  · rintro _ rfl
    refine ⟨by omega, ?_⟩
    rintro _ rfl
    rw [if_pos h]
  · rintro _ rfl
    refine ⟨by omega, ?_⟩
    rintro _ rfl
    unfold restF
    split <;> rfl
theorem restF_bound (x n : Int) (hn : 0 < n) : 0 ≤ restF x n ∧ restF x n < n := by
  have key : ∀ y : Int, 0 ≤ y → 0 ≤ y.tmod n ∧ y.tmod n < n := by
    intro y hy
    rw [Int.tmod_eq_emod_of_nonneg hy]
    exact ⟨Int.emod_nonneg _ (by omega), Int.emod_lt_of_pos _ hn⟩
  unfold restF
  split
  · exact key _ (by omega)
  · exact key _ (by omega)
theorem s14 (a b : List GSolve_Pick) (ha : a.length < 9223372036854775807) : sp14 a b (decide (a = b)) := by
  refine ok14 _ _ _ ?_
  unfold w14
  refine ⟨fun h => ?_, fun h => ?_⟩
  · have : a ≠ b := fun e => h (by rw [e])
    simp [this]
  have hl : a.length = b.length := by omega
  refine ⟨fun v => ∃ k : Nat, v = k ∧ k ≤ a.length ∧ ∀ j, j < k → a[j]? = b[j]?, fun v => (a.length - v).toNat, ⟨0, rfl, by omega, fun j hj => by omega⟩, ?_⟩
  rintro v ⟨k, rfl, hk, hj⟩ t ht
  refine ⟨fun h1 => ?_, fun h1 => ?_⟩
  · have hlt : k < a.length := by rw [h1] at ht; have := of_decide_eq_true ht.symm; omega
    refine ⟨by omega, fun x hx => ⟨by omega, fun y hy => ?_⟩⟩
    have hx' : a[k]? = some x := by simpa using hx
    have hy' : b[k]? = some y := by simpa using hy
    refine ⟨fun hne => ?_, fun he => ⟨by simp only [R64]; omega, ?_⟩⟩
    · have : a ≠ b := fun e => hne (by rw [e, hy'] at hx'; injection hx' with hx'; exact hx'.symm)
      simp [this]
    · rintro _ rfl
      refine ⟨⟨k + 1, by omega, by omega, fun j hjk => ?_⟩, by dsimp only; omega⟩
      by_cases h2 : j = k
      · subst h2; rw [hx', hy', he]
      · exact hj j (by omega)
  · have hge : ¬ ((k : Int) < a.length) := by rw [h1] at ht; exact of_decide_eq_false ht.symm
    have : a = b := by
      refine List.ext_getElem? fun j => ?_
      by_cases h2 : j < k
      · exact hj j h2
      · rw [List.getElem?_eq_none (by omega), List.getElem?_eq_none (by omega)]
    simp [this]
theorem s11m (a : List GSolve_Module) (h : a.length * 48 ≤ 140737488355328) : sp11m a a := by
  refine ok11m _ _ ?_
  unfold w11m
  refine ⟨fun h0 => (List.eq_nil_of_length_eq_zero h0).symm, h, ?_⟩
  rintro _ rfl
  rfl
theorem s21m (a : List GaUse) (h : a.length * 32 ≤ 140737488355328) : sp21m a a := by
  refine ok21m _ _ ?_
  unfold w21m
  refine ⟨fun h0 => (List.eq_nil_of_length_eq_zero h0).symm, h, ?_⟩
  rintro _ rfl
  rfl
theorem s26 (a : List GSolve_Pick) (h : a.length * 24 ≤ 140737488355328) : sp26 a a := by
  refine ok26 _ _ ?_
  unfold w26
  refine ⟨fun h0 => (List.eq_nil_of_length_eq_zero h0).symm, by simpa using h, ?_⟩
  rintro _ rfl
  simp
theorem s61 (a : List GSolve_Module) : sp61 a a := ok61 _ _ rfl
end Go.Hw.VE

