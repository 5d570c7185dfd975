import Derived.Test.YtonoaimefgodfaaHwMoS
set_option linter.unusedVariables false
set_option linter.unusedSimpArgs false
namespace Go.Hw.VM
open Go Go.Proofs

theorem s59m (l : List GMove_Deed) (hl : l.length ≤ 1000000) : sp59m l l := by
  refine ok59m l _ ⟨fun h0 => ?_, by omega, fun v hv => hv⟩
  exact (List.eq_nil_of_length_eq_zero h0).symm
def cmD (a b : Nat) : GMove_Deed := ⟨3, (a : Int), (b : Int), 0, 0⟩
def cellD (a b : Nat) : List GMove_Deed := if a = b then [] else List.replicate 5 (cmD a b)
def rowD (n a : Nat) : List GMove_Deed := (List.range n).flatMap fun b => cellD (a + 1) (b + 1)
def roundD (n : Nat) : List GMove_Deed := (List.range n).flatMap (rowD n)
def drainD (n : Nat) : List GMove_Deed := (List.range 12).flatMap fun _ => roundD n
theorem row_len : ∀ n, n ≤ 3 → ∀ a, a < n → ∀ k, k ≤ n → ((List.range k).flatMap fun b => cellD (a + 1) (b + 1)).length + (if k < n ∧ a ≠ k then 5 else 0) ≤ 10 := by decide +kernel
theorem round_len : ∀ n, n ≤ 3 → ∀ k, k ≤ n → ((List.range k).flatMap (rowD n)).length + (if k < n then 10 else 0) ≤ 30 := by decide +kernel
theorem flat_len {A B : Type} {f : A → List B} {K : Nat} : ∀ {l : List A}, (∀ x ∈ l, (f x).length ≤ K) → (l.flatMap f).length ≤ l.length * K
  | [], _ => by simp
  | a :: l, h => by
    rw [List.flatMap_cons, List.length_append, List.length_cons, Nat.add_mul]
    have := flat_len (l := l) fun x hx => h x (by simp [hx])
    have := h a (by simp)
    omega
theorem rounds_len {n : Nat} (hn : n ≤ 3) (k : Nat) : ((List.range k).flatMap fun _ => roundD n).length ≤ k * 30 := by
  have := flat_len (l := List.range k) (f := fun _ => roundD n) (K := 30) fun x _ => by
    have := round_len n hn n (Nat.le_refl n)
    show ((List.range n).flatMap (rowD n)).length ≤ 30
    omega
  rwa [List.length_range] at this
theorem range_step {B : Type} (k : Nat) (f : Nat → List B) : (List.range (k + 1)).flatMap f = (List.range k).flatMap f ++ f k := by
  rw [List.range_succ, List.flatMap_append]
  simp
theorem s35 {n : Nat} {D : List GMove_Deed} (h1 : 1 ≤ n) (h3 : n ≤ 3) (hD : D.length ≤ 8) : sp35 (n : Int) D (D ++ drainD n) := by
  refine ok35 _ _ _ ⟨_, s59m D (by omega), ?_⟩
  refine ⟨fun v i => ∃ k : Nat, i = k ∧ k ≤ 12 ∧ v = D ++ (List.range k).flatMap fun _ => roundD n, fun _ i => (12 - i).toNat, ⟨0, rfl, by omega, by simp⟩, ?_⟩
  rintro v i ⟨k, rfl, hk, rfl⟩ w rfl
  refine ⟨fun h => ?_, fun h => ?_⟩
  · have hlt : k < 12 := by have := of_decide_eq_true h; omega
    have hlB := rounds_len h3 k
    generalize hB : D ++ (List.range k).flatMap (fun _ => roundD n) = B
    have hBl : B.length ≤ 8 + k * 30 := by rw [← hB, List.length_append]; omega
    refine ⟨fun v i => ∃ a : Nat, i = ((a + 1 : Nat) : Int) ∧ a ≤ n ∧ v = B ++ (List.range a).flatMap (rowD n), fun _ i => (n + 1 - i).toNat, ⟨0, rfl, by omega, by simp⟩, ?_⟩
    rintro v i ⟨a, rfl, ha, rfl⟩
    refine ⟨fun h => ?_, fun h => ?_⟩
    · have hlta : a < n := by omega
      have hlA := round_len n h3 a ha
      rw [if_pos hlta] at hlA
      generalize hA : B ++ (List.range a).flatMap (rowD n) = A
      have hAl : A.length ≤ 28 + k * 30 := by rw [← hA, List.length_append]; omega
      refine ⟨fun v i => ∃ b : Nat, i = ((b + 1 : Nat) : Int) ∧ b ≤ n ∧ v = A ++ (List.range b).flatMap (fun b => cellD (a + 1) (b + 1)), fun _ i => (n + 1 - i).toNat, ⟨0, rfl, by omega, by simp⟩, ?_⟩
      rintro v i ⟨b, rfl, hb, rfl⟩
      refine ⟨fun h => ?_, fun h => ?_⟩
      · have hltb : b < n := by omega
        have hlE := row_len n h3 a hlta b hb
        generalize hE : A ++ (List.range b).flatMap (fun b => cellD (a + 1) (b + 1)) = E
        have hEl : a ≠ b → E.length ≤ 33 + k * 30 := fun hab => by
          rw [if_pos ⟨hltb, hab⟩] at hlE
          rw [← hE, List.length_append]; omega
        refine ⟨fun v i => ∃ c : Nat, i = c ∧ c ≤ 5 ∧ v = E ++ if a = b then [] else List.replicate c (cmD (a + 1) (b + 1)), fun _ i => (5 - i).toNat, ⟨0, rfl, by omega, by simp⟩, ?_⟩
        rintro v i ⟨c, rfl, hc5, rfl⟩ w rfl
        refine ⟨fun h => ?_, fun h => ?_⟩
        · have hltc : c < 5 := by have := of_decide_eq_true h; omega
          refine ⟨fun hne => ?_, fun he => ?_⟩
          · have hab : a ≠ b := fun e => hne (by rw [e])
            have hl := hEl hab
            rw [if_neg hab]
            refine ⟨fun _ => ⟨by simp only [List.length_append, List.length_replicate, List.length_cons, List.length_nil]; omega, ?_⟩, fun h4 => ?_⟩
            · rintro _ rfl
              refine ⟨by simp only [R64]; omega, ?_⟩
              rintro _ rfl
              refine ⟨⟨c + 1, by omega, by omega, ?_⟩, by first | omega | (dsimp only; omega)⟩
              rw [if_neg hab, List.replicate_succ', ← List.append_assoc]
              rfl
            · rw [List.length_append, List.length_replicate] at h4
              omega
          · have hab : a = b := by omega
            refine ⟨by simp only [R64]; omega, ?_⟩
            rintro _ rfl
            refine ⟨⟨c + 1, by omega, by omega, ?_⟩, by first | omega | (dsimp only; omega)⟩
            rw [if_pos hab, if_pos hab]
        · have : c = 5 := by have := of_decide_eq_false h; omega
          subst this
          refine ⟨by simp only [R64]; omega, ?_⟩
          rintro _ rfl
          refine ⟨⟨b + 1, by omega, by omega, ?_⟩, by first | omega | (dsimp only; omega)⟩
          rw [range_step, ← List.append_assoc, hE]
          unfold cellD
          by_cases hab : a = b
          · rw [if_pos hab, if_pos (by omega)]
          · rw [if_neg hab, if_neg (by omega)]
      · have : b = n := by omega
        subst this
        refine ⟨by simp only [R64]; omega, ?_⟩
        rintro _ rfl
        refine ⟨⟨a + 1, by omega, by omega, ?_⟩, by first | omega | (dsimp only; omega)⟩
        rw [range_step, ← List.append_assoc, hA]
        rfl
    · have : a = n := by omega
      subst this
      refine ⟨by simp only [R64]; omega, ?_⟩
      rintro _ rfl
      refine ⟨⟨k + 1, by omega, by omega, ?_⟩, by first | omega | (dsimp only; omega)⟩
      rw [range_step, ← List.append_assoc, hB]
      rfl
  · have : k = 12 := by have := of_decide_eq_false h; omega
    subst this
    rfl
end Go.Hw.VM

