import Derived.Test.YtcenjonbenlfkaaDoorHwX4
set_option linter.unusedVariables false
set_option linter.unusedSimpArgs false
namespace Go.Hw.VX
open Go Go.Proofs
abbrev R := GVersion_Range
theorem decFrom_snoc : ∀ (l : List UInt8) (a : Nat) (b : UInt8), Lib.decFrom a (l ++ [b]) = (Lib.decFrom a l).bind fun v => (Lib.digitVal b).map fun d => v * 10 + d
  | [], a, b => by simp only [List.nil_append, Lib.decFrom, Option.bind_some]; cases Lib.digitVal b <;> rfl
  | x :: l, a, b => by
    simp only [List.cons_append, Lib.decFrom]
    cases Lib.digitVal x with
    | none => rfl
    | some d => exact decFrom_snoc l _ b
theorem dig1 (k : Nat) (h : k < 10) : (UInt8.ofNat (48 + k)).toNat = 48 + k := by simp; omega
theorem digV (k : Nat) (h : k < 10) : Lib.digitVal (UInt8.ofNat (48 + k)) = some k := by
  unfold Lib.digitVal
  rw [dig1 k h, if_pos (by omega)]
  congr 1; omega
theorem digits (u : Nat) : (∀ b ∈ Lib.decDigits u, 48 ≤ b.toNat ∧ b.toNat ≤ 57) ∧ Lib.decFrom 0 (Lib.decDigits u) = some u ∧ Lib.decDigits u ≠ [] := by
  induction u using Nat.strongRecOn with
  | _ u ih =>
    rw [Lib.decDigits]
    by_cases h : u < 10
    · rw [dif_pos h]
      refine ⟨fun b hb => ?_, ?_, by simp⟩
      · obtain rfl := List.mem_singleton.1 hb
        rw [dig1 u h]; omega
      · simp only [Lib.decFrom, digV u h]; simp
    · rw [dif_neg h]
      obtain ⟨h1, h2, h3⟩ := ih (u / 10) (by omega)
      refine ⟨fun b hb => ?_, ?_, by simp⟩
      · rcases List.mem_append.1 hb with hb | hb
        · exact h1 b hb
        · obtain rfl := List.mem_singleton.1 hb
          rw [dig1 _ (by omega)]; omega
      · rw [decFrom_snoc, h2, Option.bind_some, digV _ (by omega), Option.map_some]
        congr 1; omega
theorem nd4 (u : Nat) (h : u ≤ 9999) : Lib.nDigits u ≤ 4 := by
  by_cases h1 : u < 10
  · rw [Lib.nDigits_small h1]; omega
  rw [Lib.nDigits_big h1]
  by_cases h2 : u / 10 < 10
  · rw [Lib.nDigits_small h2]; omega
  rw [Lib.nDigits_big h2]
  by_cases h3 : u / 10 / 10 < 10
  · rw [Lib.nDigits_small h3]; omega
  rw [Lib.nDigits_big h3, Lib.nDigits_small (by omega)]; omega
theorem itoa_pos {n : Int} (h : 0 ≤ n) : Lib.itoa n = Lib.decDigits n.toNat := by unfold Lib.itoa; rw [if_neg (by omega)]
theorem itoa_len {n : Int} (h : 0 ≤ n) (h1 : n ≤ 9999) : (Lib.itoa n).length ≤ 4 := by
  rw [itoa_pos h, Lib.decDigits_length]; exact nd4 _ (by omega)
theorem itoa_dig {n : Int} (h : 0 ≤ n) : ∀ b ∈ Lib.itoa n, 48 ≤ b.toNat ∧ b.toNat ≤ 57 := by rw [itoa_pos h]; exact (digits _).1
theorem itoa_back {n : Int} (h : 0 ≤ n) : Lib.atoi (Lib.itoa n) = some n := by
  rw [itoa_pos h]
  obtain ⟨h1, h2, h3⟩ := digits n.toNat
  generalize Lib.decDigits n.toNat = l at h1 h2 h3
  cases l with
  | nil => exact absurd rfl h3
  | cons b r =>
    have hb := h1 b (by simp)
    have e1 : (b == 45) = false := by
      refine beq_eq_false_iff_ne.2 fun e => ?_
      rw [e] at hb; simp at hb
    have e2 : (b == 43) = false := by
      refine beq_eq_false_iff_ne.2 fun e => ?_
      rw [e] at hb; simp at hb
    simp only [Lib.atoi, e1, e2, Lib.decNat, List.isEmpty_cons]
    simp only [Bool.false_eq_true, if_false, h2, Option.map_some]
    congr 1; omega
def textF (r : R) : List UInt8 := Lib.itoa r.Low ++ (if r.Low < r.High then 45 :: Lib.itoa r.High else [])
def textA (a : List R) : List UInt8 := Lib.join (a.map textF) [44]
def okT (r : R) : Prop := 1 ≤ r.Low ∧ r.Low ≤ r.High ∧ r.High ≤ 9999
theorem textF_no {r : R} (h : okT r) : (44 : UInt8) ∉ textF r := by
  obtain ⟨h1, h2, h3⟩ := h
  have hn : ∀ n : Int, 0 ≤ n → (44 : UInt8) ∉ Lib.itoa n := fun n hn hm => by
    have := itoa_dig hn _ hm
    simp at this
  unfold textF
  intro hm
  rcases List.mem_append.1 hm with hm | hm
  · exact hn _ (by omega) hm
  · split at hm
    · rcases List.mem_cons.1 hm with hm | hm
      · simp at hm
      · exact hn _ (by omega) hm
    · cases hm
theorem textF_len {r : R} (h : okT r) : (textF r).length ≤ 9 := by
  obtain ⟨h1, h2, h3⟩ := h
  have a1 := itoa_len (n := r.Low) (by omega) (by omega)
  have a2 := itoa_len (n := r.High) (by omega) (by omega)
  unfold textF
  split <;> simp <;> omega
theorem textF_ne {r : R} (h : okT r) : textF r ≠ [] := by
  unfold textF
  rw [itoa_pos (by have := h.1; omega)]
  have := (digits r.Low.toNat).2.2
  simp [this]
theorem split_one {c : UInt8} : ∀ {x : List UInt8}, c ∉ x → splitL c x = [x]
  | [], _ => rfl
  | b :: l, h => by
    have h1 : b ≠ c := fun e => h (by simp [e])
    have := split_one (c := c) (x := l) (fun hm => h (by simp [hm]))
    simp [splitL, h1, this]
theorem split_more {c : UInt8} : ∀ {x : List UInt8} (y : List UInt8), c ∉ x → splitL c (x ++ c :: y) = x :: splitL c y
  | [], y, _ => by simp [splitL]
  | b :: l, y, h => by
    have h1 : b ≠ c := fun e => h (by simp [e])
    have := split_more (c := c) (x := l) y (fun hm => h (by simp [hm]))
    simp [splitL, h1, this]
theorem split_join {c : UInt8} : ∀ {xs : List (List UInt8)}, xs ≠ [] → (∀ x ∈ xs, c ∉ x) → splitL c (Lib.join xs [c]) = xs
  | [], h, _ => absurd rfl h
  | [x], _, h => by rw [Lib.join_one]; exact split_one (h x (by simp))
  | x :: y :: r, _, h => by
    have e : Lib.join (x :: y :: r) [c] = x ++ c :: Lib.join (y :: r) [c] := by
      rw [Lib.join_cons, Lib.join_cons]; simp [Lib.joinTail]
    rw [e, split_more _ (h x (by simp)), split_join (by simp) fun z hz => h z (by simp [hz])]
theorem join_len (c : UInt8) (k : Nat) : ∀ (xs : List (List UInt8)), (∀ x ∈ xs, x.length ≤ k) → (Lib.join xs [c]).length ≤ xs.length * (k + 1)
  | [], _ => by simp [Lib.join_nil]
  | x :: r, h => by
    rw [Lib.join_cons, List.length_append]
    have h1 := h x (by simp)
    have h2 : ∀ r : List (List UInt8), (∀ x ∈ r, x.length ≤ k) → (Lib.joinTail [c] r).length ≤ r.length * (k + 1) := by
      intro r
      induction r with
      | nil => simp [Lib.joinTail]
      | cons y r ih =>
        intro hr
        have e : Lib.joinTail [c] (y :: r) = c :: (y ++ Lib.joinTail [c] r) := by simp [Lib.joinTail]
        have := ih fun z hz => hr z (by simp [hz])
        have h3 := hr y (by simp)
        rw [e, List.length_cons, List.length_append, List.length_cons, Nat.succ_mul]; omega
    have := h2 r fun z hz => h z (by simp [hz])
    rw [List.length_cons, Nat.succ_mul]; omega
theorem textA_len {a : List R} (h : ∀ r ∈ a, okT r) : (textA a).length ≤ a.length * 10 := by
  have := join_len 44 9 (a.map textF) (fun x hx => by
    obtain ⟨r, hr, rfl⟩ := List.mem_map.1 hx
    exact textF_len (h r hr))
  simpa [textA] using this
theorem textA_split {a : List R} (h : ∀ r ∈ a, okT r) (hne : a ≠ []) : splitL 44 (textA a) = a.map textF :=
  split_join (by simpa using hne) fun x hx => by
    obtain ⟨r, hr, rfl⟩ := List.mem_map.1 hx
    exact textF_no (h r hr)
theorem textA_ne {a : List R} (h : ∀ r ∈ a, okT r) (hne : a ≠ []) : textA a ≠ [] := by
  cases a with
  | nil => exact absurd rfl hne
  | cons r a =>
    unfold textA
    rw [List.map_cons, Lib.join_cons]
    have := textF_ne (h r (by simp))
    simp [this]

theorem s41 (l : List UInt8) (c : UInt8) (hl : l.length ≤ 1000000) : sp41 l [c] (match splitL c l with | [x] => (x, [], false) | _ => (l.take (Lib.indexByte l c).toNat, l.drop ((Lib.indexByte l c).toNat + 1), true)) := by
  refine ok41 _ _ _ ?_
  unfold w41
  refine ⟨_, s61 l c, fun h => ?_, fun h => ?_⟩
  · rcases index_split c l with ⟨e1, e2⟩ | ⟨k, e1, hk, e2⟩
    · rw [e1] at h; exact absurd h (by decide)
    · rw [e1]
      refine ⟨⟨by omega, by omega, by omega⟩, ?_⟩
      rintro _ rfl
      refine ⟨by simp only [R64, List.length_singleton]; omega, ?_⟩
      rintro _ rfl
      refine ⟨⟨by simp; omega, by simp; omega, by omega⟩, ?_⟩
      rintro _ rfl
      obtain ⟨p, r, hp⟩ : ∃ p r, splitL c (l.drop (k + 1)) = p :: r := by
        cases hsp : splitL c (l.drop (k + 1)) with
        | nil => exact absurd hsp (splitL_ne c _)
        | cons p r => exact ⟨p, r, rfl⟩
      rw [e2, hp]
      simp only [Int.toNat_natCast, Int.toNat_zero, List.drop_zero, List.length_singleton, List.take_length]
      rw [show ((k : Int) + ((1 : Nat) : Int)).toNat = k + 1 by omega]
  · rcases index_split c l with ⟨e1, e2⟩ | ⟨k, e1, hk, e2⟩
    · rw [e2]
    · rw [e1] at h; omega
theorem s20 {r : R} (h : okT r) : sp20 (textF r) [45] (Lib.itoa r.Low, (if r.Low < r.High then Lib.itoa r.High else []), decide (r.Low < r.High)) := by
  have hn : ∀ n : Int, 0 ≤ n → (45 : UInt8) ∉ Lib.itoa n := fun n hn hm => by
    have := itoa_dig hn _ hm
    simp at this
  obtain ⟨h1, h2, h3⟩ := id h
  refine ok20 _ _ _ ⟨_, s41 _ _ (by have := textF_len h; omega), ?_⟩
  unfold textF
  by_cases hlt : r.Low < r.High
  · rw [if_pos hlt, if_pos hlt]
    have e := split_more (c := 45) (Lib.itoa r.High) (hn r.Low (by omega))
    obtain ⟨p, q, hp⟩ : ∃ p r', splitL 45 (Lib.itoa r.High) = p :: r' := by
      cases hsp : splitL 45 (Lib.itoa r.High) with
      | nil => exact absurd hsp (splitL_ne _ _)
      | cons p r => exact ⟨p, r, rfl⟩
    rcases index_split 45 (Lib.itoa r.Low ++ 45 :: Lib.itoa r.High) with ⟨_, e2⟩ | ⟨k, e1, hk, e2⟩
    · rw [e, hp] at e2; simp at e2
    · rw [e] at e2
      injection e2 with e2 _
      rw [e, hp, e1]
      have hk2 : k = (Lib.itoa r.Low).length := by
        have := congrArg List.length e2
        rw [List.length_take] at this; omega
      subst hk2
      simp [hlt]
  · rw [if_neg hlt, if_neg hlt, List.append_nil, split_one (hn r.Low (by omega))]
    simp [hlt]
end Go.Hw.VX

