import Derived.Test.YtphdkcgchcogdaaHwLayS
set_option linter.unusedVariables false
set_option linter.unusedSimpArgs false
namespace Go.Hw.VE
open Go Go.Proofs Go.Shelf
abbrev Md := GSolve_Module
abbrev Pk := GSolve_Pick
abbrev Us := GaUse

theorem s24 (a b : Pk) : sp24 a b (cmpS a.Name b.Name) := ok24 _ _ _ ⟨_, s25 _ _, rfl⟩
theorem s28 (a b : Md) : sp28 a b (if cmpS a.Name b.Name ≠ 0 then cmpS a.Name b.Name else cmpI a.Version b.Version) := ok28 _ _ _ ⟨_, s25 _ _, _, s44 _ _, _, s43 _ _, rfl⟩


def ltP (a b : Pk) : Bool := decide (cmpS a.Name b.Name < 0)
theorem at_snoc {α : Type} {A : List α} {x : α} {Y : List α} : (A ++ x :: Y)[A.length]? = some x := by simp
theorem get_in {α : Type} {A : List α} {a x : α} {Y : List α} : (A ++ a :: x :: Y)[A.length + 1]? = some x := by
  rw [List.getElem?_append_right (by omega)]; simp
theorem split_last {α : Type} (A : List α) (h : A ≠ []) : ∃ A' a, A = A' ++ [a] := ⟨A.dropLast, A.getLast h, (List.dropLast_concat_getLast h).symm⟩
theorem s68 (p : List Pk) (hp : p.length ≤ 1000) : sp68_24 p 0 p.length (isort ltP p) := by
  refine ok68_24 _ _ _ _ ?_
  unfold w68_24
  refine ⟨by decide, ?_⟩
  rintro _ rfl
  refine ⟨fun l v => ∃ i : Nat, v = i ∧ 1 ≤ i ∧ i ≤ p.length + 1 ∧ l = isort ltP (p.take i) ++ p.drop i, fun l v => (p.length + 1 - v).toNat, ⟨1, rfl, by omega, by omega, ?_⟩, ?_⟩
  · cases p with
    | nil => rfl
    | cons a l => simp [isort, insB]
  rintro l v ⟨i, rfl, hi1, hi2, rfl⟩
  refine ⟨fun hlt => ?_, fun hge => ?_⟩
  · have hi : i < p.length := by omega
    obtain ⟨x, hx⟩ : ∃ x, p[i]? = some x := ⟨_, List.getElem?_eq_getElem hi⟩
    have hdrop : p.drop i = x :: p.drop (i + 1) := by
      obtain ⟨h1, rfl⟩ := List.getElem?_eq_some_iff.1 hx
      exact List.drop_eq_getElem_cons h1
    have htake : p.take (i + 1) = p.take i ++ [x] := by rw [List.take_add_one, hx]; rfl
    have hS : (isort ltP (p.take i)).length = i := by rw [isort_len]; simp; omega
    rw [hdrop]
    generalize hR : p.drop (i + 1) = R
    have hRl : i + 1 + R.length = p.length := by rw [← hR]; simp; omega
    generalize hSe : isort ltP (p.take i) = S at hS
    refine ⟨fun l v => l = insB ltP x S ++ R, ?_, ?_⟩
    · refine ⟨fun l v => ∃ A B, S = A ++ B ∧ l = A ++ x :: (B ++ R) ∧ v = (A.length : Int) ∧ ∀ b ∈ B, ltP x b = true, fun l v => v.toNat, ⟨S, [], by simp, by simp, by omega, nofun⟩, ?_⟩
      rintro l v ⟨A, B, rfl, rfl, rfl, hB⟩
      have hAB : A.length + B.length = i := by simpa using hS
      refine ⟨fun h0 => ?_, fun h0 => ?_⟩
      · have hA0 : A ≠ [] := by intro e; subst e; simp at h0
        obtain ⟨A', a, rfl⟩ := split_last A hA0
        simp only [List.length_append, List.length_cons, List.length_nil, Nat.zero_add] at hAB h0 ⊢
        have hq : ((A'.length + 1 : Nat) : Int).toNat = A'.length + 1 := by omega
        have hq1 : (((A'.length + 1 : Nat) : Int) - 1).toNat = A'.length := by omega
        have e1 : A' ++ [a] ++ x :: (B ++ R) = A' ++ a :: x :: (B ++ R) := by simp
        rw [e1]
        have hlen : (A' ++ a :: x :: (B ++ R)).length = p.length := by simp; omega
        rw [hq]
        refine ⟨⟨by omega, by omega⟩, by omega, fun y hy => ?_⟩
        rw [get_in] at hy; injection hy with hy; subst hy
        refine ⟨by simp only [R64]; omega, ?_⟩
        rintro _ rfl
        rw [hq1]
        refine ⟨⟨by omega, by omega⟩, by omega, fun y hy => ?_⟩
        rw [at_snoc] at hy; injection hy with hy; subst hy
        refine ⟨_, s24 _ _, fun hl => ⟨by simp only [R64]; omega, ?_⟩, fun hl => ?_⟩
        · rintro _ rfl
          refine ⟨by simp only [R64]; omega, ?_⟩
          rintro _ rfl
          rw [hq1]
          refine ⟨⟨by omega, by omega⟩, by omega, fun y hy => ?_⟩
          rw [at_snoc] at hy; injection hy with hy; subst hy
          refine ⟨⟨by omega, by omega⟩, by omega, fun y hy => ?_⟩
          rw [get_in] at hy; injection hy with hy; subst hy
          refine ⟨⟨by omega, by omega⟩, by omega, fun _ _ => ?_⟩
          rintro _ rfl
          refine ⟨⟨by omega, by omega⟩, by rw [List.length_set]; omega, fun _ _ => ?_⟩
          rintro _ rfl
          refine ⟨by simp only [R64]; omega, ?_⟩
          rintro _ rfl
          refine ⟨⟨A', a :: B, by simp, ?_, by omega, fun b hb => ?_⟩, by omega⟩
          · rw [swp]; rfl
          · rcases List.mem_cons.1 hb with rfl | hb
            · simp only [ltP]; exact decide_eq_true hl
            · exact hB b hb
        · rw [insB_eq hB (.inr ⟨A', a, rfl, by simp only [ltP]; exact decide_eq_false (by omega)⟩)]
          simp
      · have hA0 : A = [] := List.eq_nil_of_length_eq_zero (by omega)
        subst hA0
        rw [insB_eq hB (.inl rfl)]
        simp
    · rintro l v rfl
      refine ⟨by simp only [R64]; omega, ?_⟩
      rintro _ rfl
      refine ⟨⟨i + 1, by omega, by omega, by omega, ?_⟩, by dsimp only; omega⟩
      rw [htake, isort_snoc, hSe, hR]
  · have hi : p.length ≤ i := by omega
    rw [List.take_of_length_le hi, List.drop_of_length_le hi, List.append_nil]
theorem s41 (p : List Pk) (n : Int) (hp : p.length ≤ 12) : sp41_24 p 0 p.length n (isort ltP p) := by
  refine ok41_24 _ _ _ _ _ ?_
  unfold w41_24
  refine ⟨fun a b c d e => a = 0 ∧ b = p.length, fun _ _ _ _ _ => 0, ⟨rfl, rfl⟩, ?_⟩
  rintro _ _ c d e ⟨rfl, rfl⟩
  refine ⟨by simp only [R64]; omega, ?_⟩
  rintro _ rfl
  exact ⟨fun _ => ⟨_, s68 p (by omega), rfl⟩, fun h => by omega⟩
theorem s23 (p : List Pk) (hp : p.length ≤ 12) : sp23_24 p (isort ltP p) := by
  obtain ⟨r, hr⟩ := s35 p.length hp
  refine ok23_24 _ _ ?_
  unfold w23_24
  rintro _ rfl
  have hw : IntKind.wrap .u64 (p.length : Int) = p.length := by
    simp only [IntKind.wrap, IntKind.signed, IntKind.bits]
    simp
    omega
  rw [hw]
  exact ⟨r, hr, _, s41 p r hp, rfl⟩


theorem first_idx {α : Type} (q : α → Bool) : ∀ l : List α, (∃ (k : Nat) (a : α), l[k]? = some a ∧ q a = true ∧ ∀ (j : Nat) (b : α), j < k → l[j]? = some b → q b = false) ∨ ∀ a ∈ l, q a = false
  | [] => .inr nofun
  | x :: l => by
    by_cases hx : q x = true
    · exact .inl ⟨0, x, rfl, hx, fun j b hj => by omega⟩
    · rcases first_idx q l with ⟨k, a, h1, h2, h3⟩ | h
      · refine .inl ⟨k + 1, a, by simpa using h1, h2, fun j b hj hb => ?_⟩
        cases j with
        | zero => simp at hb; subst hb; simpa using hx
        | succ j => exact h3 j b (by omega) (by simpa using hb)
      · refine .inr fun a ha => ?_
        rcases List.mem_cons.1 ha with rfl | ha
        · simpa using hx
        · exact h a ha
def idxF {α : Type} (q : α → Bool) (l : List α) : Int := match l.findIdx? q with | some k => k | none => -1
theorem idx_found {α : Type} {q : α → Bool} {l : List α} {k : Nat} {a : α} (h1 : l[k]? = some a) (h2 : q a = true) (h3 : ∀ (j : Nat) (b : α), j < k → l[j]? = some b → q b = false) : idxF q l = k := by
  have : l.findIdx? q = some k := by
    rw [List.findIdx?_eq_some_iff_getElem]
    obtain ⟨hk, rfl⟩ := List.getElem?_eq_some_iff.1 h1
    refine ⟨hk, h2, fun j hj => ?_⟩
    have := h3 j l[j] hj (List.getElem?_eq_getElem (by omega))
    simp [this]
  simp [idxF, this]
theorem idx_none {α : Type} {q : α → Bool} {l : List α} (h : ∀ a ∈ l, q a = false) : idxF q l = -1 := by
  have : l.findIdx? q = none := by
    rw [List.findIdx?_eq_none_iff]
    exact h
  simp [idxF, this]
theorem idx_ge {α : Type} (q : α → Bool) (l : List α) : decide (idxF q l ≥ 0) = l.any q := by
  rcases first_idx q l with ⟨k, a, h1, h2, h3⟩ | h
  · rw [idx_found h1 h2 h3]
    have : l.any q = true := List.any_eq_true.2 ⟨a, List.mem_of_getElem? h1, h2⟩
    rw [this]; simp
  · rw [idx_none h]
    have : l.any q = false := by
      rw [List.any_eq_false]
      intro a ha
      simp [h a ha]
    rw [this]; simp

theorem s85 (l : List Pk) (x : Pk) (hl : l.length ≤ 1000000) : sp85 l x (idxF (fun a => decide (x = a)) l) := by
  refine ok85 _ _ _ ?_
  unfold w85
  refine ⟨fun v => ∃ k : Nat, v = k ∧ k ≤ l.length ∧ ∀ (j : Nat) (b : Pk), j < k → l[j]? = some b → decide (x = b) = false, fun v => (l.length - v).toNat, ⟨0, rfl, by omega, fun j b hj => by omega⟩, ?_⟩
  rintro v ⟨k, rfl, hk, hj⟩ t ht
  refine ⟨fun h1 => ?_, fun h1 => ?_⟩
  · have hlt : k < l.length := by rw [h1] at ht; have := of_decide_eq_true ht.symm; omega
    refine ⟨by omega, fun a ha => ?_⟩
    have ha' : l[k]? = some a := by simpa using ha
    refine ⟨fun he => ?_, fun hne => ⟨by simp only [R64]; omega, ?_⟩⟩
    · exact (idx_found ha' (decide_eq_true he) hj).symm
    · rintro _ rfl
      refine ⟨⟨k + 1, by omega, by omega, fun j b hjk hb => ?_⟩, by dsimp only; omega⟩
      by_cases h2 : j = k
      · subst h2; rw [ha'] at hb; injection hb with hb; subst hb; exact decide_eq_false hne
      · exact hj j b (by omega) hb
  · have hge : ¬ ((k : Int) < l.length) := by rw [h1] at ht; exact of_decide_eq_false ht.symm
    refine (idx_none fun a ha => ?_).symm
    obtain ⟨j, hj'⟩ := mem_get ha
    exact hj j a (by have := lt_of_get hj'; omega) hj'
theorem s64 (l : List Pk) (x : Pk) (hl : l.length ≤ 1000000) : sp64 l x (l.any fun a => decide (x = a)) := by
  refine ok64 _ _ _ ⟨_, s85 l x hl, ?_⟩
  rintro _ rfl
  exact idx_ge _ _


def inF (f : List Pk) (name : List UInt8) (m : Md) : Bool := f.any fun a => decide ((⟨name, m.Version⟩ : Pk) = a)
def ltM (f : List Pk) (name : List UInt8) (a b : Md) : Bool := inF f name a && !inF f name b
def cmpM (f : List Pk) (name : List UInt8) (a b : Md) : Int := if inF f name a = inF f name b then 0 else if inF f name a then -1 else 1
theorem cmpM_lt (f : List Pk) (name : List UInt8) (a b : Md) : cmpM f name a b < 0 ↔ ltM f name a b = true := by
  unfold cmpM ltM
  cases inF f name a <;> cases inF f name b <;> decide
theorem s63 (a b : Md) (s : GSolve_search) (name : List UInt8) (hl : s.first.length ≤ 1000000) : sp63 a b s name (cmpM s.first name a b, s, name) := by
  refine ok63 _ _ _ _ _ ?_
  unfold w63
  refine ⟨_, s64 s.first ⟨name, a.Version⟩ hl, _, s64 s.first ⟨name, b.Version⟩ hl, ?_⟩
  rintro _ rfl
  show (_ ∧ _)
  have e1 : (s.first.any fun c => decide ((⟨name, a.Version⟩ : Pk) = c)) = inF s.first name a := rfl
  have e2 : (s.first.any fun c => decide ((⟨name, b.Version⟩ : Pk) = c)) = inF s.first name b := rfl
  rw [e1, e2]
  unfold cmpM
  cases inF s.first name a <;> cases inF s.first name b <;> simp
theorem s91 (s : GSolve_search) (name : List UInt8) (hf : s.first.length ≤ 1000000) (p : List Md) (hp : p.length ≤ 1000) : sp91_63 p 0 p.length s name (isort (ltM s.first name) p, s, name) := by
  refine ok91_63 _ _ _ _ _ _ ?_
  unfold w91_63
  refine ⟨by decide, ?_⟩
  rintro _ rfl
  refine ⟨fun l q1 q2 q3 q4 q5 v => q1 = s.picks ∧ q2 = s.wants ∧ q3 = s.register ∧ q4 = s.first ∧ name = q5 ∧ ∃ i : Nat, v = i ∧ 1 ≤ i ∧ i ≤ p.length + 1 ∧ l = isort (ltM s.first name) (p.take i) ++ p.drop i, fun l _ _ _ _ _ v => (p.length + 1 - v).toNat, ⟨rfl, rfl, rfl, rfl, rfl, 1, rfl, by omega, by omega, ?_⟩, ?_⟩
  · cases p with
    | nil => rfl
    | cons a l => simp [isort, insB]
  rintro l _ _ _ _ _ v ⟨rfl, rfl, rfl, rfl, rfl, i, rfl, hi1, hi2, rfl⟩
  refine ⟨fun hlt => ?_, fun hge => ?_⟩
  · have hi : i < p.length := by omega
    obtain ⟨x, hx⟩ : ∃ x, p[i]? = some x := ⟨_, List.getElem?_eq_getElem hi⟩
    have hdrop : p.drop i = x :: p.drop (i + 1) := by
      obtain ⟨h1, rfl⟩ := List.getElem?_eq_some_iff.1 hx
      exact List.drop_eq_getElem_cons h1
    have htake : p.take (i + 1) = p.take i ++ [x] := by rw [List.take_add_one, hx]; rfl
    have hS : (isort (ltM s.first name) (p.take i)).length = i := by rw [isort_len]; simp; omega
    rw [hdrop]
    generalize hR : p.drop (i + 1) = R
    have hRl : i + 1 + R.length = p.length := by rw [← hR]; simp; omega
    generalize hSe : isort (ltM s.first name) (p.take i) = S at hS
    refine ⟨fun l q1 q2 q3 q4 q5 v => q1 = s.picks ∧ q2 = s.wants ∧ q3 = s.register ∧ q4 = s.first ∧ name = q5 ∧ l = insB (ltM s.first name) x S ++ R, ?_, ?_⟩
    · refine ⟨fun l q1 q2 q3 q4 q5 v => q1 = s.picks ∧ q2 = s.wants ∧ q3 = s.register ∧ q4 = s.first ∧ name = q5 ∧ ∃ A B, S = A ++ B ∧ l = A ++ x :: (B ++ R) ∧ v = (A.length : Int) ∧ ∀ b ∈ B, (ltM s.first name) x b = true, fun l _ _ _ _ _ v => v.toNat, ⟨rfl, rfl, rfl, rfl, rfl, S, [], by simp, by simp, by omega, nofun⟩, ?_⟩
      rintro l _ _ _ _ _ v ⟨rfl, rfl, rfl, rfl, rfl, A, B, rfl, rfl, rfl, hB⟩
      have hAB : A.length + B.length = i := by simpa using hS
      refine ⟨fun h0 => ?_, fun h0 => ?_⟩
      · have hA0 : A ≠ [] := by intro e; subst e; simp at h0
        obtain ⟨A', a, rfl⟩ := split_last A hA0
        simp only [List.length_append, List.length_cons, List.length_nil, Nat.zero_add] at hAB h0 ⊢
        have hq : ((A'.length + 1 : Nat) : Int).toNat = A'.length + 1 := by omega
        have hq1 : (((A'.length + 1 : Nat) : Int) - 1).toNat = A'.length := by omega
        have e1 : A' ++ [a] ++ x :: (B ++ R) = A' ++ a :: x :: (B ++ R) := by simp
        rw [e1]
        have hlen : (A' ++ a :: x :: (B ++ R)).length = p.length := by simp; omega
        rw [hq]
        refine ⟨⟨by omega, by omega⟩, by omega, fun y hy => ?_⟩
        rw [get_in] at hy; injection hy with hy; subst hy
        refine ⟨by simp only [R64]; omega, ?_⟩
        rintro _ rfl
        rw [hq1]
        refine ⟨⟨by omega, by omega⟩, by omega, fun y hy => ?_⟩
        rw [at_snoc] at hy; injection hy with hy; subst hy
        refine ⟨_, s63 _ _ s name hf, fun hl => ⟨by simp only [R64]; omega, ?_⟩, fun hl => ?_⟩
        · rintro _ rfl
          refine ⟨by simp only [R64]; omega, ?_⟩
          rintro _ rfl
          rw [hq1]
          refine ⟨⟨by omega, by omega⟩, by omega, fun y hy => ?_⟩
          rw [at_snoc] at hy; injection hy with hy; subst hy
          refine ⟨⟨by omega, by omega⟩, by omega, fun y hy => ?_⟩
          rw [get_in] at hy; injection hy with hy; subst hy
          refine ⟨⟨by omega, by omega⟩, by omega, fun _ _ => ?_⟩
          rintro _ rfl
          refine ⟨⟨by omega, by omega⟩, by rw [List.length_set]; omega, fun _ _ => ?_⟩
          rintro _ rfl
          refine ⟨by simp only [R64]; omega, ?_⟩
          rintro _ rfl
          refine ⟨⟨rfl, rfl, rfl, rfl, rfl, A', a :: B, by simp, ?_, by omega, fun b hb => ?_⟩, by omega⟩
          · rw [swp]; rfl
          · rcases List.mem_cons.1 hb with rfl | hb
            · exact (cmpM_lt _ _ _ _).1 hl
            · exact hB b hb
        · refine ⟨rfl, rfl, rfl, rfl, rfl, ?_⟩
          rw [insB_eq hB (.inr ⟨A', a, rfl, by
            cases hb : ltM s.first name x a with
            | false => rfl
            | true => have := (cmpM_lt _ _ _ _).2 hb; dsimp only at hl; omega⟩)]
          simp
      · have hA0 : A = [] := List.eq_nil_of_length_eq_zero (by omega)
        subst hA0
        refine ⟨rfl, rfl, rfl, rfl, rfl, ?_⟩
        rw [insB_eq hB (.inl rfl)]
        simp
    · rintro l _ _ _ _ _ v ⟨rfl, rfl, rfl, rfl, rfl, rfl⟩
      refine ⟨by simp only [R64]; omega, ?_⟩
      rintro _ rfl
      refine ⟨⟨rfl, rfl, rfl, rfl, rfl, i + 1, by omega, by omega, by omega, ?_⟩, by dsimp only; omega⟩
      rw [htake, isort_snoc, hSe, hR]
  · have hi : p.length ≤ i := by omega
    rw [List.take_of_length_le hi, List.drop_of_length_le hi, List.append_nil]
theorem s91' (s : GSolve_search) (name : List UInt8) (p : List Md) (a b : Int) (ha : 0 ≤ a ∧ a < 1000) (hb : b ≤ a + 1) : sp91_63 p a b s name (p, s, name) := by
  refine ok91_63 _ _ _ _ _ _ ?_
  unfold w91_63
  refine ⟨by simp only [R64]; omega, ?_⟩
  rintro _ rfl
  refine ⟨fun l q1 q2 q3 q4 q5 v => q1 = s.picks ∧ q2 = s.wants ∧ q3 = s.register ∧ q4 = s.first ∧ name = q5 ∧ l = p ∧ v = a + 1, fun _ _ _ _ _ _ _ => 0, ⟨rfl, rfl, rfl, rfl, rfl, rfl, rfl⟩, ?_⟩
  rintro _ _ _ _ _ _ _ ⟨rfl, rfl, rfl, rfl, rfl, rfl, rfl⟩
  exact ⟨fun h => by omega, fun _ => rfl⟩
theorem s84 (s : GSolve_search) (name : List UInt8) (hf : s.first.length ≤ 1000000) (p : List Md) (hp : p.length ≤ 20) : sp84_63 p p.length s name (isort (ltM s.first name) p, s, name) := by
  refine ok84_63 _ _ _ _ _ ?_
  unfold w84_63
  refine ⟨fun l q1 q2 q3 q4 q5 a b => q1 = s.picks ∧ q2 = s.wants ∧ q3 = s.register ∧ q4 = s.first ∧ name = q5 ∧ ((l = p ∧ a = 0 ∧ b = 20) ∨ (l = isort (ltM s.first name) p ∧ a = 20 ∧ b = 40 ∧ p.length = 20)), fun _ _ _ _ _ _ a _ => (20 - a).toNat, ⟨rfl, rfl, rfl, rfl, rfl, .inl ⟨rfl, rfl, rfl⟩⟩, ?_⟩
  rintro l _ _ _ _ _ a b ⟨rfl, rfl, rfl, rfl, rfl, ⟨rfl, rfl, rfl⟩ | ⟨rfl, rfl, rfl, h20⟩⟩
  · refine ⟨fun h => ⟨rfl, ?_⟩, fun h => ⟨rfl, ?_⟩⟩
    · have h20 : l.length = 20 := by omega
      refine ⟨(isort (ltM s.first name) l, s, name), ?_, by decide, ?_⟩
      · have := s91 s name hf l (by omega)
        rw [h20] at this
        exact this
      · rintro _ rfl
        exact ⟨⟨rfl, rfl, rfl, rfl, rfl, .inr ⟨rfl, rfl, rfl, h20⟩⟩, by dsimp only; omega⟩
    · refine ⟨_, s91 s name hf l (by omega), fun v => v = 20, fun _ => 0, rfl, ?_⟩
      rintro _ rfl
      exact ⟨fun h => by omega, fun _ => rfl⟩
  · refine ⟨fun h => by omega, fun h => ⟨isort_len p, ?_⟩⟩
    refine ⟨_, s91' s name _ 20 p.length (by omega) (by omega), fun v => v = 20, fun _ => 0, rfl, ?_⟩
    rintro _ rfl
    exact ⟨fun h => by omega, fun _ => rfl⟩
theorem s62 (s : GSolve_search) (name : List UInt8) (hf : s.first.length ≤ 1000000) (p : List Md) (hp : p.length ≤ 20) : sp62_63 p s name (isort (ltM s.first name) p, s, name) :=
  ok62_63 _ _ _ _ ⟨_, s84 s name hf p hp, rfl⟩


def named (reg : List Md) (name : List UInt8) : List Md := reg.reverse.filter fun m => decide (m.Name = name)
def versF (reg : List Md) (f : List Pk) (name : List UInt8) : List Md := isort (ltM f name) (named reg name)
theorem bw_snd {E : Type} (l : List E) : (bw l).map (·.2) = l.reverse := by
  simp only [bw, List.map_reverse, List.map_map]
  congr 1
  apply List.ext_getElem?
  intro i
  simp [List.getElem?_map, List.getElem?_zipIdx]
  cases l[i]? <;> rfl
theorem s39 (s : GSolve_search) (name : List UInt8) (hf : s.first.length ≤ 1000000) (hr : s.register.length ≤ 1000) (hn : (named s.register name).length ≤ 20) : sp39 s name (versF s.register s.first name, s) := by
  refine ok39 _ _ _ ?_
  unfold w39
  refine ⟨_, s61 _, by omega, fun i v => v = (((bw s.register).take i).map (·.2)).filter (fun m => decide (m.Name = name)), by simp, ?_, ?_⟩
  · rintro i a _ ha rfl
    have hi : i < s.register.length := by have := lt_of_get ha; rwa [bw_len] at this
    have e1 : (bw s.register).take (i + 1) = (bw s.register).take i ++ [a] := by rw [List.take_add_one, ha]; rfl
    show (a.2.Name = name → _ ∧ ∀ v9 : List Md, v9 = _ → v9 = (((bw s.register).take (i + 1)).map (·.2)).filter (fun m => decide (m.Name = name))) ∧ (a.2.Name ≠ name → _ = (((bw s.register).take (i + 1)).map (·.2)).filter (fun m => decide (m.Name = name)))
    rw [e1, List.map_append, List.filter_append]
    have hle : ((((bw s.register).take i).map (·.2)).filter (fun m => decide (m.Name = name))).length ≤ 1000 := by
      refine Nat.le_trans (List.length_filter_le _ _) ?_
      simp [bw_len]; omega
    refine ⟨fun he => ⟨by simp only [List.length_cons, List.length_nil]; omega, ?_⟩, fun hne => by simp [hne]⟩
    rintro _ rfl
    simp [he]
    rw [← he]
  · rintro _ rfl
    rw [List.take_length, bw_snd]
    refine ⟨_, s62 s name hf (named s.register name) hn, ?_, rfl⟩
    exact isort_len _


def hasN (P : List Pk) (n : List UInt8) : Bool := P.any fun p => decide (p.Name = n)
theorem s60 (p : Pk) (u : Us) : sp60 p u (decide (p.Name = u.Name), u) := by
  refine ok60 _ _ _ ?_
  unfold w60
  rintro _ rfl
  show (_, u) = _
  congr 1
  by_cases h : p.Name = u.Name <;> simp [h]
theorem s29_60 (l : List Pk) (u : Us) (hl : l.length ≤ 1000000) : sp29_60 l u (idxF (fun a => decide (a.Name = u.Name)) l, u) := by
  refine ok29_60 _ _ _ ?_
  unfold w29_60
  refine ⟨fun q1 q2 q3 v => q1 = u.Name ∧ q2 = u.Low ∧ q3 = u.High ∧ ∃ k : Nat, v = k ∧ k ≤ l.length ∧ ∀ (j : Nat) (b : Pk), j < k → l[j]? = some b → decide (b.Name = u.Name) = false, fun _ _ _ v => (l.length - v).toNat, ⟨rfl, rfl, rfl, 0, rfl, by omega, fun j b hj => by omega⟩, ?_⟩
  rintro _ _ _ v ⟨rfl, rfl, rfl, k, rfl, hk, hj⟩ t ht
  refine ⟨fun h1 => ?_, fun h1 => ?_⟩
  · have hlt : k < l.length := by rw [h1] at ht; have := of_decide_eq_true ht.symm; omega
    refine ⟨by omega, fun a ha => ?_⟩
    have ha' : l[k]? = some a := by simpa using ha
    refine ⟨_, s60 a u, fun he => ?_, fun hne => ⟨by simp only [R64]; omega, ?_⟩⟩
    · show ((k : Int), u) = _
      rw [idx_found ha' he hj]
    · rintro _ rfl
      refine ⟨⟨rfl, rfl, rfl, k + 1, by omega, by omega, fun j b hjk hb => ?_⟩, by dsimp only; omega⟩
      by_cases h2 : j = k
      · subst h2; rw [ha'] at hb; injection hb with hb; subst hb; exact hne
      · exact hj j b (by omega) hb
  · have hge : ¬ ((k : Int) < l.length) := by rw [h1] at ht; exact of_decide_eq_false ht.symm
    show ((-1 : Int), u) = _
    rw [idx_none fun a ha => ?_]
    obtain ⟨j, hj'⟩ := mem_get ha
    exact hj j a (by have := lt_of_get hj'; omega) hj'
theorem s59_60 (l : List Pk) (u : Us) (hl : l.length ≤ 1000000) : sp59_60 l u (hasN l u.Name, u) := by
  refine ok59_60 _ _ _ ⟨_, s29_60 l u hl, ?_⟩
  rintro _ rfl
  show (_, u) = _
  rw [idx_ge]; rfl
def nextStep (P : List Pk) (best : List UInt8) (u : Us) : List UInt8 := if (decide (best = []) || bytesLess u.Name best) && !hasN P u.Name then u.Name else best
def nextB (W : List Us) (P : List Pk) : List UInt8 := W.foldl (nextStep P) []
theorem s38 (s : GSolve_search) (hp : s.picks.length ≤ 1000000) (hw : s.wants.length ≤ 1000000) : sp38_r s (nextB s.wants s.picks, decide (nextB s.wants s.picks ≠ [])) := by
  refine ok38_r _ _ ?_
  unfold w38_r
  refine ⟨fun b v => ∃ k : Nat, v = k ∧ k ≤ s.wants.length ∧ b = nextB (s.wants.take k) s.picks, fun b v => (s.wants.length - v).toNat, ⟨0, rfl, by omega, rfl⟩, ?_⟩
  rintro b v ⟨k, rfl, hk, rfl⟩ t ht
  refine ⟨fun h1 => ?_, fun h1 => ?_⟩
  · have hlt : k < s.wants.length := by rw [h1] at ht; have := of_decide_eq_true ht.symm; omega
    refine ⟨by omega, fun u hu => ?_⟩
    have hu' : s.wants[k]? = some u := by simpa using hu
    have e1 : nextB (s.wants.take (k + 1)) s.picks = nextStep s.picks (nextB (s.wants.take k) s.picks) u := by
      rw [List.take_add_one, hu']
      simp [nextB, List.foldl_append]
    refine ⟨fun q1 q2 q3 q4 => q1 = u.Name ∧ q4 = ((decide (nextB (s.wants.take k) s.picks = []) || bytesLess u.Name (nextB (s.wants.take k) s.picks)) && !hasN s.picks u.Name), ⟨fun h0 => ⟨_, s59_60 s.picks u hp, rfl, by simp [h0]⟩, fun h0 => ?_⟩, ?_⟩
    · rintro _ rfl
      refine ⟨fun h2 => ⟨_, s59_60 s.picks u hp, rfl, by simp [h0, h2]⟩, fun h2 => ⟨rfl, by simp [h0, h2]⟩⟩
    · rintro _ q2 q3 q4 ⟨rfl, rfl⟩
      refine ⟨fun h2 => ⟨by simp only [R64]; omega, ?_⟩, fun h2 => ⟨by simp only [R64]; omega, ?_⟩⟩
      · rintro _ rfl
        refine ⟨⟨k + 1, by omega, by omega, ?_⟩, by dsimp only; omega⟩
        rw [e1, nextStep, if_pos h2]
      · rintro _ rfl
        refine ⟨⟨k + 1, by omega, by omega, ?_⟩, by dsimp only; omega⟩
        rw [e1, nextStep, if_neg (by rw [h2]; decide)]
  · have hge : ¬ ((k : Int) < s.wants.length) := by rw [h1] at ht; exact of_decide_eq_false ht.symm
    rintro _ rfl
    rw [List.take_of_length_le (by omega)]
    show (_, _) = _
    congr 1
    by_cases h : nextB s.wants s.picks = [] <;> simp [h]


def badP (p : Pk) (u : Us) : Bool := decide (p.Name = u.Name) && (decide (p.Version < u.Low) || decide (u.High < p.Version))
def rightF (W : List Us) (P : List Pk) : Bool := !(W.any fun u => P.any fun p => badP p u)
theorem s67 (p : Pk) (u : Us) : sp67 p u (badP p u, u) := by
  refine ok67 _ _ _ ?_
  unfold w67
  refine ⟨fun h => ⟨fun h2 => ?_, fun h2 => ?_⟩, fun h => ?_⟩
  · show (true, u) = _
    simp [badP, h, h2]
  · rintro _ rfl
    show (_, u) = _
    have : ¬ p.Version < u.Low := by omega
    simp [badP, h, this]
  · show (false, u) = _
    simp [badP, h]
theorem s29_67 (l : List Pk) (u : Us) (hl : l.length ≤ 1000000) : sp29_67 l u (idxF (fun a => badP a u) l, u) := by
  refine ok29_67 _ _ _ ?_
  unfold w29_67
  refine ⟨fun q1 q2 q3 v => q1 = u.Name ∧ q2 = u.Low ∧ q3 = u.High ∧ ∃ k : Nat, v = k ∧ k ≤ l.length ∧ ∀ (j : Nat) (b : Pk), j < k → l[j]? = some b → badP b u = false, fun _ _ _ v => (l.length - v).toNat, ⟨rfl, rfl, rfl, 0, rfl, by omega, fun j b hj => by omega⟩, ?_⟩
  rintro _ _ _ v ⟨rfl, rfl, rfl, k, rfl, hk, hj⟩ t ht
  refine ⟨fun h1 => ?_, fun h1 => ?_⟩
  · have hlt : k < l.length := by rw [h1] at ht; have := of_decide_eq_true ht.symm; omega
    refine ⟨by omega, fun a ha => ?_⟩
    have ha' : l[k]? = some a := by simpa using ha
    refine ⟨_, s67 a u, fun he => ?_, fun hne => ⟨by simp only [R64]; omega, ?_⟩⟩
    · show ((k : Int), u) = _
      rw [idx_found ha' he hj]
    · rintro _ rfl
      refine ⟨⟨rfl, rfl, rfl, k + 1, by omega, by omega, fun j b hjk hb => ?_⟩, by dsimp only; omega⟩
      by_cases h2 : j = k
      · subst h2; rw [ha'] at hb; injection hb with hb; subst hb; exact hne
      · exact hj j b (by omega) hb
  · have hge : ¬ ((k : Int) < l.length) := by rw [h1] at ht; exact of_decide_eq_false ht.symm
    show ((-1 : Int), u) = _
    rw [idx_none fun a ha => ?_]
    obtain ⟨j, hj'⟩ := mem_get ha
    exact hj j a (by have := lt_of_get hj'; omega) hj'
theorem s59_67 (l : List Pk) (u : Us) (hl : l.length ≤ 1000000) : sp59_67 l u (l.any (fun a => badP a u), u) := by
  refine ok59_67 _ _ _ ⟨_, s29_67 l u hl, ?_⟩
  rintro _ rfl
  show (_, u) = _
  rw [idx_ge]
theorem s66 (u : Us) (s : GSolve_search) (hp : s.picks.length ≤ 1000000) : sp66_q u s (s.picks.any (fun a => badP a u), s) :=
  ok66_q _ _ _ ⟨_, s59_67 s.picks u hp, rfl⟩
theorem s86 (l : List Us) (s : GSolve_search) (hl : l.length ≤ 1000000) (hp : s.picks.length ≤ 1000000) : sp86_66_q l s (idxF (fun u => s.picks.any fun a => badP a u) l, s) := by
  refine ok86_66_q _ _ _ ?_
  unfold w86_66_q
  refine ⟨fun q1 q2 q3 q4 v => q1 = s.register ∧ q2 = s.first ∧ q3 = s.picks ∧ q4 = s.wants ∧ ∃ k : Nat, v = k ∧ k ≤ l.length ∧ ∀ (j : Nat) (b : Us), j < k → l[j]? = some b → (s.picks.any fun a => badP a b) = false, fun _ _ _ _ v => (l.length - v).toNat, ⟨rfl, rfl, rfl, rfl, 0, rfl, by omega, fun j b hj => by omega⟩, ?_⟩
  rintro _ _ _ _ v ⟨rfl, rfl, rfl, rfl, k, rfl, hk, hj⟩ t ht
  refine ⟨fun h1 => ?_, fun h1 => ?_⟩
  · have hlt : k < l.length := by rw [h1] at ht; have := of_decide_eq_true ht.symm; omega
    refine ⟨by omega, fun a ha => ?_⟩
    have ha' : l[k]? = some a := by simpa using ha
    refine ⟨_, s66 a s hp, fun he => ?_, fun hne => ⟨by simp only [R64]; omega, ?_⟩⟩
    · show ((k : Int), s) = _
      rw [idx_found ha' he hj]
    · rintro _ rfl
      refine ⟨⟨rfl, rfl, rfl, rfl, k + 1, by omega, by omega, fun j b hjk hb => ?_⟩, by dsimp only; omega⟩
      by_cases h2 : j = k
      · subst h2; rw [ha'] at hb; injection hb with hb; subst hb; exact hne
      · exact hj j b (by omega) hb
  · have hge : ¬ ((k : Int) < l.length) := by rw [h1] at ht; exact of_decide_eq_false ht.symm
    show ((-1 : Int), s) = _
    rw [idx_none fun a ha => ?_]
    obtain ⟨j, hj'⟩ := mem_get ha
    exact hj j a (by have := lt_of_get hj'; omega) hj'
theorem s65 (l : List Us) (s : GSolve_search) (hl : l.length ≤ 1000000) (hp : s.picks.length ≤ 1000000) : sp65_66_q l s (l.any (fun u => s.picks.any fun a => badP a u), s) := by
  refine ok65_66_q _ _ _ ⟨_, s86 l s hl hp, ?_⟩
  rintro _ rfl
  show (_, s) = _
  rw [idx_ge]
theorem s40 (s : GSolve_search) (hw : s.wants.length ≤ 1000000) (hp : s.picks.length ≤ 1000000) : sp40_r s (rightF s.wants s.picks) :=
  ok40_r _ _ ⟨_, s65 s.wants s hw hp, rfl⟩
end Go.Hw.VE

