import Derived.Test.YtcenjonbenlfkaaDoorHwX6
set_option linter.unusedVariables false
set_option linter.unusedSimpArgs false
namespace Go.Hw.VX
open Go Go.Proofs

section
variable {α : Type} (lt : α → α → Bool)
def insB (x : α) (S : List α) : List α := (S.reverse.dropWhile (lt x)).reverse ++ x :: (S.reverse.takeWhile (lt x)).reverse
def isort (l : List α) : List α := l.foldl (fun S x => insB lt x S) []
variable {lt}
theorem insB_eq {x : α} {A B : List α} (hB : ∀ b ∈ B, lt x b = true) (hA : A = [] ∨ ∃ A' a, A = A' ++ [a] ∧ lt x a = false) : insB lt x (A ++ B) = A ++ x :: B := by
  have hB' : ∀ b ∈ B.reverse, lt x b = true := fun b hb => hB b (by simpa using hb)
  unfold insB
  rw [List.reverse_append, List.dropWhile_append_of_pos hB', List.takeWhile_append_of_pos hB']
  rcases hA with rfl | ⟨A', a, rfl, ha⟩
  · simp
  · rw [List.reverse_append]
    simp [List.dropWhile_cons, List.takeWhile_cons, ha]
theorem isort_snoc (l : List α) (x : α) : isort lt (l ++ [x]) = insB lt x (isort lt l) := by simp [isort]
theorem insB_perm (x : α) (S : List α) : (insB lt x S).Perm (x :: S) := by
  have h : S.Perm ((S.reverse.dropWhile (lt x)).reverse ++ (S.reverse.takeWhile (lt x)).reverse) := by
    have h1 : S.reverse = S.reverse.takeWhile (lt x) ++ S.reverse.dropWhile (lt x) := (List.takeWhile_append_dropWhile).symm
    have h2 : S = (S.reverse.dropWhile (lt x)).reverse ++ (S.reverse.takeWhile (lt x)).reverse := by
      rw [← List.reverse_append, ← h1, List.reverse_reverse]
    exact h2 ▸ List.Perm.refl _
  unfold insB
  exact List.perm_middle.trans (List.Perm.cons x h.symm)
theorem fold_perm : ∀ (l S : List α), (l.foldl (fun S x => insB lt x S) S).Perm (S ++ l)
  | [], S => by simp
  | x :: l, S => by
    simp only [List.foldl_cons]
    refine (fold_perm l (insB lt x S)).trans ?_
    exact (List.Perm.append_right l (insB_perm x S)).trans (List.perm_middle (l₁ := S)).symm
theorem isort_perm (l : List α) : (isort lt l).Perm l := by
  have := fold_perm (lt := lt) l []
  rw [List.nil_append] at this
  exact this
theorem isort_len (l : List α) : (isort lt l).length = l.length := (isort_perm l).length_eq
theorem swp (A : List α) (a x : α) (Y : List α) : ((A ++ a :: x :: Y).set (A.length + 1) a).set A.length x = A ++ x :: a :: Y := by
  simp [List.set_append]
end

def cmpI (a b : Int) : Int := if a < b then -1 else if b < a then 1 else 0
def cmpR (a b : R) : Int := if cmpI a.Low b.Low ≠ 0 then cmpI a.Low b.Low else cmpI a.High b.High
theorem s56 (a : Int) : sp56 a false := ok56 a _ (by intro v hv; subst hv; simp)
theorem s37 (a b : Int) : sp37 a b (cmpI a b) := by
  refine ok37 a b _ ⟨false, s56 a, false, s56 b, by simp, ?_⟩
  intro _
  refine ⟨by simp, fun _ => ⟨fun h => ?_, fun h => ⟨fun h2 => ?_, fun h2 => ?_⟩⟩⟩
  · simp [cmpI, h]
  · have : ¬ a < b := by omega
    simp [cmpI, this, h2]
  · have h3 : ¬ a < b := by omega
    have h4 : ¬ b < a := by omega
    simp [cmpI, h3, h4]
theorem s36 (a b : Int) : sp36 [a, b] (if a ≠ 0 then a else b) := by
  refine ok36 [a, b] _ ⟨fun i => 0 ≤ i ∧ i ≤ 2 ∧ (0 < i → a = 0) ∧ (1 < i → b = 0), fun i => (2 - i).toNat, ⟨by omega, by omega, by omega, by omega⟩, ?_⟩
  rintro i ⟨h0, h2, h3, h4⟩ v hv
  subst hv
  refine ⟨fun hi => ?_, fun hi => ?_⟩
  · simp at hi
    refine ⟨⟨h0, by simpa using hi⟩, fun x hx => ?_⟩
    have : i = 0 ∨ i = 1 := by omega
    rcases this with rfl | rfl
    · simp at hx; subst hx
      exact ⟨fun h => by simp [h], fun h => ⟨by unfold R64; omega, fun v hv => by subst hv; exact ⟨⟨by omega, by omega, fun _ => h, by omega⟩, by simp⟩⟩⟩
    · simp at hx; subst hx
      have ha := h3 (by omega)
      exact ⟨fun h => by simp [ha], fun h => ⟨by unfold R64; omega, fun v hv => by subst hv; exact ⟨⟨by omega, by omega, fun _ => ha, fun _ => h⟩, by simp⟩⟩⟩
  · simp at hi
    have ha := h3 (by omega)
    have hb := h4 (by omega)
    simp [ha, hb]
theorem s35 (a b : R) : sp35 a b (cmpR a b) := by
  refine ok35 a b _ ⟨_, s37 _ _, _, s37 _ _, _, s36 _ _, ?_⟩
  simp [cmpR]

def ltB (a b : R) : Bool := decide (cmpR a b < 0)
theorem ltR (a b : R) : ltB a b = decide (a.Low < b.Low ∨ (a.Low = b.Low ∧ a.High < b.High)) := by
  unfold ltB cmpR cmpI
  rw [decide_eq_decide]
  split <;> rename_i h <;> (repeat' split at h) <;> (repeat' split) <;> omega
theorem at_snoc {α : Type} {A : List α} {x : α} {Y : List α} : (A ++ x :: Y)[A.length]? = some x := by simp
theorem get_in {α : Type} {A : List α} {a x : α} {Y : List α} : (A ++ a :: x :: Y)[A.length + 1]? = some x := by
  rw [List.getElem?_append_right (by omega)]; simp
theorem split_last {α : Type} (A : List α) (h : A ≠ []) : ∃ A' a, A = A' ++ [a] := ⟨A.dropLast, A.getLast h, (List.dropLast_concat_getLast h).symm⟩
theorem s70 (p : List R) (hp : p.length ≤ 1000) : sp70_35 p 0 p.length (isort ltB p) := by
  refine ok70_35 _ _ _ _ ?_
  unfold w70_35
  refine ⟨by decide, ?_⟩
  rintro _ rfl
  refine ⟨fun l v => ∃ i : Nat, v = i ∧ 1 ≤ i ∧ i ≤ p.length + 1 ∧ l = isort ltB (p.take i) ++ p.drop i, fun l v => (p.length + 1 - v).toNat, ⟨1, rfl, by omega, by omega, ?_⟩, ?_⟩
  · cases p with
    | nil => rfl
    | cons a l => simp [isort, insB]
  rintro l v ⟨i, rfl, hi1, hi2, rfl⟩
  refine ⟨fun hlt => ?_, fun hge => ?_⟩
  · have hi : i < p.length := by omega
    obtain ⟨x, hx⟩ : ∃ x, p[i]? = some x := ⟨_, List.getElem?_eq_getElem hi⟩
    have hdrop : p.drop i = x :: p.drop (i + 1) := by
      obtain ⟨h1, rfl⟩ := List.getElem?_eq_some_iff.1 hx
      exact List.drop_eq_getElem_cons h1
    have htake : p.take (i + 1) = p.take i ++ [x] := by rw [List.take_add_one, hx]; rfl
    have hS : (isort ltB (p.take i)).length = i := by rw [isort_len]; simp; omega
    rw [hdrop]
    generalize hR : p.drop (i + 1) = R
    have hRl : i + 1 + R.length = p.length := by rw [← hR]; simp; omega
    generalize hSe : isort ltB (p.take i) = S at hS
    refine ⟨fun l v => l = insB ltB x S ++ R, ?_, ?_⟩
    · refine ⟨fun l v => ∃ A B, S = A ++ B ∧ l = A ++ x :: (B ++ R) ∧ v = (A.length : Int) ∧ ∀ b ∈ B, ltB x b = true, fun l v => v.toNat, ⟨S, [], by simp, by simp, by omega, nofun⟩, ?_⟩
      rintro l v ⟨A, B, rfl, rfl, rfl, hB⟩
      have hAB : A.length + B.length = i := by simpa using hS
      refine ⟨fun h0 => ?_, fun h0 => ?_⟩
      · have hA0 : A ≠ [] := by intro e; subst e; simp at h0
        obtain ⟨A', a, rfl⟩ := split_last A hA0
        simp only [List.length_append, List.length_cons, List.length_nil, Nat.zero_add] at hAB h0 ⊢
        have hq : ((A'.length + 1 : Nat) : Int).toNat = A'.length + 1 := by omega
        have hq1 : (((A'.length + 1 : Nat) : Int) - 1).toNat = A'.length := by omega
        have e1 : A' ++ [a] ++ x :: (B ++ R) = A' ++ a :: x :: (B ++ R) := by simp
        rw [e1]
        have hlen : (A' ++ a :: x :: (B ++ R)).length = p.length := by simp; omega
        rw [hq]
        refine ⟨⟨by omega, by omega⟩, by omega, fun y hy => ?_⟩
        rw [get_in] at hy; injection hy with hy; subst hy
        refine ⟨by simp only [R64]; omega, ?_⟩
        rintro _ rfl
        rw [hq1]
        refine ⟨⟨by omega, by omega⟩, by omega, fun y hy => ?_⟩
        rw [at_snoc] at hy; injection hy with hy; subst hy
        refine ⟨_, s35 _ _, fun hl => ⟨by simp only [R64]; omega, ?_⟩, fun hl => ?_⟩
        · rintro _ rfl
          refine ⟨by simp only [R64]; omega, ?_⟩
          rintro _ rfl
          rw [hq1]
          refine ⟨⟨by omega, by omega⟩, by omega, fun y hy => ?_⟩
          rw [at_snoc] at hy; injection hy with hy; subst hy
          refine ⟨⟨by omega, by omega⟩, by omega, fun y hy => ?_⟩
          rw [get_in] at hy; injection hy with hy; subst hy
          refine ⟨⟨by omega, by omega⟩, by omega, fun _ _ => ?_⟩
          rintro _ rfl
          refine ⟨⟨by omega, by omega⟩, by rw [List.length_set]; omega, fun _ _ => ?_⟩
          rintro _ rfl
          refine ⟨by simp only [R64]; omega, ?_⟩
          rintro _ rfl
          refine ⟨⟨A', a :: B, by simp, ?_, by omega, fun b hb => ?_⟩, by omega⟩
          · rw [swp]; rfl
          · rcases List.mem_cons.1 hb with rfl | hb
            · simp only [ltB]; exact decide_eq_true hl
            · exact hB b hb
        · rw [insB_eq hB (.inr ⟨A', a, rfl, by simp only [ltB]; exact decide_eq_false (by omega)⟩)]
          simp
      · have hA0 : A = [] := List.eq_nil_of_length_eq_zero (by omega)
        subst hA0
        rw [insB_eq hB (.inl rfl)]
        simp
    · rintro l v rfl
      refine ⟨by simp only [R64]; omega, ?_⟩
      rintro _ rfl
      refine ⟨⟨i + 1, by omega, by omega, by omega, ?_⟩, by dsimp only; omega⟩
      rw [htake, isort_snoc, hSe, hR]
  · have hi : p.length ≤ i := by omega
    rw [List.take_of_length_le hi, List.drop_of_length_le hi, List.append_nil]
theorem s54 (p : List R) (n : Int) (hp : p.length ≤ 12) : sp54_35 p 0 p.length n (isort ltB p) := by
  refine ok54_35 _ _ _ _ _ ?_
  unfold w54_35
  refine ⟨fun a b c d e => a = 0 ∧ b = p.length, fun _ _ _ _ _ => 0, ⟨rfl, rfl⟩, ?_⟩
  rintro _ _ c d e ⟨rfl, rfl⟩
  refine ⟨by simp only [R64]; omega, ?_⟩
  rintro _ rfl
  exact ⟨fun _ => ⟨_, s70 p (by omega), rfl⟩, fun h => by omega⟩
theorem s34 (p : List R) (hp : p.length ≤ 12) : sp34_35 p (isort ltB p) := by
  obtain ⟨r, hr⟩ := s55 p.length hp
  refine ok34_35 _ _ ?_
  unfold w34_35
  rintro _ rfl
  have hw : IntKind.wrap .u64 (p.length : Int) = p.length := by
    simp only [IntKind.wrap, IntKind.signed, IntKind.bits]
    simp
    omega
  rw [hw]
  exact ⟨r, hr, _, s54 p r hp, rfl⟩
def sortR (l : List R) : List R := isort ltB l
theorem sortR_perm (l : List R) : (sortR l).Perm l := isort_perm l
def leR (a b : R) : Prop := ltB b a = false
theorem leR_tr {a b c : R} (h1 : leR a b) (h2 : leR b c) : leR a c := by
  unfold leR at *; rw [ltR] at *; simp at *; omega
theorem leR_of {a b : R} (h : ltB a b = true) : leR a b := by
  unfold leR; rw [ltR] at *; simp at *; omega
theorem ins_sorted (x : R) (S : List R) (h : S.Pairwise leR) : (insB ltB x S).Pairwise leR := by
  have h1 : S = (S.reverse.dropWhile (ltB x)).reverse ++ (S.reverse.takeWhile (ltB x)).reverse := by
    rw [← List.reverse_append, List.takeWhile_append_dropWhile, List.reverse_reverse]
  unfold insB
  have hB : ∀ b ∈ (S.reverse.takeWhile (ltB x)).reverse, leR x b := fun b hb => by
    have := List.all_takeWhile (p := ltB x) (l := S.reverse)
    rw [List.all_eq_true] at this
    exact leR_of (this b (by simpa using hb))
  have hA : ∀ a ∈ (S.reverse.dropWhile (ltB x)).reverse, leR a x := fun a ha => by
    cases hd : S.reverse.dropWhile (ltB x) with
    | nil => rw [hd] at ha; simp at ha
    | cons z r =>
      have hz : ltB x z = false := by
        have := List.head?_dropWhile_not (p := ltB x) (l := S.reverse)
        rw [hd] at this; simpa using this
      rw [hd] at ha
      have hs : (S.reverse.dropWhile (ltB x)).reverse.Pairwise leR := by
        rw [h1] at h; exact (List.pairwise_append.1 h).1
      rw [hd, List.reverse_cons, List.pairwise_append] at hs
      rw [List.reverse_cons] at ha
      rcases List.mem_append.1 ha with ha | ha
      · exact leR_tr (hs.2.2 a ha z (by simp)) hz
      · obtain rfl := List.mem_singleton.1 ha
        exact hz
  generalize (S.reverse.dropWhile (ltB x)).reverse = A at *
  generalize (S.reverse.takeWhile (ltB x)).reverse = B at *
  rw [h1, List.pairwise_append] at h
  obtain ⟨k1, k2, k3⟩ := h
  rw [List.pairwise_append]
  refine ⟨k1, List.pairwise_cons.2 ⟨hB, k2⟩, fun a ha b hb => ?_⟩
  rcases List.mem_cons.1 hb with rfl | hb
  · exact hA a ha
  · exact k3 a ha b hb
theorem fold_sorted : ∀ (l S : List R), S.Pairwise leR → (l.foldl (fun S x => insB ltB x S) S).Pairwise leR
  | [], _, h => h
  | x :: l, S, h => fold_sorted l _ (ins_sorted x S h)
theorem sortR_low (l : List R) : (sortR l).Pairwise (fun a b => a.Low ≤ b.Low) := by
  refine (fold_sorted l [] .nil).imp fun {a b} h => ?_
  unfold leR at h; rw [ltR] at h; simp at h; omega
def okR (r : R) : Prop := 1 ≤ r.Low ∧ r.Low ≤ r.High ∧ r.High ≤ 9999
def gapR (a b : R) : Prop := a.High + 1 < b.Low
def Can (l : List R) : Prop := (∀ r ∈ l, okR r) ∧ l.Pairwise gapR
def inR (l : List R) (v : Int) : Prop := ∃ r ∈ l, r.Low ≤ v ∧ v ≤ r.High
theorem inR_nil (v : Int) : ¬ inR [] v := by rintro ⟨r, h, _⟩; cases h
theorem inR_cons (r : R) (l : List R) (v : Int) : inR (r :: l) v ↔ (r.Low ≤ v ∧ v ≤ r.High) ∨ inR l v := by
  constructor
  · rintro ⟨x, h, h2⟩
    rcases List.mem_cons.1 h with rfl | h
    · exact .inl h2
    · exact .inr ⟨x, h, h2⟩
  · rintro (h | ⟨x, h, h2⟩)
    · exact ⟨r, by simp, h⟩
    · exact ⟨x, by simp [h], h2⟩
theorem Can.tail {r : R} {l : List R} (h : Can (r :: l)) : Can l := ⟨fun x hx => h.1 x (by simp [hx]), h.2.tail⟩
theorem Can.range {l : List R} (h : Can l) {v : Int} (hv : inR l v) : 1 ≤ v ∧ v ≤ 9999 := by
  obtain ⟨r, h1, h2⟩ := hv
  have := h.1 r h1
  unfold okR at this
  omega
theorem Can.above {r : R} {l : List R} (h : Can (r :: l)) {v : Int} (hv : inR l v) : r.High + 1 < v := by
  obtain ⟨x, h1, h2⟩ := hv
  have := (List.pairwise_cons.1 h.2).1 x h1
  unfold gapR at this
  omega

def stepR : List R → R → List R
  | [], r => [r]
  | a :: t, r => if r.Low ≤ a.High + 1 then ⟨a.Low, max a.High r.High⟩ :: t else r :: a :: t
theorem step_ok {acc : List R} {r : R} (h : ∀ x ∈ acc, okR x) (hr : okR r) : ∀ x ∈ stepR acc r, okR x := by
  intro x hx
  unfold stepR at hx
  split at hx
  · simp at hx; subst hx; exact hr
  · rename_i a t
    have ha := h a (by simp)
    split at hx
    · rcases List.mem_cons.1 hx with rfl | hx
      · unfold okR at *; simp only; omega
      · exact h x (by simp [hx])
    · rcases List.mem_cons.1 hx with rfl | hx
      · exact hr
      · exact h x hx
theorem step_len (acc : List R) (r : R) : (stepR acc r).length ≤ acc.length + 1 := by
  unfold stepR
  split
  · simp
  · split <;> simp
theorem fold_ok : ∀ {l acc : List R}, (∀ x ∈ acc, okR x) → (∀ x ∈ l, okR x) → ∀ x ∈ l.foldl stepR acc, okR x
  | [], acc, h, _, x, hx => h x hx
  | r :: l, acc, h, hl, x, hx => fold_ok (l := l) (step_ok h (hl r (by simp))) (fun y hy => hl y (by simp [hy])) x hx
theorem fold_len : ∀ (l acc : List R), (l.foldl stepR acc).length ≤ acc.length + l.length
  | [], acc => by simp
  | r :: l, acc => by
    have h1 := fold_len l (stepR acc r)
    have h2 := step_len acc r
    simp only [List.foldl_cons, List.length_cons]
    omega
theorem fold_can : ∀ {l acc : List R}, (∀ x ∈ acc, okR x) → (∀ x ∈ l, okR x) → acc.Pairwise (fun a b => gapR b a) → l.Pairwise (fun a b => a.Low ≤ b.Low) → (∀ a ∈ acc, ∀ r ∈ l, a.Low ≤ r.Low) →
    (l.foldl stepR acc).Pairwise (fun a b => gapR b a) ∧ ∀ v, inR (l.foldl stepR acc) v ↔ inR acc v ∨ inR l v
  | [], acc, _, _, hp, _, _ => ⟨hp, fun v => ⟨.inl, fun h => h.elim id fun h => absurd h (inR_nil v)⟩⟩
  | r :: l, acc, ha, hl, hp, hs, hc => by
    have hr := hl r (by simp)
    have hs' := List.pairwise_cons.1 hs
    have key : (stepR acc r).Pairwise (fun a b => gapR b a) ∧ (∀ a ∈ stepR acc r, ∀ x ∈ l, a.Low ≤ x.Low) ∧ ∀ v, inR (stepR acc r) v ↔ inR acc v ∨ (r.Low ≤ v ∧ v ≤ r.High) := by
      cases acc with
      | nil =>
        refine ⟨by simp [stepR], fun a hm x hx => ?_, fun v => ?_⟩
        · simp [stepR] at hm; subst hm; exact hs'.1 x hx
        · simp only [stepR]
          rw [inR_cons]
          constructor
          · rintro (h | h)
            · exact .inr h
            · exact .inl h
          · rintro (h | h)
            · exact .inr h
            · exact .inl h
      | cons a t =>
        have hat := List.pairwise_cons.1 hp
        have har := hc a (by simp) r (by simp)
        have hao := ha a (by simp)
        unfold okR at hr hao
        by_cases hlow : r.Low ≤ a.High + 1
        · simp only [stepR, if_pos hlow]
          refine ⟨List.pairwise_cons.2 ⟨fun b hb => hat.1 b hb, hat.2⟩, fun x hm y hy => ?_, fun v => ?_⟩
          · rcases List.mem_cons.1 hm with rfl | hm
            · exact hc a (by simp) y (by simp [hy])
            · exact hc x (by simp [hm]) y (by simp [hy])
          · rw [inR_cons, inR_cons]
            constructor
            · rintro (h | h)
              · simp only at h
                by_cases hv : v ≤ a.High
                · exact .inl (.inl ⟨h.1, hv⟩)
                · exact .inr ⟨by omega, by omega⟩
              · exact .inl (.inr h)
            · rintro ((h | h) | h)
              · exact .inl ⟨h.1, by simp only; omega⟩
              · exact .inr h
              · exact .inl ⟨by simp only; omega, by simp only; omega⟩
        · simp only [stepR, if_neg hlow]
          refine ⟨List.pairwise_cons.2 ⟨fun b hb => ?_, hp⟩, fun x hm y hy => ?_, fun v => ?_⟩
          · rcases List.mem_cons.1 hb with rfl | hb
            · unfold gapR; omega
            · have := hat.1 b hb; unfold gapR at *; omega
          · rcases List.mem_cons.1 hm with rfl | hm
            · exact hs'.1 y hy
            · exact hc x hm y (by simp [hy])
          · rw [inR_cons]
            exact ⟨fun h => h.symm, fun h => h.symm⟩
    obtain ⟨k1, k2, k3⟩ := key
    obtain ⟨e1, e2⟩ := fold_can (l := l) (acc := stepR acc r) (step_ok ha hr) (fun y hy => hl y (by simp [hy])) k1 hs'.2 k2
    refine ⟨e1, fun v => ?_⟩
    rw [List.foldl_cons, e2 v, k3 v, inR_cons, or_assoc]

def setF (l : List R) : List R := ((sortR l).foldl stepR []).reverse
theorem setF_spec {l : List R} (h : ∀ r ∈ l, okR r) : Can (setF l) ∧ (∀ v, inR (setF l) v ↔ inR l v) ∧ (setF l).length ≤ l.length := by
  have hok : ∀ x ∈ sortR l, okR x := fun x hx => h x ((sortR_perm l).mem_iff.1 hx)
  obtain ⟨e1, e2⟩ := fold_can (l := sortR l) (acc := []) (by simp) hok .nil (sortR_low l) (by simp)
  have hlen := fold_len (sortR l) []
  refine ⟨⟨fun r hr => fold_ok (by simp) hok r (List.mem_reverse.1 hr), List.pairwise_reverse.2 e1⟩, fun v => ?_, ?_⟩
  · have : inR (setF l) v ↔ inR ((sortR l).foldl stepR []) v := by
      unfold inR setF
      simp
    rw [this, e2 v]
    constructor
    · rintro (h | ⟨r, h1, h2⟩)
      · exact absurd h (inR_nil v)
      · exact ⟨r, (sortR_perm l).mem_iff.1 h1, h2⟩
    · rintro ⟨r, h1, h2⟩
      exact .inr ⟨r, (sortR_perm l).mem_iff.2 h1, h2⟩
  · rw [(sortR_perm l).length_eq] at hlen
    simpa [setF] using hlen

theorem at_nat {α : Type} {l : List α} {i : Int} {a : α} (h0 : 0 ≤ i) (h : l[i.toNat]? = some a) : i < (l.length : Int) ∧ l.take (i + 1).toNat = l.take i.toNat ++ [a] ∧ a ∈ l := by
  have h1 := (List.getElem?_eq_some_iff.1 h).1
  refine ⟨by omega, ?_, List.mem_of_getElem? h⟩
  rw [show (i + 1).toNat = i.toNat + 1 by omega, List.take_add_one, h]
  rfl
theorem all_nat {α : Type} {l : List α} {i : Int} (h0 : (l.length : Int) ≤ i) : l.take i.toNat = l := List.take_of_length_le (by omega)

theorem s33m (l : List R) (h : l.length ≤ 1000) : sp33m l l := by
  refine ok33m l _ ⟨fun h0 => ?_, by omega, fun v hv => ?_⟩
  · exact (List.eq_nil_of_length_eq_zero h0).symm
  · exact hv
theorem s16 {l : List R} (hc : Can l) (h : l.length ≤ 50) : sp16 l 0 := by
  refine ok16 l _ ⟨fun h0 => by omega, fun _ => ⟨fun i => 0 ≤ i ∧ i ≤ l.length, fun i => ((l.length : Int) - i).toNat, ⟨by omega, by omega⟩, ?_⟩⟩
  rintro i ⟨h0, h1⟩ v rfl
  refine ⟨fun hi => ?_, fun _ => rfl⟩
  simp at hi
  refine ⟨⟨h0, hi⟩, fun a ha => ?_⟩
  obtain ⟨_, _, hm⟩ := at_nat h0 ha
  have ho := hc.1 a hm
  unfold okR at ho
  refine ⟨fun h => by omega, fun _ => ⟨fun h => by omega, fun _ => ⟨fun h => by omega, fun _ => ⟨fun hp => ?_, fun _ => ?_⟩⟩⟩⟩
  · refine ⟨by unfold R64; omega, fun j hj => ?_⟩
    subst hj
    refine ⟨⟨by omega, by omega⟩, fun b hb => ?_⟩
    obtain ⟨_, _, hmb⟩ := at_nat (by omega) hb
    have hob := hc.1 b hmb
    unfold okR at hob
    refine ⟨by unfold R64; omega, fun k hk => ?_⟩
    subst hk
    obtain ⟨q1, q2⟩ := List.getElem?_eq_some_iff.1 ha
    obtain ⟨q3, q4⟩ := List.getElem?_eq_some_iff.1 hb
    have hg := List.pairwise_iff_getElem.1 hc.2 _ _ q3 q1 (by omega)
    rw [q2, q4] at hg
    unfold gapR at hg
    refine ⟨fun h => by omega, fun _ => ⟨by unfold R64; omega, fun k hk => ?_⟩⟩
    subst hk
    exact ⟨⟨by omega, by omega⟩, by simp only; omega⟩
  · refine ⟨by unfold R64; omega, fun k hk => ?_⟩
    subst hk
    exact ⟨⟨by omega, by omega⟩, by simp only; omega⟩

theorem s15 {l : List R} (hok : ∀ r ∈ l, okR r) (h : l.length ≤ 12) : sp15 l (setF l, 0) := by
  refine ok15 l _ ⟨fun i => 0 ≤ i ∧ i ≤ l.length, fun i => ((l.length : Int) - i).toNat, ⟨by omega, by omega⟩, ?_⟩
  rintro i ⟨h0, h1⟩ v rfl
  refine ⟨fun hi => ?_, fun _ => ?_⟩
  · simp at hi
    refine ⟨⟨h0, hi⟩, fun a ha => ?_⟩
    obtain ⟨_, _, hm⟩ := at_nat h0 ha
    have ho := hok a hm
    unfold okR at ho
    refine ⟨fun h => by omega, fun _ => ⟨fun h => by omega, fun _ => ⟨fun h => by omega, fun _ => ?_⟩⟩⟩
    refine ⟨by unfold R64; omega, fun k hk => ?_⟩
    subst hk
    exact ⟨⟨by omega, by omega⟩, by simp only; omega⟩
  have hsl : (sortR l).length = l.length := (sortR_perm l).length_eq
  have hso : ∀ r ∈ sortR l, okR r := fun r hr => hok r ((sortR_perm l).mem_iff.1 hr)
  refine ⟨l, s33m l (by omega), sortR l, s34 l (by omega), ?_⟩
  refine ⟨fun out n i => 0 ≤ i ∧ i ≤ (sortR l).length ∧ n = out.length ∧ out = (((sortR l).take i.toNat).foldl stepR []).reverse, fun _ _ i => (((sortR l).length : Int) - i).toNat, ⟨by omega, by omega, rfl, by simp⟩, ?_⟩
  rintro out n i ⟨h0, h1, rfl, hout⟩ v rfl
  have hto : ∀ r ∈ (sortR l).take i.toNat, okR r := fun r hr => hso r (List.mem_of_mem_take hr)
  have hacc := fold_ok (acc := []) (l := (sortR l).take i.toNat) (by simp) hto
  have hlen := fold_len ((sortR l).take i.toNat) []
  have htl : ((sortR l).take i.toNat).length ≤ (sortR l).length := by rw [List.length_take]; omega
  have hol : out.length ≤ 50 := by rw [hout, List.length_reverse]; simp at hlen htl; omega
  refine ⟨fun hi => ?_, fun hi => ?_⟩
  · simp at hi
    refine ⟨⟨h0, hi⟩, by omega, fun a ha => ?_⟩
    obtain ⟨_, htk, hm⟩ := at_nat h0 ha
    have ho := hso a hm
    have hao := ho
    unfold okR at ho
    have hae : (GVersion_Range.mk a.Low a.High : R) = a := rfl
    refine ⟨fun hp => ?_, fun hp => ?_⟩
    · refine ⟨by unfold R64; omega, fun j hj => ?_⟩
      subst hj
      cases hq : ((sortR l).take i.toNat).foldl stepR [] with
      | nil => rw [hq] at hout; rw [hout] at hp; simp at hp
      | cons b t =>
        rw [hq] at hout hacc
        have hob := hacc b (by simp)
        unfold okR at hob
        have hol2 : out = t.reverse ++ [b] := by rw [hout]; simp
        have hn : ((out.length : Int) - 1).toNat = t.reverse.length := by rw [hol2]; simp
        have hget : out[((out.length : Int) - 1).toNat]? = some b := by
          rw [hn, hol2]; simp
        refine ⟨⟨by omega, by omega⟩, by omega, fun b' hb' => ?_⟩
        rw [hget] at hb'
        injection hb' with hb'
        subst hb'
        refine ⟨by unfold R64; omega, fun k hk => ?_⟩
        subst hk
        refine ⟨fun hlow => ?_, fun hlow => ?_⟩
        · refine ⟨by unfold R64; omega, fun k hk => ?_⟩
          subst hk
          refine ⟨by unfold R64; omega, fun k hk => ?_⟩
          subst hk
          refine ⟨⟨by omega, by omega⟩, by omega, fun b' hb' => ?_⟩
          rw [hget] at hb'
          injection hb' with hb'
          subst hb'
          intro k hk
          subst hk
          refine ⟨⟨by omega, by omega⟩, by omega, fun b' hb' => ?_⟩
          rw [hget] at hb'
          injection hb' with hb'
          subst hb'
          intro out' hout'
          refine ⟨by unfold R64; omega, fun k hk => ?_⟩
          subst hk
          refine ⟨⟨by omega, by omega, ?_, ?_⟩, by simp only; omega⟩
          · rw [hout', List.length_set]
          · rw [htk, List.foldl_append, hq, hout', hn, hol2]
            simp [stepR, hlow]
        · refine ⟨by omega, by simp; omega, fun out' hout' => ?_⟩
          refine ⟨by unfold R64; omega, fun k hk => ?_⟩
          subst hk
          refine ⟨⟨by omega, by omega, rfl, ?_⟩, by simp only; omega⟩
          rw [htk, List.foldl_append, hq, hout', List.take_length, hol2]
          have : ¬ a.Low ≤ b.High + 1 := by omega
          simp [stepR, this]
    · have hnil : out = [] := List.eq_nil_of_length_eq_zero (by omega)
      have hq : ((sortR l).take i.toNat).foldl stepR [] = [] := by
        rw [hnil] at hout
        have := congrArg List.reverse hout
        simpa using this.symm
      refine ⟨by omega, by simp; omega, fun out' hout' => ?_⟩
      refine ⟨by unfold R64; omega, fun k hk => ?_⟩
      subst hk
      refine ⟨⟨by omega, by omega, rfl, ?_⟩, by simp only; omega⟩
      rw [htk, List.foldl_append, hq, hout', hnil]
      simp [stepR]
  · simp at hi
    refine ⟨fun h => by omega, fun _ => ⟨rfl, ?_⟩⟩
    rw [all_nat (by omega)] at hout
    rw [hout]
    rfl


def rest (n m : Int) : Int := (if n < 0 then -(n + 1) else n).tmod m
theorem s13 {n m : Int} (h : R64 n) (hm : m ≠ 0) : sp13 n m (rest n m) := by
  unfold R64 at h
  refine ok13 n m _ ⟨fun v => v = if n < 0 then -(n + 1) else n, ⟨fun hn => ?_, fun hn => ?_⟩, ?_⟩
  · refine ⟨by unfold R64; omega, fun v hv => ?_⟩
    subst hv
    refine ⟨by omega, fun v hv => ?_⟩
    rw [if_pos hn]; exact hv
  · rw [if_neg (by omega)]
  · rintro v rfl
    exact ⟨hm, fun v hv => hv⟩
theorem rest_range (n : Int) {m : Int} (hm : 0 < m) : 0 ≤ rest n m ∧ rest n m < m := by
  unfold rest
  have h : 0 ≤ (if n < 0 then -(n + 1) else n) := by split <;> omega
  rw [Int.tmod_eq_emod_of_nonneg h]
  exact ⟨Int.emod_nonneg _ (by omega), Int.emod_lt_of_pos _ hm⟩
def rawR (r : R) : R := ⟨1 + rest r.Low 200, 1 + rest r.Low 200 + rest r.High 20⟩
def rawF (l : List R) : List R := (l.take 12).map rawR
theorem rawR_ok (r : R) : okR (rawR r) := by
  have h1 := rest_range r.Low (m := 200) (by omega)
  have h2 := rest_range r.High (m := 20) (by omega)
  unfold okR rawR
  simp only
  omega
theorem rawF_ok (l : List R) : (∀ r ∈ rawF l, okR r) ∧ (rawF l).length ≤ 12 := by
  refine ⟨fun r hr => ?_, by simp [rawF, List.length_take]; omega⟩
  obtain ⟨x, _, rfl⟩ := List.mem_map.1 hr
  exact rawR_ok x
def setOf (l : List R) : List R := setF (rawF l)
theorem setOf_spec (l : List R) : Can (setOf l) ∧ (setOf l).length ≤ 12 := by
  obtain ⟨h1, h2⟩ := rawF_ok l
  obtain ⟨e1, _, e3⟩ := setF_spec h1
  exact ⟨e1, by unfold setOf; omega⟩
theorem s5 {l : List R} (h : ∀ r ∈ l, R64 r.Low ∧ R64 r.High) (hl : l.length < 2 ^ 62) : sp5 l (setOf l, true) := by
  refine ok5 l _ ⟨fun out i => 0 ≤ i ∧ i ≤ l.length ∧ out = rawF (l.take i.toNat), fun _ i => ((l.length : Int) - i).toNat, ⟨by omega, by omega, by simp [rawF]⟩, ?_⟩
  rintro out i ⟨h0, h1, rfl⟩ v rfl
  have hrl := (rawF_ok (l.take i.toNat)).2
  refine ⟨fun hi => ?_, fun hi => ?_⟩
  · simp at hi
    refine ⟨⟨h0, hi⟩, fun a ha => ?_⟩
    obtain ⟨_, htk, hm⟩ := at_nat h0 ha
    obtain ⟨q1, q2⟩ := h a hm
    have r1 := rest_range a.Low (m := 200) (by omega)
    have r2 := rest_range a.High (m := 20) (by omega)
    refine ⟨fun h12 => ?_, fun h12 => ?_⟩
    · refine ⟨_, s13 q1 (by omega), by unfold R64; omega, fun v hv => ?_⟩
      subst hv
      refine ⟨_, s13 q2 (by omega), by unfold R64; omega, fun v hv => ?_⟩
      subst hv
      refine ⟨by simp; omega, fun o ho => ?_⟩
      refine ⟨by unfold R64; omega, fun v hv => ?_⟩
      subst hv
      refine ⟨⟨by omega, by omega, ?_⟩, by simp only; omega⟩
      rw [ho, htk]
      unfold rawF
      have e1 : (l.take i.toNat).take 12 = l.take i.toNat := List.take_of_length_le (by rw [List.length_take]; omega)
      have e2 : (l.take i.toNat ++ [a]).take 12 = l.take i.toNat ++ [a] := List.take_of_length_le (by simp [List.length_take]; omega)
      rw [e1, e2, List.map_append]
      rfl
    · refine ⟨by unfold R64; omega, fun v hv => ?_⟩
      subst hv
      refine ⟨⟨by omega, by omega, ?_⟩, by simp only; omega⟩
      unfold rawF
      rw [List.take_take, List.take_take, show min 12 (i + 1).toNat = 12 by omega, show min 12 i.toNat = 12 by omega]
  · simp at hi
    rw [all_nat (by omega)] at hrl ⊢
    obtain ⟨k1, k2⟩ := setOf_spec l
    refine ⟨_, s15 (rawF_ok l).1 (by omega), fun _ => ⟨_, s16 k1 (by unfold setOf at k2; simp only; omega), ?_⟩, fun h => absurd rfl h⟩
    rintro v rfl
    rfl

theorem s9 (a b : List R) (hl : a.length < 2 ^ 62) : sp9 a b (decide (a = b)) := by
  refine ok9 a b _ ⟨fun h => ?_, fun hlen => ?_⟩
  · exact (decide_eq_false fun e => h (by rw [e])).symm
  · refine ⟨fun i => 0 ≤ i ∧ i ≤ a.length ∧ a.take i.toNat = b.take i.toNat, fun i => ((a.length : Int) - i).toNat, ⟨by omega, by omega, by simp⟩, ?_⟩
    rintro i ⟨h0, h1, he⟩ v rfl
    refine ⟨fun hi => ?_, fun hi => ?_⟩
    · simp at hi
      refine ⟨⟨h0, hi⟩, fun x hx => ⟨⟨h0, by omega⟩, fun y hy => ⟨fun hne => ?_, fun heq => ?_⟩⟩⟩
      · refine (decide_eq_false fun e => hne ?_).symm
        rw [e, hy] at hx
        injection hx with hx
        exact hx.symm
      · subst heq
        refine ⟨by unfold R64; omega, fun w hw => ?_⟩
        subst hw
        refine ⟨⟨by omega, by omega, ?_⟩, by simp only; omega⟩
        rw [(at_nat h0 hx).2.1, (at_nat h0 hy).2.1, he]
    · simp at hi
      rw [all_nat (by omega), all_nat (by omega)] at he
      simp [he]

theorem s23 (r : R) (v : Int) : sp23 r v (decide (r.Low ≤ v ∧ v ≤ r.High), v) := by
  refine ok23 r v _ ⟨fun h => ?_, fun h => ?_⟩
  · rintro w rfl
    simp [h]
  · have : ¬ r.Low ≤ v := by omega
    simp [this]
theorem s10 (l : List R) (v : Int) (hl : l.length < 2 ^ 62) [Decidable (inR l v)] : sp10 l v (decide (inR l v)) := by
  have h46 : ∃ i : Int, sp43_23 l v (i, v) ∧ (0 ≤ i ↔ inR l v) := by
    by_cases hin : inR l v
    · have hf : (l.findIdx? fun r => decide (r.Low ≤ v ∧ v ≤ r.High)).isSome = true := by
        rw [List.findIdx?_isSome, List.any_eq_true]
        obtain ⟨r, h1, h2⟩ := hin
        exact ⟨r, h1, by simpa using h2⟩
      obtain ⟨k, hk⟩ := Option.isSome_iff_exists.1 hf
      obtain ⟨hk1, hk2, hk3⟩ := List.findIdx?_eq_some_iff_getElem.1 hk
      refine ⟨k, ?_, by simp [hin]⟩
      refine ok43_23 l v _ ⟨fun w i => w = v ∧ 0 ≤ i ∧ i ≤ k, fun _ i => ((l.length : Int) - i).toNat, ⟨rfl, by omega, by omega⟩, ?_⟩
      rintro w i ⟨rfl, h0, h1⟩ b rfl
      refine ⟨fun hi => ?_, fun hi => by simp at hi; omega⟩
      simp at hi
      refine ⟨⟨h0, hi⟩, fun r hr => ⟨_, s23 r w, fun ht => ?_, fun hf => ?_⟩⟩
      · simp at ht
        have : i = k := by
          by_cases hlt : i < k
          · obtain ⟨q1, q2⟩ := List.getElem?_eq_some_iff.1 hr
            have := hk3 i.toNat (by omega)
            rw [q2] at this
            simp at this
            omega
          · omega
        simp [this]
      · simp at hf
        refine ⟨by unfold R64; omega, fun w hw => ?_⟩
        subst hw
        refine ⟨⟨rfl, by omega, ?_⟩, by simp only; omega⟩
        by_cases hik : i = k
        · subst hik
          obtain ⟨q1, q2⟩ := List.getElem?_eq_some_iff.1 hr
          simp only [Int.toNat_natCast] at q2
          rw [q2] at hk2
          simp at hk2
          omega
        · omega
    · refine ⟨-1, ?_, by simp [hin]⟩
      refine ok43_23 l v _ ⟨fun w i => w = v ∧ 0 ≤ i ∧ i ≤ l.length, fun _ i => ((l.length : Int) - i).toNat, ⟨rfl, by omega, by omega⟩, ?_⟩
      rintro w i ⟨rfl, h0, h1⟩ b rfl
      refine ⟨fun hi => ?_, fun hi => rfl⟩
      simp at hi
      refine ⟨⟨h0, hi⟩, fun r hr => ⟨_, s23 r w, fun ht => ?_, fun hf => ?_⟩⟩
      · simp at ht
        exact absurd ⟨r, (at_nat h0 hr).2.2, ht⟩ hin
      · refine ⟨by unfold R64; omega, fun w hw => ?_⟩
        subst hw
        exact ⟨⟨rfl, by omega, by omega⟩, by simp only; omega⟩
  obtain ⟨i, h1, h2⟩ := h46
  refine ok10 l v _ ⟨(decide (0 ≤ i), v), ok22_23 l v _ ⟨_, h1, ?_⟩, ?_⟩
  · rintro b rfl
    simp
  · simp only [decide_eq_decide]
    exact h2
end Go.Hw.VX

