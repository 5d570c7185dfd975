import Derived.Test.YtcenjonbenlfkaaHwVer1
set_option linter.unusedVariables false
set_option linter.unusedSimpArgs false
namespace Go.Hw.VD
open Go Go.Proofs

def okR (r : R) : Prop := 1 ≤ r.Low ∧ r.Low ≤ r.High ∧ r.High ≤ 9999
def gapR (a b : R) : Prop := a.High + 1 < b.Low
def Can (l : List R) : Prop := (∀ r ∈ l, okR r) ∧ l.Pairwise gapR
def inR (l : List R) (v : Int) : Prop := ∃ r ∈ l, r.Low ≤ v ∧ v ≤ r.High
theorem inR_nil (v : Int) : ¬ inR [] v := by rintro ⟨r, h, _⟩; cases h
theorem inR_cons (r : R) (l : List R) (v : Int) : inR (r :: l) v ↔ (r.Low ≤ v ∧ v ≤ r.High) ∨ inR l v := by
  constructor
  · rintro ⟨x, h, h2⟩
    rcases List.mem_cons.1 h with rfl | h
    · exact .inl h2
    · exact .inr ⟨x, h, h2⟩
  · rintro (h | ⟨x, h, h2⟩)
    · exact ⟨r, by simp, h⟩
    · exact ⟨x, by simp [h], h2⟩
theorem inR_append (a b : List R) (v : Int) : inR (a ++ b) v ↔ inR a v ∨ inR b v := by
  constructor
  · rintro ⟨x, h, h2⟩
    rcases List.mem_append.1 h with h | h
    · exact .inl ⟨x, h, h2⟩
    · exact .inr ⟨x, h, h2⟩
  · rintro (⟨x, h, h2⟩ | ⟨x, h, h2⟩)
    · exact ⟨x, by simp [h], h2⟩
    · exact ⟨x, by simp [h], h2⟩
theorem Can.tail {r : R} {l : List R} (h : Can (r :: l)) : Can l := ⟨fun x hx => h.1 x (by simp [hx]), h.2.tail⟩
theorem Can.range {l : List R} (h : Can l) {v : Int} (hv : inR l v) : 1 ≤ v ∧ v ≤ 9999 := by
  obtain ⟨r, h1, h2⟩ := hv
  have := h.1 r h1
  unfold okR at this
  omega
theorem Can.above {r : R} {l : List R} (h : Can (r :: l)) {v : Int} (hv : inR l v) : r.High + 1 < v := by
  obtain ⟨x, h1, h2⟩ := hv
  have := (List.pairwise_cons.1 h.2).1 x h1
  unfold gapR at this
  omega

theorem uniq : ∀ {a b : List R}, Can a → Can b → (∀ v, inR a v ↔ inR b v) → a = b
  | [], [], _, _, _ => rfl
  | [], s :: b, _, hb, h => by
    have h1 := hb.1 s (by simp)
    unfold okR at h1
    exact absurd ((h s.Low).2 ⟨s, by simp, by omega, by omega⟩) (inR_nil _)
  | r :: a, [], ha, _, h => by
    have h1 := ha.1 r (by simp)
    unfold okR at h1
    exact absurd ((h r.Low).1 ⟨r, by simp, by omega, by omega⟩) (inR_nil _)
  | r :: a, s :: b, ha, hb, h => by
    have h1 := ha.1 r (by simp)
    have h2 := hb.1 s (by simp)
    unfold okR at h1 h2
    have lo1 : s.Low ≤ r.Low := by
      rcases (inR_cons s b r.Low).1 ((h r.Low).1 ⟨r, by simp, by omega, by omega⟩) with h3 | h3
      · omega
      · have := hb.above h3; omega
    have lo2 : r.Low ≤ s.Low := by
      rcases (inR_cons r a s.Low).1 ((h s.Low).2 ⟨s, by simp, by omega, by omega⟩) with h3 | h3
      · omega
      · have := ha.above h3; omega
    have hi1 : r.High ≤ s.High := by
      by_cases hc : s.High < r.High
      · rcases (inR_cons s b (s.High + 1)).1 ((h (s.High + 1)).1 ⟨r, by simp, by omega, by omega⟩) with h3 | h3
        · omega
        · have := hb.above h3; omega
      · omega
    have hi2 : s.High ≤ r.High := by
      by_cases hc : r.High < s.High
      · rcases (inR_cons r a (r.High + 1)).1 ((h (r.High + 1)).2 ⟨s, by simp, by omega, by omega⟩) with h3 | h3
        · omega
        · have := ha.above h3; omega
      · omega
    obtain ⟨rl, rh⟩ := r
    obtain ⟨sl, sh⟩ := s
    simp only at *
    obtain rfl : rl = sl := by omega
    obtain rfl : rh = sh := by omega
    rw [uniq ha.tail hb.tail (fun v => ⟨fun hv => ?_, fun hv => ?_⟩)]
    · rcases (inR_cons _ b v).1 ((h v).1 ((inR_cons _ a v).2 (.inr hv))) with h3 | h3
      · have := ha.above hv; simp at this h3; omega
      · exact h3
    · rcases (inR_cons _ a v).1 ((h v).2 ((inR_cons _ b v).2 (.inr hv))) with h3 | h3
      · have := hb.above hv; simp at this h3; omega
      · exact h3


def stepR : List R → R → List R
  | [], r => [r]
  | a :: t, r => if r.Low ≤ a.High + 1 then ⟨a.Low, max a.High r.High⟩ :: t else r :: a :: t
theorem step_ok {acc : List R} {r : R} (h : ∀ x ∈ acc, okR x) (hr : okR r) : ∀ x ∈ stepR acc r, okR x := by
  intro x hx
  unfold stepR at hx
  split at hx
  · simp at hx; subst hx; exact hr
  · rename_i a t
    have ha := h a (by simp)
    split at hx
    · rcases List.mem_cons.1 hx with rfl | hx
      · unfold okR at *; simp only; omega
      · exact h x (by simp [hx])
    · rcases List.mem_cons.1 hx with rfl | hx
      · exact hr
      · exact h x hx
theorem step_len (acc : List R) (r : R) : (stepR acc r).length ≤ acc.length + 1 := by
  unfold stepR
  split
  · simp
  · split <;> simp
theorem fold_ok : ∀ {l acc : List R}, (∀ x ∈ acc, okR x) → (∀ x ∈ l, okR x) → ∀ x ∈ l.foldl stepR acc, okR x
  | [], acc, h, _, x, hx => h x hx
  | r :: l, acc, h, hl, x, hx => fold_ok (l := l) (step_ok h (hl r (by simp))) (fun y hy => hl y (by simp [hy])) x hx
theorem fold_len : ∀ (l acc : List R), (l.foldl stepR acc).length ≤ acc.length + l.length
  | [], acc => by simp
  | r :: l, acc => by
    have h1 := fold_len l (stepR acc r)
    have h2 := step_len acc r
    simp only [List.foldl_cons, List.length_cons]
    omega
theorem fold_can : ∀ {l acc : List R}, (∀ x ∈ acc, okR x) → (∀ x ∈ l, okR x) → acc.Pairwise (fun a b => gapR b a) → l.Pairwise (fun a b => a.Low ≤ b.Low) → (∀ a ∈ acc, ∀ r ∈ l, a.Low ≤ r.Low) →
    (l.foldl stepR acc).Pairwise (fun a b => gapR b a) ∧ ∀ v, inR (l.foldl stepR acc) v ↔ inR acc v ∨ inR l v
  | [], acc, _, _, hp, _, _ => ⟨hp, fun v => ⟨.inl, fun h => h.elim id fun h => absurd h (inR_nil v)⟩⟩
  | r :: l, acc, ha, hl, hp, hs, hc => by
    have hr := hl r (by simp)
    have hs' := List.pairwise_cons.1 hs
    have key : (stepR acc r).Pairwise (fun a b => gapR b a) ∧ (∀ a ∈ stepR acc r, ∀ x ∈ l, a.Low ≤ x.Low) ∧ ∀ v, inR (stepR acc r) v ↔ inR acc v ∨ (r.Low ≤ v ∧ v ≤ r.High) := by
      cases acc with
      | nil =>
        refine ⟨by simp [stepR], fun a hm x hx => ?_, fun v => ?_⟩
        · simp [stepR] at hm; subst hm; exact hs'.1 x hx
        · simp only [stepR]
          rw [inR_cons]
          constructor
          · rintro (h | h)
            · exact .inr h
            · exact .inl h
          · rintro (h | h)
            · exact .inr h
            · exact .inl h
      | cons a t =>
        have hat := List.pairwise_cons.1 hp
        have har := hc a (by simp) r (by simp)
        have hao := ha a (by simp)
        unfold okR at hr hao
        by_cases hlow : r.Low ≤ a.High + 1
        · simp only [stepR, if_pos hlow]
          refine ⟨List.pairwise_cons.2 ⟨fun b hb => hat.1 b hb, hat.2⟩, fun x hm y hy => ?_, fun v => ?_⟩
          · rcases List.mem_cons.1 hm with rfl | hm
            · exact hc a (by simp) y (by simp [hy])
            · exact hc x (by simp [hm]) y (by simp [hy])
          · rw [inR_cons, inR_cons]
            constructor
            · rintro (h | h)
              · simp only at h
                by_cases hv : v ≤ a.High
                · exact .inl (.inl ⟨h.1, hv⟩)
                · exact .inr ⟨by omega, by omega⟩
              · exact .inl (.inr h)
            · rintro ((h | h) | h)
              · exact .inl ⟨h.1, by simp only; omega⟩
              · exact .inr h
              · exact .inl ⟨by simp only; omega, by simp only; omega⟩
        · simp only [stepR, if_neg hlow]
          refine ⟨List.pairwise_cons.2 ⟨fun b hb => ?_, hp⟩, fun x hm y hy => ?_, fun v => ?_⟩
          · rcases List.mem_cons.1 hb with rfl | hb
            · unfold gapR; omega
            · have := hat.1 b hb; unfold gapR at *; omega
          · rcases List.mem_cons.1 hm with rfl | hm
            · exact hs'.1 y hy
            · exact hc x hm y (by simp [hy])
          · rw [inR_cons]
            exact ⟨fun h => h.symm, fun h => h.symm⟩
    obtain ⟨k1, k2, k3⟩ := key
    obtain ⟨e1, e2⟩ := fold_can (l := l) (acc := stepR acc r) (step_ok ha hr) (fun y hy => hl y (by simp [hy])) k1 hs'.2 k2
    refine ⟨e1, fun v => ?_⟩
    rw [List.foldl_cons, e2 v, k3 v, inR_cons, or_assoc]

def setF (l : List R) : List R := ((sortR l).foldl stepR []).reverse
theorem sortR_perm (l : List R) : (sortR l).Perm l := List.mergeSort_perm l _
theorem sortR_low (l : List R) : (sortR l).Pairwise (fun a b => a.Low ≤ b.Low) := by
  refine (List.pairwise_mergeSort (le := fun x y => !(Go.Proofs.ltOf cmpR) y x) ?_ ?_ l).imp ?_
  · intro a b c h1 h2
    rw [ltR] at *
    simp at *
    omega
  · intro a b
    rw [ltR, ltR]
    simp
    omega
  · intro a b h
    rw [ltR] at h
    simp at h
    omega
theorem setF_spec {l : List R} (h : ∀ r ∈ l, okR r) : Can (setF l) ∧ (∀ v, inR (setF l) v ↔ inR l v) ∧ (setF l).length ≤ l.length := by
  have hok : ∀ x ∈ sortR l, okR x := fun x hx => h x ((sortR_perm l).mem_iff.1 hx)
  obtain ⟨e1, e2⟩ := fold_can (l := sortR l) (acc := []) (by simp) hok .nil (sortR_low l) (by simp)
  have hlen := fold_len (sortR l) []
  refine ⟨⟨fun r hr => fold_ok (by simp) hok r (List.mem_reverse.1 hr), List.pairwise_reverse.2 e1⟩, fun v => ?_, ?_⟩
  · have : inR (setF l) v ↔ inR ((sortR l).foldl stepR []) v := by
      unfold inR setF
      simp
    rw [this, e2 v]
    constructor
    · rintro (h | ⟨r, h1, h2⟩)
      · exact absurd h (inR_nil v)
      · exact ⟨r, (sortR_perm l).mem_iff.1 h1, h2⟩
    · rintro ⟨r, h1, h2⟩
      exact .inr ⟨r, (sortR_perm l).mem_iff.2 h1, h2⟩
  · rw [(sortR_perm l).length_eq] at hlen
    simpa [setF] using hlen


def notG : Int → List R → List R
  | at_, [] => if at_ ≤ 9999 then [⟨at_, 9999⟩] else []
  | at_, r :: l => (if at_ < r.Low then [⟨at_, r.Low - 1⟩] else []) ++ notG (r.High + 1) l
def notF (l : List R) : List R := notG 1 l
theorem notG_len : ∀ (l : List R) (a : Int), (notG a l).length ≤ l.length + 1
  | [], a => by unfold notG; split <;> simp
  | r :: l, a => by
    have := notG_len l (r.High + 1)
    simp only [notG, List.length_append, List.length_cons]
    split <;> simp <;> omega
theorem notG_spec : ∀ (l : List R) (a : Int), Can l → 1 ≤ a → (∀ r ∈ l, a ≤ r.Low) →
    Can (notG a l) ∧ (∀ r ∈ notG a l, a ≤ r.Low) ∧ ∀ v, inR (notG a l) v ↔ (a ≤ v ∧ v ≤ 9999 ∧ ¬ inR l v)
  | [], a, _, ha, _ => by
    unfold notG
    split
    · rename_i h
      refine ⟨⟨by simp [okR]; omega, by simp⟩, by simp, fun v => ?_⟩
      rw [inR_cons]
      constructor
      · rintro (h | h)
        · exact ⟨h.1, h.2, inR_nil v⟩
        · exact absurd h (inR_nil v)
      · rintro ⟨h1, h2, _⟩
        exact .inl ⟨h1, h2⟩
    · rename_i h
      refine ⟨⟨by simp, by simp⟩, by simp, fun v => ⟨fun h => absurd h (inR_nil v), fun h => by omega⟩⟩
  | r :: l, a, hc, ha, hlow => by
    have hr := hc.1 r (by simp)
    have hra := hlow r (by simp)
    unfold okR at hr
    obtain ⟨e1, e2, e3⟩ := notG_spec l (r.High + 1) hc.tail (by omega) (fun x hx => by
      have := (List.pairwise_cons.1 hc.2).1 x hx
      unfold gapR at this; omega)
    have hmem : ∀ v, (a ≤ v ∧ v < r.Low) ∨ inR (notG (r.High + 1) l) v ↔ (a ≤ v ∧ v ≤ 9999 ∧ ¬ inR (r :: l) v) := by
      intro v
      rw [e3 v, inR_cons]
      constructor
      · rintro (h | ⟨h1, h2, h3⟩)
        · refine ⟨h.1, by omega, ?_⟩
          rintro (h4 | h4)
          · omega
          · have := hc.above h4; omega
        · refine ⟨by omega, h2, ?_⟩
          rintro (h4 | h4)
          · omega
          · exact h3 h4
      · rintro ⟨h1, h2, h3⟩
        by_cases hv : v < r.Low
        · exact .inl ⟨h1, hv⟩
        · refine .inr ⟨?_, h2, fun h => h3 (.inr h)⟩
          by_cases hv2 : v ≤ r.High
          · exact absurd (.inl ⟨by omega, hv2⟩) h3
          · omega
    simp only [notG]
    by_cases hlt : a < r.Low
    · rw [if_pos hlt]
      refine ⟨⟨fun x hx => ?_, ?_⟩, fun x hx => ?_, fun v => ?_⟩
      · rcases List.mem_cons.1 hx with rfl | hx
        · simp [okR]; omega
        · exact e1.1 x hx
      · refine List.pairwise_cons.2 ⟨fun b hb => ?_, e1.2⟩
        have := e2 b hb
        simp [gapR]; omega
      · rcases List.mem_cons.1 hx with rfl | hx
        · simp
        · have := e2 x hx; omega
      · rw [← hmem v]
        simp only [List.singleton_append]
        rw [inR_cons]
        constructor
        · rintro (h | h)
          · simp only at h; exact .inl ⟨h.1, by omega⟩
          · exact .inr h
        · rintro (h | h)
          · exact .inl ⟨h.1, by simp only; omega⟩
          · exact .inr h
    · rw [if_neg hlt, List.nil_append]
      refine ⟨e1, fun x hx => by have := e2 x hx; omega, fun v => ?_⟩
      rw [← hmem v]
      exact ⟨.inr, fun h => h.elim (fun h => by omega) id⟩
theorem notF_spec {l : List R} (h : Can l) : Can (notF l) ∧ (∀ v, inR (notF l) v ↔ (1 ≤ v ∧ v ≤ 9999 ∧ ¬ inR l v)) ∧ (notF l).length ≤ l.length + 1 := by
  obtain ⟨e1, _, e3⟩ := notG_spec l 1 h (by omega) (fun r hr => (h.1 r hr).1)
  exact ⟨e1, e3, notG_len l 1⟩


def capR (x y : R) : Option R := if max x.Low y.Low ≤ min x.High y.High then some ⟨max x.Low y.Low, min x.High y.High⟩ else none
theorem cap_some {x y r : R} : capR x y = some r ↔ (r.Low = max x.Low y.Low ∧ r.High = min x.High y.High ∧ r.Low ≤ r.High) := by
  unfold capR
  obtain ⟨a, b⟩ := r
  split
  · rename_i h
    simp only [Option.some.injEq, GVersion_Range.mk.injEq]
    constructor
    · rintro ⟨rfl, rfl⟩; exact ⟨rfl, rfl, h⟩
    · rintro ⟨h1, h2, _⟩; exact ⟨h1.symm, h2.symm⟩
  · rename_i h
    simp only [reduceCtorEq, false_iff]
    rintro ⟨h1, h2, h3⟩
    omega
def bothF (a b : List R) : List R := a.flatMap fun x => b.filterMap (capR x)
theorem mem_both {a b : List R} {r : R} : r ∈ bothF a b ↔ ∃ x ∈ a, ∃ y ∈ b, capR x y = some r := by
  simp [bothF]
theorem bothF_spec {a b : List R} (ha : Can a) (hb : Can b) : Can (bothF a b) ∧ ∀ v, inR (bothF a b) v ↔ (inR a v ∧ inR b v) := by
  refine ⟨⟨fun r hr => ?_, ?_⟩, fun v => ⟨?_, ?_⟩⟩
  · obtain ⟨x, hx, y, hy, h⟩ := mem_both.1 hr
    have h1 := ha.1 x hx
    have h2 := hb.1 y hy
    obtain ⟨h3, h4, h5⟩ := cap_some.1 h
    unfold okR at *
    omega
  · unfold bothF
    rw [List.flatMap_def, List.pairwise_flatten]
    refine ⟨fun l hl => ?_, ?_⟩
    · obtain ⟨x, hx, rfl⟩ := List.mem_map.1 hl
      refine (hb.2.filterMap (capR x) (fun y y' hyy r hr r' hr' => ?_))
      obtain ⟨h3, h4, h5⟩ := cap_some.1 hr
      obtain ⟨h6, h7, h8⟩ := cap_some.1 hr'
      unfold gapR at *
      omega
    · rw [List.pairwise_map]
      refine ha.2.imp (fun {x x'} hxx r hr r' hr' => ?_)
      obtain ⟨y, hy, h1⟩ := List.mem_filterMap.1 hr
      obtain ⟨y', hy', h1'⟩ := List.mem_filterMap.1 hr'
      obtain ⟨h3, h4, h5⟩ := cap_some.1 h1
      obtain ⟨h6, h7, h8⟩ := cap_some.1 h1'
      unfold gapR at *
      omega
  · rintro ⟨r, hr, h1, h2⟩
    obtain ⟨x, hx, y, hy, h⟩ := mem_both.1 hr
    obtain ⟨h3, h4, h5⟩ := cap_some.1 h
    exact ⟨⟨x, hx, by omega, by omega⟩, ⟨y, hy, by omega, by omega⟩⟩
  · rintro ⟨⟨x, hx, h1, h2⟩, ⟨y, hy, h3, h4⟩⟩
    have hm : max x.Low y.Low ≤ min x.High y.High := by omega
    refine ⟨⟨max x.Low y.Low, min x.High y.High⟩, mem_both.2 ⟨x, hx, y, hy, cap_some.2 ⟨rfl, rfl, hm⟩⟩, ?_, ?_⟩ <;> simp only <;> omega
end Go.Hw.VD

