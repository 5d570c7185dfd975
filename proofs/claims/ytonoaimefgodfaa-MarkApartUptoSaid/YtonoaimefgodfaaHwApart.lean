import Derived.Test.YtonoaimefgodfaaHwMk1
set_option linter.unusedVariables false
set_option linter.unusedSimpArgs false
namespace Go.Hw.VK
open Go Go.Proofs
abbrev Sd := GMark_Side

theorem s48 {k : Int} (hk : k = 1 ∨ k = 2) : sp48 [1, 2] k (k - 1) := by
  refine ok48 [1, 2] k _ ⟨fun i => 0 ≤ i ∧ i ≤ k - 1, fun i => (2 - i).toNat, ⟨by omega, by omega⟩, ?_⟩
  rintro i ⟨i0, i1⟩ w rfl
  have hi2 : i = 0 ∨ i = 1 := by omega
  rcases hi2 with rfl | rfl
  · refine ⟨fun _ => ⟨by simp, fun a ha => ?_⟩, fun h => by simp at h⟩
    simp at ha; subst ha
    refine ⟨fun h => by simp only; omega, fun h => ⟨by unfold R64; omega, ?_⟩⟩
    rintro _ rfl
    exact ⟨⟨by omega, by omega⟩, by simp⟩
  · refine ⟨fun _ => ⟨by simp, fun a ha => ?_⟩, fun h => by simp at h⟩
    simp at ha; subst ha
    refine ⟨fun h => by simp only; omega, fun h => by omega⟩
theorem s47 {l : List Int} (hl : l.length ≤ 1000) : sp47 l l := by
  refine ok47 l _ ⟨fun h0 => ?_, by simp; omega, fun v hv => ?_⟩
  · exact (List.eq_nil_of_length_eq_zero h0).symm
  · simpa using hv
theorem s46a : sp46 [] 1 false := by
  refine ok46 [] 1 _ ⟨-1, ok48 [] 1 _ ⟨fun i => i = 0, fun _ => 0, rfl, ?_⟩, ?_⟩
  · rintro i rfl w rfl
    exact ⟨fun h => by simp at h, fun _ => rfl⟩
  · rintro v rfl; rfl
theorem s46b : sp46 [1] 2 false := by
  refine ok46 [1] 2 _ ⟨-1, ok48 [1] 2 _ ⟨fun i => i = 0 ∨ i = 1, fun i => (1 - i).toNat, .inl rfl, ?_⟩, ?_⟩
  · rintro i (rfl | rfl) w rfl
    · refine ⟨fun _ => ⟨by simp, fun a ha => ?_⟩, fun h => by simp at h⟩
      simp at ha; subst ha
      refine ⟨fun h => by omega, fun _ => ⟨by unfold R64; omega, ?_⟩⟩
      rintro _ rfl
      exact ⟨.inr rfl, by simp⟩
    · exact ⟨fun h => by simp at h, fun _ => rfl⟩
  · rintro v rfl; rfl
theorem s20 : sp20 [1, 2] (⟨[1, 2], false, 0, [[], []], [false, false]⟩, 0) := by
  refine ok20 [1, 2] _ ⟨fun h => by simp at h, fun _ => ⟨fun i => 0 ≤ i ∧ i ≤ 2, fun i => (2 - i).toNat, ⟨by omega, by omega⟩, ?_⟩⟩
  rintro i ⟨i0, i1⟩ w rfl
  refine ⟨fun hi => ?_, fun hi => ⟨_, s47 (by simp), by simp, by simp, ?_⟩⟩
  · have hi2 : i = 0 ∨ i = 1 := by simp at hi; omega
    rcases hi2 with rfl | rfl
    · refine ⟨by simp, fun a ha => ⟨by simp, ?_⟩⟩
      simp at ha; subst ha
      rintro _ rfl
      refine ⟨false, s46a, fun h => (by cases h), fun _ => ⟨by unfold R64; omega, ?_⟩⟩
      rintro _ rfl
      exact ⟨⟨by omega, by omega⟩, by simp⟩
    · refine ⟨by simp, fun a ha => ⟨by simp, ?_⟩⟩
      simp at ha; subst ha
      rintro _ rfl
      refine ⟨false, s46b, fun h => (by cases h), fun _ => ⟨by unfold R64; omega, ?_⟩⟩
      rintro _ rfl
      exact ⟨⟨by omega, by omega⟩, by simp⟩
  · rintro _ rfl
    rfl
theorem s21_no {bg : Bool} {st : Int} {w0 w1 : List Int} {o0 o1 : Bool} {k : Int} (hk : k = 1 ∨ k = 2) (n : Int) (h : bg = false ∨ (k = 1 ∧ o0 = true) ∨ (k = 2 ∧ o1 = true)) :
    sp21 ⟨[1, 2], bg, st, [w0, w1], [o0, o1]⟩ k n (0, ⟨[1, 2], bg, st, [w0, w1], [o0, o1]⟩) := by
  refine ok21 _ k n _ ⟨_, s48 hk, fun h => by omega, fun _ => ⟨fun _ => rfl, fun hb => ?_⟩⟩
  have hb' : bg = true := by simpa using hb
  rcases h with h | ⟨rfl, rfl⟩ | ⟨rfl, rfl⟩
  · rw [hb'] at h; cases h
  · refine ⟨by simp, by simp, fun a ha => ?_⟩
    simp at ha; subst ha
    exact ⟨fun _ => rfl, fun h => by cases h⟩
  · refine ⟨by simp, by simp, fun a ha => ?_⟩
    simp at ha; subst ha
    exact ⟨fun _ => rfl, fun h => by cases h⟩
theorem s21_yes {st : Int} {w0 w1 : List Int} {o0 : Bool} (n : Int) (hl : w1.length < 200) :
    sp21 ⟨[1, 2], true, st, [w0, w1], [o0, false]⟩ 2 n (0, ⟨[1, 2], true, st, [w0, w1 ++ [n]], [o0, false]⟩) := by
  refine ok21 _ 2 n _ ⟨1, s48 (.inr rfl), fun h => by omega, fun _ => ⟨fun h => (by cases h), fun _ => ⟨by simp, by simp, fun a ha => ?_⟩⟩⟩
  simp at ha; subst ha
  refine ⟨fun h => (by cases h), fun _ => ⟨True, ⟨by omega, fun h => by omega, fun _ => ⟨fun h => by simp at h; omega, fun _ => trivial⟩⟩, fun _ => ⟨by omega, fun h => by omega, fun _ => ⟨by simp; omega, ?_⟩⟩⟩⟩
  rintro _ rfl
  rfl
theorem s49 (s : Sd) (w0 w1 : List Int) (hw : s.ways = [w0, w1]) (n : Int) : sp49 s n (if s.begun then (8, s) else (0, ⟨s.peers, true, n, s.ways, s.over⟩)) := by
  obtain ⟨pe, bg, st, wa, ov⟩ := s
  simp only at hw
  subst hw
  refine ok49 _ n _ ⟨fun h => ?_, fun h => ?_⟩
  · simp only at h; subst h; rfl
  · simp only at h; subst h; rfl
theorem s22_one (n : Int) : sp22 ⟨[1, 2], false, 0, [[], []], [false, false]⟩ 1 n (true, 0, ⟨[1, 2], true, n, [[], []], [true, false]⟩) := by
  refine ok22 _ 1 n _ ⟨0, s48 (.inl rfl), fun h => by omega, fun _ => ⟨by simp, by simp, fun a ha => ?_⟩⟩
  simp at ha; subst ha
  refine ⟨fun h => (by cases h), fun _ => ⟨_, s49 _ [] [] rfl n, ?_⟩⟩
  rintro _ rfl
  refine ⟨by simp, by simp, fun a ha => ?_⟩
  rintro _ rfl
  exact ⟨rfl, rfl⟩
theorem s22_two (st n : Int) (w : List Int) : sp22 ⟨[1, 2], true, st, [[], w], [true, false]⟩ 2 n (false, 0, ⟨[1, 2], true, st, [[], w], [true, true]⟩) := by
  refine ok22 _ 2 n _ ⟨1, s48 (.inr rfl), fun h => by omega, fun _ => ⟨by simp, by simp, fun a ha => ?_⟩⟩
  simp at ha; subst ha
  refine ⟨fun h => (by cases h), fun _ => ⟨_, s49 _ [] w rfl n, ?_⟩⟩
  rintro _ rfl
  refine ⟨by simp, by simp, fun a ha => ?_⟩
  rintro _ rfl
  exact ⟨rfl, rfl⟩
theorem s63 : sp63 [true, true] false (-1, [true, true]) := by
  refine ok63 [true, true] false _ ⟨fun i => 0 ≤ i ∧ i ≤ 2, fun i => (2 - i).toNat, ⟨by omega, by omega⟩, ?_⟩
  rintro i ⟨i0, i1⟩ w rfl
  refine ⟨fun hi => ?_, fun _ => rfl⟩
  have hi2 : i = 0 ∨ i = 1 := by simp at hi; omega
  rcases hi2 with rfl | rfl
  all_goals
    refine ⟨by simp, by simp, fun a ha => ?_⟩
    simp at ha; subst ha
    rintro _ rfl
    refine ⟨fun h => (by cases h), fun _ => ⟨by unfold R64; omega, ?_⟩⟩
    rintro _ rfl
    exact ⟨⟨by omega, by omega⟩, by simp⟩
theorem s23 (st : Int) (w : List Int) (hl : w.length ≤ 1000) : sp23 ⟨[1, 2], true, st, [[], w], [true, true]⟩ (st, [[], w], 0, ⟨[1, 2], true, st, [[], w], [true, true]⟩) := by
  refine ok23 _ _ ⟨fun o b => o = [true, true] ∧ b = false, ⟨fun h => (by cases h), fun _ => ⟨(false, [true, true]), ok50 _ _ _ ⟨_, s63, by rintro _ rfl; rfl⟩, rfl, rfl⟩⟩, ?_⟩
  rintro o b ⟨rfl, rfl⟩
  refine ⟨fun h => (by cases h), fun _ => ?_⟩
  refine ⟨fun out i => (i = 0 ∧ out = []) ∨ (i = 1 ∧ out = [[]]) ∨ (i = 2 ∧ out = [[], w]), fun _ i => (2 - i).toNat, .inl ⟨rfl, rfl⟩, ?_⟩
  intro out i hI v hv
  rcases hI with ⟨rfl, rfl⟩ | ⟨rfl, rfl⟩ | ⟨rfl, rfl⟩
  · subst hv
    refine ⟨fun _ => ⟨fun x => x = [], ⟨by omega, fun _ => rfl, fun h => by omega⟩, ?_⟩, fun h => by simp at h⟩
    rintro _ rfl
    refine ⟨_, s47 (by simp), by simp, ?_⟩
    rintro _ rfl
    refine ⟨by unfold R64; omega, ?_⟩
    rintro _ rfl
    exact ⟨.inr (.inl ⟨rfl, rfl⟩), by simp⟩
  · subst hv
    refine ⟨fun _ => ⟨fun x => x = w, ⟨by omega, fun h => by omega, fun _ => rfl⟩, ?_⟩, fun h => by simp at h⟩
    rintro _ rfl
    refine ⟨_, s47 hl, by simp, ?_⟩
    rintro _ rfl
    refine ⟨by unfold R64; omega, ?_⟩
    rintro _ rfl
    exact ⟨.inr (.inr ⟨rfl, rfl⟩), by simp⟩
  · subst hv
    exact ⟨fun h => by simp at h, fun _ => ⟨rfl, rfl⟩⟩
theorem s24 (l : List Int) (hl : l.length ≤ 1000) : sp24 l l true := by
  refine ok24 l l true ⟨fun h => absurd rfl h, fun _ => ⟨fun i => 0 ≤ i ∧ i ≤ l.length, fun i => ((l.length : Int) - i).toNat, ⟨by omega, by omega⟩, ?_⟩⟩
  rintro i ⟨i0, i1⟩ w rfl
  refine ⟨fun hi => ?_, fun _ => rfl⟩
  simp at hi
  refine ⟨⟨i0, hi⟩, fun a ha => ⟨⟨i0, hi⟩, fun b hb => ⟨fun hne => ?_, fun _ => ⟨by unfold R64; omega, ?_⟩⟩⟩⟩
  · rw [ha] at hb; injection hb with hb; exact absurd hb hne
  · rintro _ rfl
    exact ⟨⟨by omega, by omega⟩, by simp only; omega⟩
def odds (l : List Int) : Nat → List Int
  | 0 => []
  | j + 1 => if j % 2 = 1 then odds l j ++ (l[j]?).toList else odds l j
theorem odds_len (l : List Int) : ∀ j, (odds l j).length ≤ j
  | 0 => by simp [odds]
  | j + 1 => by
    have := odds_len l j
    unfold odds
    split
    · rw [List.length_append]
      cases l[j]? <;> simp <;> omega
    · omega
theorem take30 (l : List Int) : ∃ v : Int, v = min (l.length : Int) 30 ∧ 0 ≤ v ∧ v ≤ l.length ∧ (l.take v.toNat).drop (0 : Int).toNat = l.take 30 ∧ (l.take 30).length ≤ 30 := by
  refine ⟨_, rfl, by omega, by omega, ?_, by rw [List.length_take]; omega⟩
  simp only [Int.toNat_zero, List.drop_zero]
  by_cases h : l.length ≤ 30
  · rw [List.take_of_length_le (by omega), List.take_of_length_le h]
  · congr 1; omega
end Go.Hw.VK

