import Derived.Test.YtphdkcgchcogdaaHwSolve4
set_option linter.unusedVariables false
set_option linter.unusedSimpArgs false
namespace Go.Hw.VE
open Go Go.Proofs Go.Shelf

theorem find_congr {α β : Type} {f g : α → Option β} : ∀ {l : List α}, (∀ a ∈ l, f a = g a) → l.findSome? f = l.findSome? g
  | [], _ => rfl
  | a :: l, h => by
    rw [List.findSome?_cons, List.findSome?_cons, h a (by simp), find_congr fun b hb => h b (by simp [hb])]
theorem run_named {Nm : List (List UInt8)} {reg more : List Md} {f : List Pk} (R : Reg Nm reg f) (hn : ∀ n ∈ Nm, named more n = named reg n) : ∀ (k : Nat) (P : List Pk) (W : List Us), Bnd Nm P W → runF more f k P W = runF reg f k P W
  | 0, P, W, _ => rfl
  | k + 1, P, W, B => by
    by_cases h : nextB W P = []
    · rw [runF, runF, if_pos h, if_pos h]
    · rw [runF, runF, if_neg h, if_neg h]
      obtain ⟨⟨u, hu, hun⟩, _⟩ := nextB_mem h
      have hN : nextB W P ∈ Nm := hun ▸ B.nm u hu
      have hv : versF more f (nextB W P) = versF reg f (nextB W P) := by unfold versF; rw [hn _ hN]
      rw [hv]
      refine find_congr fun m hm => ?_
      rw [run_named R hn k _ _ (Bnd.step R B h hm).1]

theorem named_len {reg : List Md} {k : Nat} (h : reg.length ≤ k) (n : List UInt8) : (named reg n).length ≤ k := by
  refine Nat.le_trans (List.length_filter_le _ _) ?_
  simpa using h
theorem RegAt.reg {reg : List Md} (h : RegAt 20 reg) (f : List Pk) (hf : f.length ≤ 1000000) : Reg Nm5 reg f :=
  ⟨by have := h.len; omega, named_len h.len, fun m hm => by
    obtain ⟨j, _, ha⟩ := h.at_ m hm
    exact ⟨by have := ha.len; omega, fun u hu => (ha.use u hu).mem⟩, hf⟩
theorem root_bnd {root : List Us} (hl : root.length ≤ 3) (hu : ∀ u ∈ root, UOk u) : Bnd Nm5 [] root :=
  ⟨by
    have := List.length_filter_le (fun n => !hasN [] n) Nm5
    show 0 + cnt Nm5 [] ≤ 12
    have h5 : Nm5.length = 5 := rfl
    unfold cnt
    omega, fun u h => (hu u h).mem, by simp; omega⟩
theorem RegAt.check {reg : List Md} (h : RegAt 20 reg) : sp15 reg 0 :=
  s15 reg (by have := h.len; omega) (fun m hm => let ⟨_, _, ha⟩ := h.at_ m hm; ha.ok) h.ord
theorem s10' {reg : List Md} {root : List Us} (h : RegAt 20 reg) (hl : root.length ≤ 3) (hu : ∀ u ∈ root, UOk u) (f : List Pk) (hf : f.length ≤ 1000000) : sp10 reg root f (bestF reg f root) :=
  s10 h.check (s20 root (by omega) hu) (h.reg f hf) (root_bnd hl hu)


def solvedR : List Md := [⟨[97], 1, []⟩, ⟨[97], 2, [⟨[98], 1, 9⟩]⟩, ⟨[98], 3, []⟩]
def solvedU : List Us := [⟨[97], 1, 9⟩]
theorem uok_c (c : UInt8) (lo hi : Int) (h : 97 ≤ c.toNat ∧ c.toNat ≤ 101) (h1 : 1 ≤ lo) (h2 : lo ≤ hi) (h3 : hi ≤ 9999) : UOk ⟨[c], lo, hi⟩ := ⟨⟨c, rfl, h.1, h.2⟩, h1, h2, h3⟩
theorem solved_best : bestF solvedR [] solvedU = ([⟨[97], 2⟩, ⟨[98], 3⟩], 0) := by decide +kernel
theorem s13 : sp13 true := by
  refine ok13 _ ?_
  unfold w13
  have hU : ∀ u ∈ solvedU, UOk u := fun u hu => by
    simp only [solvedU, List.mem_cons, List.not_mem_nil, or_false] at hu
    subst hu
    exact uok_c _ _ _ (by decide) (by decide) (by decide) (by decide)
  have hM : ∀ m ∈ solvedR, MdOk m := fun m hm => by
    simp only [solvedR, List.mem_cons, List.not_mem_nil, or_false] at hm
    rcases hm with rfl | rfl | rfl
    · exact ⟨⟨97, rfl, by decide, by decide⟩, by decide, by decide, by decide, nofun⟩
    · refine ⟨⟨97, rfl, by decide, by decide⟩, by decide, by decide, by decide, fun u hu => ?_⟩
      simp only [List.mem_cons, List.not_mem_nil, or_false] at hu
      subst hu
      exact uok_c _ _ _ (by decide) (by decide) (by decide) (by decide)
    · exact ⟨⟨98, rfl, by decide, by decide⟩, by decide, by decide, by decide, nofun⟩
  have hR : Reg Nm5 solvedR [] := ⟨by decide, named_len (by decide), fun m hm => ⟨by have := (hM m hm).len; omega, fun u hu => ((hM m hm).use u hu).mem⟩, by decide⟩
  have hb := s10 (f := []) (s15 solvedR (by decide) hM (by unfold solvedR; decide)) (s20 solvedU (by decide) hU) hR (root_bnd (by decide) hU)
  rw [solved_best] at hb
  exact ⟨_, hb, fun _ => ⟨_, s14 _ _ (by decide), rfl⟩, fun h => absurd rfl h⟩


def zM (v : Int) : Md := ⟨[122], v, [⟨[97], 9, 9⟩]⟩
theorem zM_ok (v : Int) (h1 : 1 ≤ v) (h2 : v ≤ 9999) : MdOk (zM v) := by
  refine ⟨⟨122, rfl, by decide, by decide⟩, h1, h2, by simp [zM], fun u hu => ?_⟩
  have hu : u ∈ [(⟨[97], 9, 9⟩ : Us)] := hu
  simp only [List.mem_cons, List.not_mem_nil, or_false] at hu
  subst hu
  exact uok_c _ _ _ (by decide) (by decide) (by decide) (by decide)
theorem nm_z : ∀ x, x < 5 → cmpS (nmN x) [122] = -1 ∧ nmN x ≠ [122] := by decide
theorem named_z {reg : List Md} (h : RegAt 20 reg) : named reg [122] = [] := by
  unfold named
  rw [List.filter_eq_nil_iff]
  intro m hm
  obtain ⟨j, hj, ha⟩ := h.at_ m (by simpa using hm)
  have := (nm_z (j / 4) (by omega)).2
  rw [ha.nm]
  simp [this]
theorem named_more (reg : List Md) (v : Int) (n : List UInt8) : named (reg ++ [zM v]) n = if n = [122] then zM v :: named reg n else named reg n := by
  unfold named
  rw [List.reverse_append]
  by_cases hn : n = [122]
  · subst hn; simp [zM]
  · rw [if_neg hn]
    have : ¬ (zM v).Name = n := fun e => hn e.symm
    simp [this]
theorem s3 (l m : List Int) (v : Int) (hl : l.length ≤ 9223372036854775807) (hm : m.length ≤ 9223372036854775807) (hr : ∀ x ∈ l, R64 x) (hr' : ∀ x ∈ m, R64 x) (hv : R64 v) : sp3 l m v true := by
  refine ok3 _ _ _ _ ?_
  unfold w3
  obtain ⟨u, hu, hul, huo⟩ := s9 m hm hr'
  have hA := regF_at l 20 (by decide)
  have hlen := hA.len
  have hv1 := restF_bound v 100 (by decide)
  refine ⟨_, s8 l hl hr, u, hu, _, s10' hA hul huo [] (by decide), _, s11m _ (by omega), _, s12 v 100 hv (by decide), by simp only [R64]; omega, ?_⟩
  generalize regF l 20 = r at hA hlen
  rintro _ rfl
  refine ⟨by simp only [List.length_cons, List.length_nil]; omega, ?_⟩
  rintro _ rfl
  have hz := zM_ok (1 + restF v 100) (by omega) (by omega)
  have hM : ∀ m ∈ r ++ [zM (1 + restF v 100)], MdOk m := fun m hm => by
    rcases List.mem_append.1 hm with hm | hm
    · obtain ⟨_, _, ha⟩ := hA.at_ m hm
      exact ha.ok
    · obtain rfl : m = zM (1 + restF v 100) := by simpa using hm
      exact hz
  have hO : (r ++ [zM (1 + restF v 100)]).Pairwise fun a b => ordM a b < 0 := by
    refine List.pairwise_append.2 ⟨hA.ord, List.pairwise_singleton _ _, fun a ha b hb => ?_⟩
    obtain rfl : b = zM (1 + restF v 100) := by simpa using hb
    obtain ⟨j, hj, hat⟩ := hA.at_ a ha
    have := (nm_z (j / 4) (by omega)).1
    unfold ordM
    rw [hat.nm]
    show (if cmpS (nmN (j / 4)) [122] ≠ 0 then cmpS (nmN (j / 4)) [122] else _) < 0
    rw [this, if_pos (by decide)]
    decide
  have hRm : Reg Nm5 (r ++ [zM (1 + restF v 100)]) [] := by
    refine ⟨by simp; omega, fun n => ?_, fun m hm => ⟨by have := (hM m hm).len; omega, fun u hu => ((hM m hm).use u hu).mem⟩, by decide⟩
    rw [named_more]
    split
    · rename_i h; subst h; rw [named_z hA]; simp
    · exact named_len hlen n
  have hb := s10 (s15 _ (by simp; omega) hM hO) (s20 u (by omega) huo) hRm (root_bnd hul huo)
  have he : bestF (r ++ [zM (1 + restF v 100)]) [] u = bestF r [] u := by
    unfold bestF
    rw [run_named (hA.reg [] (by decide)) (fun n hn => by
      rw [named_more, if_neg]
      intro e
      subst e
      revert hn
      decide) 14 [] u (root_bnd hul huo)]
  rw [he] at hb
  refine ⟨_, hb, true, s13, fun _ => ⟨fun _ => ⟨_, s14 _ _ ?_, by simp⟩, fun h => absurd rfl h⟩, fun h => by cases h⟩
  cases hq : runF r [] 14 [] u with
  | none => simp only [bestF, hq]; decide
  | some q =>
    obtain ⟨P', W'⟩ := q
    have := (runF_bnd (hA.reg [] (by decide)) (root_bnd hul huo) hq).cn
    simp only [bestF, hq]
    rw [isort_len]; omega
end Go.Hw.VE

