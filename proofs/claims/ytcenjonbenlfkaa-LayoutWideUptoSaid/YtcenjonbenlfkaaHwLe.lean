import Derived.Test.YtcenjonbenlfkaaHwLc
set_option linter.unusedVariables false
set_option linter.unusedSimpArgs false
namespace Go.Hw.VL
open Go Go.Proofs

def widF : List Pc → Int → Int
  | [], n => n
  | p :: r, n => widF r (n + p.S.length + (if p.Kind = 2 then 1 else 0))
theorem widF_add : ∀ (l : List Pc) (n : Int), widF l n = n + widF l 0
  | [], n => by simp [widF]
  | p :: r, n => by
    rw [widF, widF, widF_add r, widF_add r (0 + _ + _)]; omega
theorem widF_snoc (l : List Pc) (p : Pc) : widF (l ++ [p]) 0 = widF l 0 + p.S.length + (if p.Kind = 2 then 1 else 0) := by
  have : ∀ (l : List Pc) (n : Int), widF (l ++ [p]) n = widF l n + p.S.length + (if p.Kind = 2 then 1 else 0) := by
    intro l
    induction l with
    | nil => intro n; simp [widF]
    | cons q l ih => intro n; rw [List.cons_append, widF, ih, widF]
  exact this l 0
theorem flat_wid : ∀ (l : List Pc) (n : Int), (∀ p ∈ l, PieceOk p ∧ p.Kind ≠ 4) → flatF l n = widF l n
  | [], n, _ => rfl
  | p :: r, n, h => by
    have ih := fun n => flat_wid r n fun q hq => h q (List.mem_cons_of_mem _ hq)
    obtain ⟨ok, h4⟩ := h p List.mem_cons_self
    rw [flatF, widF]
    by_cases h1 : p.Kind = 1
    · rw [if_pos h1, if_neg (by omega), Int.add_zero, ih]
    · have hs : (p.S.length : Int) = 0 := by rw [ok.s h1]; rfl
      rw [if_neg h1, if_neg h4, ih, ih, hs, Int.add_zero]
      split
      · rfl
      · rw [Int.add_zero]
theorem widF_bound : ∀ (l : List Pc), (∀ p ∈ l, p.S.length ≤ 8) → 0 ≤ widF l 0 ∧ widF l 0 ≤ 9 * l.length
  | [], _ => by simp [widF]
  | p :: r, h => by
    have ih := widF_bound r fun q hq => h q (List.mem_cons_of_mem _ hq)
    have h0 := h p List.mem_cons_self
    rw [widF, widF_add]
    simp only [List.length_cons]
    split <;> omega
theorem end_skip : ∀ (l r : List Pc) (s i : Int), (∀ k ≤ l.length, 0 < s + dep (l.take k)) → endFrom (l ++ r) s i = endFrom r (s + dep l) (i + l.length)
  | [], r, s, i, _ => by simp [dep]
  | p :: l, r, s, i, h => by
    have h1 := h 1 (by simp)
    simp only [List.take_succ_cons, List.take_zero, dep] at h1
    have ih := fun (s' : Int) (hs : s' = s + dlt p) => end_skip l r s' (i + 1) (fun k hk => by
      have := h (k + 1) (by simpa using hk)
      rw [List.take_succ_cons, dep] at this
      omega)
    rw [List.cons_append, endFrom, dep]
    by_cases h5 : p.Kind = 5
    · have hd : dlt p = 1 := by simp [dlt, h5]
      rw [if_pos h5, ih _ (by omega), hd]
      simp only [List.length_cons]
      congr 1 <;> (push_cast; omega)
    · rw [if_neg h5]
      by_cases h6 : p.Kind = 6
      · have hd : dlt p = -1 := by simp [dlt, h6]
        rw [if_pos h6, if_neg (by omega), ih _ (by omega), hd]
        simp only [List.length_cons]
        congr 1 <;> (push_cast; omega)
      · have hd : dlt p = 0 := by simp [dlt, h5, h6]
        rw [if_neg h6, ih _ (by omega), hd]
        simp only [List.length_cons]
        congr 1 <;> (push_cast; omega)
theorem dep_keep : ∀ l : List Pc, dep (keepF l) = dep l
  | [] => rfl
  | p :: l => by
    have ih := dep_keep l
    unfold keepF at ih ⊢
    rw [List.filter_cons]
    cases hh : isH p with
    | false => simp only [Bool.not_false, if_true, dep, ih]
    | true =>
      have : p.Kind = 4 := by simpa [isH] using hh
      simp [dep, ih, dlt, this]
theorem keep_take : ∀ (l : List Pc) (k : Nat), k ≤ (keepF l).length → ∃ j, j ≤ l.length ∧ (keepF l).take k = keepF (l.take j)
  | [], k, h => ⟨0, by simp, by simp [keepF]⟩
  | p :: l, k, h => by
    unfold keepF at h ⊢
    rw [List.filter_cons] at h ⊢
    cases hh : isH p with
    | false =>
      simp only [hh, Bool.not_false, if_true] at h ⊢
      cases k with
      | zero => exact ⟨0, by simp, by simp⟩
      | succ k =>
        obtain ⟨j, hj, he⟩ := keep_take l k (by simpa [keepF] using h)
        refine ⟨j + 1, by simpa using hj, ?_⟩
        rw [List.take_succ_cons, List.take_succ_cons, List.filter_cons]
        simp only [hh, Bool.not_false, if_true]
        unfold keepF at he
        rw [he]
    | true =>
      simp only [hh, Bool.not_true, Bool.false_eq_true, if_false] at h ⊢
      obtain ⟨j, hj, he⟩ := keep_take l k h
      refine ⟨j + 1, by simpa using hj, ?_⟩
      rw [List.take_succ_cons, List.filter_cons]
      simp only [hh, Bool.not_true, Bool.false_eq_true, if_false]
      exact he
theorem keep_good {l : List Pc} {B : Int} (h : Good l B) : Good (keepF l) B := by
  have hl : (keepF l).length ≤ l.length := List.length_filter_le _ _
  refine ⟨by have := h.len; omega, fun p hp => h.ps p (List.mem_filter.1 hp).1, fun k hk => ?_, by rw [dep_keep]; exact h.zero⟩
  obtain ⟨j, hj, he⟩ := keep_take l k hk
  rw [he, dep_keep]
  exact h.pre j hj
abbrev oP : Pc := ⟨5, 0, []⟩
abbrev cP : Pc := ⟨6, 0, []⟩
theorem okO : PieceOk oP := ⟨by simp, fun _ => rfl, fun _ => rfl, fun h => by simp at h, fun _ => by simp⟩
theorem okC : PieceOk cP := ⟨by simp, fun _ => rfl, fun _ => rfl, fun h => by simp at h, fun h => by simp at h⟩
theorem wrap_good {l : List Pc} {B : Int} (h : Good l B) (hl : l.length ≤ 7998) (hB : 0 ≤ B) : Good (oP :: (l ++ [cP])) (B + 1) := by
  refine ⟨by simp; omega, fun p hp => ?_, fun k hk => ?_, ?_⟩
  · rcases List.mem_cons.1 hp with rfl | hp
    · exact okO
    · rcases List.mem_append.1 hp with hp | hp
      · exact h.ps p hp
      · rw [List.mem_singleton.1 hp]; exact okC
  · cases k with
    | zero => simp [dep]; omega
    | succ k =>
      rw [List.take_succ_cons, dep]
      have e1 : dlt oP = 1 := rfl
      rw [e1, List.take_append, dep_app]
      rcases Nat.lt_or_ge l.length k with hlt | hge
      · have hk1 : k - l.length = 1 := by simp at hk; omega
        rw [List.take_of_length_le (by omega), h.zero, hk1]
        have : dep ([cP].take 1) = -1 := rfl
        rw [this]; omega
      · have hk0 : k - l.length = 0 := by omega
        rw [hk0]
        have := h.pre k hge
        have e0 : dep ([cP].take 0) = 0 := rfl
        rw [e0]; omega
  · rw [dep, dep_app, h.zero]; rfl
structure Flat (d : List Pc) (k : Nat) (s : LS) : Prop where
  low : ∃ lows : List Lev, s.st = (0, true) :: lows ∧ (lows.length : Int) = dep (d.take k) + 1 ∧ ∀ v ∈ lows, v.2 = false
  no : (10 : UInt8) ∉ s.out
  len : (s.out.length : Int) = widF (d.take k) 0
theorem top_low {s : LS} {lows : List Lev} (h : s.st = (0, true) :: lows) (hl : lows ≠ []) (hv : ∀ v ∈ lows, v.2 = false) : s.top.2 = false := by
  have : s.top ∈ lows := by
    unfold LS.top
    rw [h, List.getLastD_eq_getLast?, List.getLast?_cons]
    simp only [Option.getD_some]
    rw [List.getLast?_eq_some_getLast hl]
    exact List.getLast_mem hl
  exact hv _ this
theorem flat_step {d all : List Pc} {n : Int} {k i : Nat} {p : Pc} (hp : d[k]? = some p) (ok : PieceOk p) (h4 : p.Kind ≠ 4) (h10 : (10 : UInt8) ∉ p.S) (hd1 : 0 ≤ dep (d.take k)) {s : LS} (h : Flat d k s) : Flat d (k + 1) (stepL all n i p s) := by
  obtain ⟨lows, hst, hll, hlv⟩ := h.low
  have hne : lows ≠ [] := fun e => by rw [e] at hll; simp at hll; omega
  have htop := top_low hst hne hlv
  have hsn : dep (d.take (k + 1)) = dep (d.take k) + dlt p := by rw [take_snoc hp, dep_app]; simp [dep]
  have hwn : widF (d.take (k + 1)) 0 = widF (d.take k) 0 + p.S.length + (if p.Kind = 2 then 1 else 0) := by rw [take_snoc hp, widF_snoc]
  have hno := h.no
  have hlen := h.len
  unfold stepL
  by_cases h1 : p.Kind = 1
  · rw [if_pos h1]
    refine ⟨⟨lows, hst, by rw [hsn, hll]; simp [dlt, h1], hlv⟩, by simp [hno, h10], ?_⟩
    rw [hwn, if_neg (by omega)]
    simp; omega
  have hs : p.S = [] := ok.s h1
  rw [if_neg h1]
  by_cases h5 : p.Kind = 5
  · rw [if_pos h5]
    refine ⟨⟨lows ++ [(s.top.1 + p.N, false)], by rw [hst, htop]; simp, by rw [hsn]; simp [dlt, h5]; omega, fun v hv => ?_⟩, hno, ?_⟩
    · rcases List.mem_append.1 hv with hv | hv
      · exact hlv v hv
      · rw [List.mem_singleton.1 hv]
    · rw [hwn, hs, if_neg (by omega)]; simp; exact hlen
  rw [if_neg h5]
  by_cases h6 : p.Kind = 6
  · rw [if_pos h6]
    refine ⟨⟨lows.dropLast, by rw [hst]; exact List.dropLast_cons_of_ne_nil hne, by rw [hsn, List.length_dropLast]; simp [dlt, h6]; have := List.length_pos_iff.2 hne; omega, fun v hv => hlv v ((List.dropLast_sublist _).subset hv)⟩, hno, ?_⟩
    rw [hwn, hs, if_neg (by omega)]; simp; exact hlen
  rw [if_neg h6, if_neg (by rintro (h | h); exact h4 h; rw [htop] at h; cases h)]
  have hz : dlt p = 0 := by simp [dlt, h5, h6]
  by_cases h2 : p.Kind = 2
  · rw [if_pos h2]
    refine ⟨⟨lows, hst, by rw [hsn, hz, hll, Int.add_zero], hlv⟩, by simp [hno], ?_⟩
    rw [hwn, hs, if_pos h2]
    simp; omega
  · rw [if_neg h2]
    refine ⟨⟨lows, hst, by rw [hsn, hz, hll, Int.add_zero], hlv⟩, hno, ?_⟩
    rw [hwn, hs, if_neg h2]
    simp; exact hlen
theorem wide {d : List Pc} (hd : Good d 40) (h4 : ∀ p ∈ d, p.Kind ≠ 4) (h10 : ∀ p ∈ d, (10 : UInt8) ∉ p.S) : (10 : UInt8) ∉ layF (oP :: (d ++ [cP])) (widF d 0) ∧ ((layF (oP :: (d ++ [cP])) (widF d 0)).length : Int) = widF d 0 := by
  have hend : endF (oP :: (d ++ [cP])) 0 = d.length + 1 := by
    unfold endF
    have h0 : oP.Kind = 5 := rfl
    rw [List.drop_zero, endFrom, if_pos h0, end_skip d [cP] _ _ (fun k hk => by have := hd.pre k hk; omega), hd.zero]
    have h6 : cP.Kind = 6 := rfl
    rw [endFrom, if_neg (by rw [h6]; omega), if_pos h6, if_pos (by simp)]
    simp; omega
  have hflat : flatF (((oP :: (d ++ [cP])).take (endF (oP :: (d ++ [cP])) 0).toNat).drop 0) 0 = widF d 0 := by
    rw [hend, show ((d.length : Int) + 1).toNat = d.length + 1 by omega, List.drop_zero, List.take_succ_cons, List.take_left]
    have h0 : oP.Kind = 5 := rfl
    rw [flatF, if_neg (by rw [h0]; omega), if_neg (by rw [h0]; omega), if_neg (by rw [h0]; omega)]
    exact flat_wid d 0 fun p hp => ⟨hd.ps p hp, h4 p hp⟩
  have htail : tailF ((oP :: (d ++ [cP])).drop (endF (oP :: (d ++ [cP])) 0).toNat) 0 = 0 := by
    rw [hend, show ((d.length : Int) + 1).toNat = d.length + 1 by omega, List.drop_succ_cons, List.drop_left]
    rfl
  have hwn : 0 ≤ widF d 0 := by
    have := fun p (hp : p ∈ d) => (hd.ps p hp)
    rw [← flat_wid d 0 fun p hp => ⟨hd.ps p hp, h4 p hp⟩]
    rw [flat_wid d 0 fun p hp => ⟨hd.ps p hp, h4 p hp⟩]
    have pos : ∀ (l : List Pc) (n : Int), 0 ≤ n → 0 ≤ widF l n := by
      intro l
      induction l with
      | nil => intro n h; exact h
      | cons q l ih => intro n h; rw [widF]; refine ih _ ?_; split <;> omega
    exact pos d 0 (by omega)
  have h1 : Flat d 0 (runL (oP :: (d ++ [cP])) (widF d 0) 1) := by
    have : runL (oP :: (d ++ [cP])) (widF d 0) 1 = stepL (oP :: (d ++ [cP])) (widF d 0) 0 oP ⟨[], 0, [(0, true)]⟩ := rfl
    rw [this]
    unfold stepL
    have h0 : oP.Kind = 5 := rfl
    rw [if_neg (by rw [h0]; omega), if_pos h0, hflat, htail]
    refine ⟨⟨[(0, false)], ?_, by simp [dep], by simp⟩, by simp, by simp [widF]⟩
    have e1 : decide (widF d 0 < 0) = false := by simp; omega
    have e2 : decide ((0 : Int) + widF d 0 + 0 > widF d 0) = false := by simp
    simp only [LS.top, List.getLastD, e1, e2]
    rfl
  have hrun : ∀ k ≤ d.length, Flat d k (runL (oP :: (d ++ [cP])) (widF d 0) (k + 1)) := by
    intro k
    induction k with
    | zero => intro _; exact h1
    | succ k ih =>
      intro hk
      obtain ⟨p, hp⟩ : ∃ p, d[k]? = some p := ⟨_, List.getElem?_eq_getElem (by omega)⟩
      have hg : (oP :: (d ++ [cP]))[k + 1]? = some p := by
        rw [List.getElem?_cons_succ, List.getElem?_append_left (by omega)]; exact hp
      rw [runL, hg]
      exact flat_step hp (hd.ps p (List.mem_of_getElem? hp)) (h4 p (List.mem_of_getElem? hp)) (h10 p (List.mem_of_getElem? hp)) (hd.pre k (by omega)).1 (ih (by omega))
  have hlast := hrun d.length (Nat.le_refl _)
  have hg : (oP :: (d ++ [cP]))[d.length + 1]? = some cP := by
    rw [List.getElem?_cons_succ, List.getElem?_append_right (Nat.le_refl _)]; simp
  have hL : (oP :: (d ++ [cP])).length = d.length + 2 := by simp
  unfold layF
  rw [hL, runL, hg]
  have hout : ∀ s : LS, (stepL (oP :: (d ++ [cP])) (widF d 0) (d.length + 1) cP s).out = s.out := fun s => by simp [stepL]
  dsimp only
  rw [hout]
  have hl := hlast.len
  rw [List.take_length] at hl
  exact ⟨hlast.no, hl⟩
end Go.Hw.VL

