import Derived.Test.YtcenjonbenlfkaaHwVer2
set_option linter.unusedVariables false
set_option linter.unusedSimpArgs false
namespace Go.Hw.VD
open Go Go.Proofs

theorem at_nat {α : Type} {l : List α} {i : Int} {a : α} (h0 : 0 ≤ i) (h : l[i.toNat]? = some a) : i < (l.length : Int) ∧ l.take (i + 1).toNat = l.take i.toNat ++ [a] ∧ a ∈ l := by
  have h1 := (List.getElem?_eq_some_iff.1 h).1
  refine ⟨by omega, ?_, List.mem_of_getElem? h⟩
  rw [show (i + 1).toNat = i.toNat + 1 by omega, List.take_add_one, h]
  rfl
theorem all_nat {α : Type} {l : List α} {i : Int} (h0 : (l.length : Int) ≤ i) : l.take i.toNat = l := List.take_of_length_le (by omega)

theorem s25m (l : List R) (h : l.length ≤ 1000) : sp25m l l := by
  refine ok25m l _ ⟨fun h0 => ?_, by omega, fun v hv => ?_⟩
  · exact (List.eq_nil_of_length_eq_zero h0).symm
  · exact hv
theorem s25 (l : List R) (h : l.length ≤ 1000) : sp25 l l := by
  refine ok25 l _ ⟨fun h0 => ?_, by simp; omega, fun v hv => ?_⟩
  · exact (List.eq_nil_of_length_eq_zero h0).symm
  · simpa using hv
theorem s22 (l : List R) (h : l.length ≤ 50) : sp22 l (l, 0) := by
  refine ok22 l _ ⟨fun h0 => by omega, fun _ => ⟨l, s25 l (by omega), rfl⟩⟩
theorem s21 {l : List R} (hc : Can l) (h : l.length ≤ 50) : sp21 l 0 := by
  refine ok21 l _ ⟨fun h0 => by omega, fun _ => ⟨fun i => 0 ≤ i ∧ i ≤ l.length, fun i => ((l.length : Int) - i).toNat, ⟨by omega, by omega⟩, ?_⟩⟩
  rintro i ⟨h0, h1⟩ v rfl
  refine ⟨fun hi => ?_, fun _ => rfl⟩
  simp at hi
  refine ⟨⟨h0, hi⟩, fun a ha => ?_⟩
  obtain ⟨_, _, hm⟩ := at_nat h0 ha
  have ho := hc.1 a hm
  unfold okR at ho
  refine ⟨fun h => by omega, fun _ => ⟨fun h => by omega, fun _ => ⟨fun h => by omega, fun _ => ⟨fun hp => ?_, fun _ => ?_⟩⟩⟩⟩
  · refine ⟨by unfold R64; omega, fun j hj => ?_⟩
    subst hj
    refine ⟨⟨by omega, by omega⟩, fun b hb => ?_⟩
    obtain ⟨_, _, hmb⟩ := at_nat (by omega) hb
    have hob := hc.1 b hmb
    unfold okR at hob
    refine ⟨by unfold R64; omega, fun k hk => ?_⟩
    subst hk
    obtain ⟨q1, q2⟩ := List.getElem?_eq_some_iff.1 ha
    obtain ⟨q3, q4⟩ := List.getElem?_eq_some_iff.1 hb
    have hg := List.pairwise_iff_getElem.1 hc.2 _ _ q3 q1 (by omega)
    rw [q2, q4] at hg
    unfold gapR at hg
    refine ⟨fun h => by omega, fun _ => ⟨by unfold R64; omega, fun k hk => ?_⟩⟩
    subst hk
    exact ⟨⟨by omega, by omega⟩, by simp only; omega⟩
  · refine ⟨by unfold R64; omega, fun k hk => ?_⟩
    subst hk
    exact ⟨⟨by omega, by omega⟩, by simp only; omega⟩

theorem s12 {l : List R} (hok : ∀ r ∈ l, okR r) (h : l.length ≤ 50) : sp12 l (setF l, 0) := by
  refine ok12 l _ ⟨fun i => 0 ≤ i ∧ i ≤ l.length, fun i => ((l.length : Int) - i).toNat, ⟨by omega, by omega⟩, ?_⟩
  rintro i ⟨h0, h1⟩ v rfl
  refine ⟨fun hi => ?_, fun _ => ?_⟩
  · simp at hi
    refine ⟨⟨h0, hi⟩, fun a ha => ?_⟩
    obtain ⟨_, _, hm⟩ := at_nat h0 ha
    have ho := hok a hm
    unfold okR at ho
    refine ⟨fun h => by omega, fun _ => ⟨fun h => by omega, fun _ => ⟨fun h => by omega, fun _ => ?_⟩⟩⟩
    refine ⟨by unfold R64; omega, fun k hk => ?_⟩
    subst hk
    exact ⟨⟨by omega, by omega⟩, by simp only; omega⟩
  have hsl : (sortR l).length = l.length := (sortR_perm l).length_eq
  have hso : ∀ r ∈ sortR l, okR r := fun r hr => hok r ((sortR_perm l).mem_iff.1 hr)
  refine ⟨l, s25m l (by omega), sortR l, s26 l (by omega), hsl, ?_⟩
  refine ⟨fun out n i => 0 ≤ i ∧ i ≤ (sortR l).length ∧ n = out.length ∧ out = (((sortR l).take i.toNat).foldl stepR []).reverse, fun _ _ i => (((sortR l).length : Int) - i).toNat, ⟨by omega, by omega, rfl, by simp⟩, ?_⟩
  rintro out n i ⟨h0, h1, rfl, hout⟩ v rfl
  have hto : ∀ r ∈ (sortR l).take i.toNat, okR r := fun r hr => hso r (List.mem_of_mem_take hr)
  have hacc := fold_ok (acc := []) (l := (sortR l).take i.toNat) (by simp) hto
  have hlen := fold_len ((sortR l).take i.toNat) []
  have htl : ((sortR l).take i.toNat).length ≤ (sortR l).length := by rw [List.length_take]; omega
  have hol : out.length ≤ 50 := by rw [hout, List.length_reverse]; simp at hlen htl; omega
  refine ⟨fun hi => ?_, fun hi => ?_⟩
  · simp at hi
    refine ⟨⟨h0, hi⟩, fun a ha => ?_⟩
    obtain ⟨_, htk, hm⟩ := at_nat h0 ha
    have ho := hso a hm
    have hao := ho
    unfold okR at ho
    have hae : (GVersion_Range.mk a.Low a.High : R) = a := rfl
    refine ⟨fun hp => ?_, fun hp => ?_⟩
    · refine ⟨by unfold R64; omega, fun j hj => ?_⟩
      subst hj
      cases hq : ((sortR l).take i.toNat).foldl stepR [] with
      | nil => rw [hq] at hout; rw [hout] at hp; simp at hp
      | cons b t =>
        rw [hq] at hout hacc
        have hob := hacc b (by simp)
        unfold okR at hob
        have hol2 : out = t.reverse ++ [b] := by rw [hout]; simp
        have hn : ((out.length : Int) - 1).toNat = t.reverse.length := by rw [hol2]; simp
        have hget : out[((out.length : Int) - 1).toNat]? = some b := by
          rw [hn, hol2]; simp
        refine ⟨⟨by omega, by omega⟩, by omega, fun b' hb' => ?_⟩
        rw [hget] at hb'
        injection hb' with hb'
        subst hb'
        refine ⟨by unfold R64; omega, fun k hk => ?_⟩
        subst hk
        refine ⟨fun hlow => ?_, fun hlow => ?_⟩
        · refine ⟨by unfold R64; omega, fun k hk => ?_⟩
          subst hk
          refine ⟨by unfold R64; omega, fun k hk => ?_⟩
          subst hk
          refine ⟨⟨by omega, by omega⟩, by omega, fun b' hb' => ?_⟩
          rw [hget] at hb'
          injection hb' with hb'
          subst hb'
          intro k hk
          subst hk
          refine ⟨⟨by omega, by omega⟩, by omega, fun b' hb' => ?_⟩
          rw [hget] at hb'
          injection hb' with hb'
          subst hb'
          intro out' hout'
          refine ⟨by unfold R64; omega, fun k hk => ?_⟩
          subst hk
          refine ⟨⟨by omega, by omega, ?_, ?_⟩, by simp only; omega⟩
          · rw [hout', List.length_set]
          · rw [htk, List.foldl_append, hq, hout', hn, hol2]
            simp [stepR, hlow]
        · refine ⟨by omega, by simp; omega, fun out' hout' => ?_⟩
          refine ⟨by unfold R64; omega, fun k hk => ?_⟩
          subst hk
          refine ⟨⟨by omega, by omega, rfl, ?_⟩, by simp only; omega⟩
          rw [htk, List.foldl_append, hq, hout', List.take_length, hol2]
          have : ¬ a.Low ≤ b.High + 1 := by omega
          simp [stepR, this]
    · have hnil : out = [] := List.eq_nil_of_length_eq_zero (by omega)
      have hq : ((sortR l).take i.toNat).foldl stepR [] = [] := by
        rw [hnil] at hout
        have := congrArg List.reverse hout
        simpa using this.symm
      refine ⟨by omega, by simp; omega, fun out' hout' => ?_⟩
      refine ⟨by unfold R64; omega, fun k hk => ?_⟩
      subst hk
      refine ⟨⟨by omega, by omega, rfl, ?_⟩, by simp only; omega⟩
      rw [htk, List.foldl_append, hq, hout', hnil]
      simp [stepR]
  · simp at hi
    refine ⟨fun h => by omega, fun _ => ⟨rfl, ?_⟩⟩
    rw [all_nat (by omega)] at hout
    rw [hout]
    rfl


def rest (n m : Int) : Int := (if n < 0 then -(n + 1) else n).tmod m
theorem s13 {n m : Int} (h : R64 n) (hm : m ≠ 0) : sp13 n m (rest n m) := by
  unfold R64 at h
  refine ok13 n m _ ⟨fun v => v = if n < 0 then -(n + 1) else n, ⟨fun hn => ?_, fun hn => ?_⟩, ?_⟩
  · refine ⟨by unfold R64; omega, fun v hv => ?_⟩
    subst hv
    refine ⟨by omega, fun v hv => ?_⟩
    rw [if_pos hn]; exact hv
  · rw [if_neg (by omega)]
  · rintro v rfl
    exact ⟨hm, fun v hv => hv⟩
theorem rest_range (n : Int) {m : Int} (hm : 0 < m) : 0 ≤ rest n m ∧ rest n m < m := by
  unfold rest
  have h : 0 ≤ (if n < 0 then -(n + 1) else n) := by split <;> omega
  rw [Int.tmod_eq_emod_of_nonneg h]
  exact ⟨Int.emod_nonneg _ (by omega), Int.emod_lt_of_pos _ hm⟩
def rawR (r : R) : R := ⟨1 + rest r.Low 200, 1 + rest r.Low 200 + rest r.High 20⟩
def rawF (l : List R) : List R := (l.take 12).map rawR
theorem rawR_ok (r : R) : okR (rawR r) := by
  have h1 := rest_range r.Low (m := 200) (by omega)
  have h2 := rest_range r.High (m := 20) (by omega)
  unfold okR rawR
  simp only
  omega
theorem rawF_ok (l : List R) : (∀ r ∈ rawF l, okR r) ∧ (rawF l).length ≤ 12 := by
  refine ⟨fun r hr => ?_, by simp [rawF, List.length_take]; omega⟩
  obtain ⟨x, _, rfl⟩ := List.mem_map.1 hr
  exact rawR_ok x
def setOf (l : List R) : List R := setF (rawF l)
theorem setOf_spec (l : List R) : Can (setOf l) ∧ (setOf l).length ≤ 12 := by
  obtain ⟨h1, h2⟩ := rawF_ok l
  obtain ⟨e1, _, e3⟩ := setF_spec h1
  exact ⟨e1, by unfold setOf; omega⟩
theorem s7 {l : List R} (h : ∀ r ∈ l, R64 r.Low ∧ R64 r.High) (hl : l.length < 2 ^ 62) : sp7 l (setOf l, true) := by
  refine ok7 l _ ⟨fun out i => 0 ≤ i ∧ i ≤ l.length ∧ out = rawF (l.take i.toNat), fun _ i => ((l.length : Int) - i).toNat, ⟨by omega, by omega, by simp [rawF]⟩, ?_⟩
  rintro out i ⟨h0, h1, rfl⟩ v rfl
  have hrl := (rawF_ok (l.take i.toNat)).2
  refine ⟨fun hi => ?_, fun hi => ?_⟩
  · simp at hi
    refine ⟨⟨h0, hi⟩, fun a ha => ?_⟩
    obtain ⟨_, htk, hm⟩ := at_nat h0 ha
    obtain ⟨q1, q2⟩ := h a hm
    have r1 := rest_range a.Low (m := 200) (by omega)
    have r2 := rest_range a.High (m := 20) (by omega)
    refine ⟨fun h12 => ?_, fun h12 => ?_⟩
    · refine ⟨_, s13 q1 (by omega), by unfold R64; omega, fun v hv => ?_⟩
      subst hv
      refine ⟨_, s13 q2 (by omega), by unfold R64; omega, fun v hv => ?_⟩
      subst hv
      refine ⟨by simp; omega, fun o ho => ?_⟩
      refine ⟨by unfold R64; omega, fun v hv => ?_⟩
      subst hv
      refine ⟨⟨by omega, by omega, ?_⟩, by simp only; omega⟩
      rw [ho, htk]
      unfold rawF
      have e1 : (l.take i.toNat).take 12 = l.take i.toNat := List.take_of_length_le (by rw [List.length_take]; omega)
      have e2 : (l.take i.toNat ++ [a]).take 12 = l.take i.toNat ++ [a] := List.take_of_length_le (by simp [List.length_take]; omega)
      rw [e1, e2, List.map_append]
      rfl
    · refine ⟨by unfold R64; omega, fun v hv => ?_⟩
      subst hv
      refine ⟨⟨by omega, by omega, ?_⟩, by simp only; omega⟩
      unfold rawF
      rw [List.take_take, List.take_take, show min 12 (i + 1).toNat = 12 by omega, show min 12 i.toNat = 12 by omega]
  · simp at hi
    rw [all_nat (by omega)] at hrl ⊢
    obtain ⟨k1, k2⟩ := setOf_spec l
    refine ⟨_, s12 (rawF_ok l).1 (by omega), fun _ => ⟨_, s21 k1 (by unfold setOf at k2; simp only; omega), ?_⟩, fun h => absurd rfl h⟩
    rintro v rfl
    rfl


theorem s23 {l : List R} (hc : Can l) (hl : l.length ≤ 1000) : sp23 l (notF l) := by
  refine ok23 l _ ⟨fun out a i => 0 ≤ i ∧ i ≤ l.length ∧ 1 ≤ a ∧ a ≤ 10000 ∧ out.length ≤ i ∧ notF l = out ++ notG a (l.drop i.toNat), fun _ _ i => ((l.length : Int) - i).toNat, ⟨by omega, by omega, by omega, by omega, by simp, by simp [notF]⟩, ?_⟩
  rintro out a i ⟨h0, h1, ha1, ha2, hol, hout⟩ v rfl
  refine ⟨fun hi => ?_, fun hi => ?_⟩
  · simp at hi
    refine ⟨⟨h0, hi⟩, fun r hr => ?_⟩
    obtain ⟨_, _, hm⟩ := at_nat h0 hr
    have ho := hc.1 r hm
    unfold okR at ho
    have hd : l.drop i.toNat = r :: l.drop (i + 1).toNat := by
      obtain ⟨q1, q2⟩ := List.getElem?_eq_some_iff.1 hr
      rw [List.drop_eq_getElem_cons q1, q2, show (i + 1).toNat = i.toNat + 1 by omega]
    rw [hd] at hout
    simp only [notG] at hout
    refine ⟨fun o => o.length ≤ i + 1 ∧ notF l = o ++ notG (r.High + 1) (l.drop (i + 1).toNat), ⟨fun hlt => ?_, fun hlt => ?_⟩, ?_⟩
    · refine ⟨by unfold R64; omega, fun w hw => ?_⟩
      subst hw
      refine ⟨by simp; omega, fun o ho => ?_⟩
      subst ho
      rw [if_pos hlt] at hout
      exact ⟨by simp; omega, by rw [hout, List.append_assoc]⟩
    · rw [if_neg (by omega)] at hout
      exact ⟨by omega, by simpa using hout⟩
    · rintro o ⟨e1, e2⟩
      refine ⟨by unfold R64; omega, fun w hw => ?_⟩
      subst hw
      refine ⟨by unfold R64; omega, fun w hw => ?_⟩
      subst hw
      exact ⟨⟨by omega, by omega, by omega, by omega, by omega, e2⟩, by simp only; omega⟩
  · simp at hi
    rw [List.drop_of_length_le (by omega)] at hout
    simp only [notG] at hout
    refine ⟨fun h => ⟨by simp; omega, fun o ho => ?_⟩, fun h => ?_⟩
    · rw [if_pos h] at hout
      rw [ho, hout]
    · rw [if_neg (by omega)] at hout
      rw [hout, List.append_nil]
theorem s8 {l : List R} (hc : Can l) (hl : l.length ≤ 49) : sp8 l (notF l, 0) := by
  obtain ⟨_, _, h3⟩ := notF_spec hc
  exact ok8 l _ ⟨0, s21 hc (by omega), fun h => absurd rfl h, fun _ => ⟨_, s23 hc (by omega), _, s22 _ (by omega), rfl⟩⟩

theorem s24 (a b : List R) (ha : a.length ≤ 1000) (hb : b.length ≤ 1000) : sp24 [a, b] (a ++ b) := by
  have hcase : ∀ i : Int, 0 ≤ i → i < 2 → i = 0 ∨ i = 1 := fun i h1 h2 => by omega
  refine ok24 [a, b] _ ⟨fun n i => 0 ≤ i ∧ i ≤ 2 ∧ n = ((([a, b] : List (List R)).take i.toNat).flatten.length : Int), fun _ i => (2 - i).toNat, ⟨by omega, by omega, by simp⟩, ?_⟩
  rintro n i ⟨h0, h1, rfl⟩ v rfl
  refine ⟨fun hi => ?_, fun hi => ?_⟩
  · simp at hi
    refine ⟨⟨h0, by simp; omega⟩, fun x hx => ?_⟩
    obtain ⟨_, htk, _⟩ := at_nat h0 hx
    have hb : ((([a, b] : List (List R)).take i.toNat).flatten.length : Int) ≤ 2000 ∧ (x.length : Int) ≤ 1000 := by
      rcases hcase i h0 hi with rfl | rfl
      · simp at hx ⊢; subst hx; omega
      · simp at hx ⊢; subst hx; omega
    refine ⟨by unfold R64; omega, fun v hv => ?_⟩
    subst hv
    refine ⟨fun h => by omega, fun _ => ⟨by unfold R64; omega, fun v hv => ?_⟩⟩
    subst hv
    refine ⟨⟨by omega, by omega, ?_⟩, by simp only; omega⟩
    rw [htk]
    simp
  · simp at hi
    obtain rfl : i = 2 := by omega
    refine ⟨[], by simpa using s42 (a ++ b).length (by simp; omega), ?_⟩
    refine ⟨fun out i => 0 ≤ i ∧ i ≤ 2 ∧ out = (([a, b] : List (List R)).take i.toNat).flatten, fun _ i => (2 - i).toNat, ⟨by omega, by omega, by simp⟩, ?_⟩
    rintro out i ⟨h0, h1, rfl⟩ v rfl
    refine ⟨fun hi => ?_, fun hi => ?_⟩
    · simp at hi
      refine ⟨⟨h0, by simp; omega⟩, fun x hx => ?_⟩
      obtain ⟨_, htk, _⟩ := at_nat h0 hx
      have hb : ((([a, b] : List (List R)).take i.toNat).flatten.length : Int) ≤ 2000 ∧ (x.length : Int) ≤ 1000 := by
        rcases hcase i h0 hi with rfl | rfl
        · simp at hx ⊢; subst hx; omega
        · simp at hx ⊢; subst hx; omega
      refine ⟨by omega, fun o ho => ?_⟩
      subst ho
      refine ⟨by unfold R64; omega, fun v hv => ?_⟩
      subst hv
      refine ⟨⟨by omega, by omega, ?_⟩, by simp only; omega⟩
      rw [htk]
      simp
    · simp at hi
      obtain rfl : i = 2 := by omega
      simp

theorem s9 {a b : List R} (ha : Can a) (hb : Can b) (hl : a.length + b.length ≤ 50) : sp9 a b (setF (a ++ b), 0) := by
  refine ok9 a b _ ⟨fun i => 0 ≤ i ∧ i ≤ 2, fun i => (2 - i).toNat, ⟨by omega, by omega⟩, ?_⟩
  rintro i ⟨h0, h1⟩ v rfl
  refine ⟨fun hi => ?_, fun hi => ?_⟩
  · simp at hi
    refine ⟨fun x => Can x ∧ x.length ≤ 50, ⟨⟨h0, hi⟩, fun _ => ⟨ha, by omega⟩, fun _ => ⟨hb, by omega⟩⟩, ?_⟩
    rintro x ⟨hx, hxl⟩
    refine ⟨0, s21 hx hxl, fun h => absurd rfl h, fun _ => ⟨by unfold R64; omega, fun v hv => ?_⟩⟩
    subst hv
    exact ⟨⟨by omega, by omega⟩, by simp only; omega⟩
  · refine ⟨_, s24 a b (by omega) (by omega), _, s12 (fun r hr => ?_) (by simp; omega), rfl⟩
    rcases List.mem_append.1 hr with h | h
    · exact ha.1 r h
    · exact hb.1 r h

theorem s10 {a b : List R} (ha : Can a) (hb : Can b) (hal : a.length ≤ 50) (hbl : b.length ≤ 50) (hl : (bothF a b).length ≤ 50) : sp10 a b (bothF a b, 0) := by
  refine ok10 a b _ ⟨fun i => 0 ≤ i ∧ i ≤ 2, fun i => (2 - i).toNat, ⟨by omega, by omega⟩, ?_⟩
  rintro i ⟨h0, h1⟩ v rfl
  refine ⟨fun hi => ?_, fun hi => ?_⟩
  · simp at hi
    refine ⟨fun x => Can x ∧ x.length ≤ 50, ⟨⟨h0, hi⟩, fun _ => ⟨ha, by omega⟩, fun _ => ⟨hb, by omega⟩⟩, ?_⟩
    rintro x ⟨hx, hxl⟩
    refine ⟨0, s21 hx hxl, fun h => absurd rfl h, fun _ => ⟨by unfold R64; omega, fun v hv => ?_⟩⟩
    subst hv
    exact ⟨⟨by omega, by omega⟩, by simp only; omega⟩
  · have hpre : ∀ (x y : List R), (bothF x b).length ≤ (bothF (x ++ y) b).length := fun x y => by simp [bothF, List.flatMap_append]
    refine ⟨fun out i => 0 ≤ i ∧ i ≤ a.length ∧ out = bothF (a.take i.toNat) b, fun _ i => ((a.length : Int) - i).toNat, ⟨by omega, by omega, by simp [bothF]⟩, ?_⟩
    rintro out i ⟨h0, h1, rfl⟩ v rfl
    refine ⟨fun hi => ?_, fun hi => ?_⟩
    · simp at hi
      refine ⟨⟨h0, hi⟩, fun x hx => ?_⟩
      obtain ⟨_, htk, hm⟩ := at_nat h0 hx
      have hxo := ha.1 x hm
      unfold okR at hxo
      have hfull : bothF (a.take (i + 1).toNat) b = bothF (a.take i.toNat) b ++ b.filterMap (capR x) := by rw [htk]; simp [bothF, List.flatMap_append]
      have hle : (bothF (a.take (i + 1).toNat) b).length ≤ 50 := by
        have := hpre (a.take (i + 1).toNat) (a.drop (i + 1).toNat)
        rw [List.take_append_drop] at this
        omega
      refine ⟨fun out j => 0 ≤ j ∧ j ≤ b.length ∧ out = bothF (a.take i.toNat) b ++ (b.take j.toNat).filterMap (capR x), fun _ j => ((b.length : Int) - j).toNat, ⟨by omega, by omega, by simp⟩, ?_⟩
      rintro out j ⟨j0, j1, rfl⟩ v rfl
      have hlen : (bothF (a.take i.toNat) b ++ (b.take j.toNat).filterMap (capR x)).length ≤ 50 := by
        rw [hfull] at hle
        have : ((b.take j.toNat).filterMap (capR x)).length ≤ (b.filterMap (capR x)).length := ((List.take_sublist j.toNat b).filterMap (capR x)).length_le
        simp only [List.length_append] at hle ⊢
        omega
      refine ⟨fun hj => ?_, fun hj => ?_⟩
      · simp at hj
        refine ⟨⟨j0, hj⟩, fun y hy => ?_⟩
        obtain ⟨_, htkb, hmb⟩ := at_nat j0 hy
        have hyo := hb.1 y hmb
        unfold okR at hyo
        intro lo hlo hi' hhi
        subst hlo; subst hhi
        refine ⟨fun hle2 => ?_, fun hlt => ?_⟩
        · refine ⟨by simp only [List.length_append, List.length_singleton] at hlen ⊢; omega, fun o ho => ?_⟩
          refine ⟨by unfold R64; omega, fun w hw => ?_⟩
          subst hw
          refine ⟨⟨by omega, by omega, ?_⟩, by simp only; omega⟩
          rw [ho, htkb, List.filterMap_append, List.append_assoc]
          simp [capR, hle2]
        · refine ⟨by unfold R64; omega, fun w hw => ?_⟩
          subst hw
          refine ⟨⟨by omega, by omega, ?_⟩, by simp only; omega⟩
          have : ¬ max x.Low y.Low ≤ min x.High y.High := by omega
          rw [htkb, List.filterMap_append]
          simp [capR, this]
      · simp at hj
        refine ⟨by unfold R64; omega, fun w hw => ?_⟩
        subst hw
        refine ⟨⟨by omega, by omega, ?_⟩, by simp only; omega⟩
        rw [hfull, all_nat (l := b) (i := j) hj]
    · simp at hi
      rw [all_nat (by omega)]
      exact ⟨_, s22 _ hl, rfl⟩

theorem s11 (a b : List R) (hl : a.length < 2 ^ 62) : sp11 a b (decide (a = b)) := by
  refine ok11 a b _ ⟨fun h => ?_, fun hlen => ?_⟩
  · exact (decide_eq_false fun e => h (by rw [e])).symm
  · refine ⟨fun i => 0 ≤ i ∧ i ≤ a.length ∧ a.take i.toNat = b.take i.toNat, fun i => ((a.length : Int) - i).toNat, ⟨by omega, by omega, by simp⟩, ?_⟩
    rintro i ⟨h0, h1, he⟩ v rfl
    refine ⟨fun hi => ?_, fun hi => ?_⟩
    · simp at hi
      refine ⟨⟨h0, hi⟩, fun x hx => ⟨⟨h0, by omega⟩, fun y hy => ⟨fun hne => ?_, fun heq => ?_⟩⟩⟩
      · refine (decide_eq_false fun e => hne ?_).symm
        rw [e, hy] at hx
        injection hx with hx
        exact hx.symm
      · subst heq
        refine ⟨by unfold R64; omega, fun w hw => ?_⟩
        subst hw
        refine ⟨⟨by omega, by omega, ?_⟩, by simp only; omega⟩
        rw [(at_nat h0 hx).2.1, (at_nat h0 hy).2.1, he]
    · simp at hi
      rw [all_nat (by omega), all_nat (by omega)] at he
      simp [he]

end Go.Hw.VD

