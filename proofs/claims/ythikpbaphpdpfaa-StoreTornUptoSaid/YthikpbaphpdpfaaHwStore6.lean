import Derived.Test.YthikpbaphpdpfaaHwStore5
set_option linter.unusedVariables false
set_option linter.unusedSimpArgs false
namespace Go.Hw.VB
open Go Go.Proofs

def letsOf (l : List Rw) : List Lt := (List.range (min l.length 3)).map fun k => letOf ((l.take (min l.length (k + 5))).drop k)
def snOf (n : Int) (l : List Rw) : Sn := ⟨restN n 1000, (List.range (1 + restN n 3)).map fun i : Nat => parOf (1001 + (i : Int)) (l.drop i), (List.range (restN (n.tdiv 7) 3)).map fun i : Nat => ⟨1, 2 + (i : Int), letsOf l⟩⟩
theorem rws_drop {l : List Rw} (h : RwsOk l) (i : Nat) : RwsOk (l.drop i) :=
  ⟨fun r hr => h.1 r (List.mem_of_mem_drop hr), by have := h.2; rw [List.length_drop]; omega⟩
theorem rws_cut {l : List Rw} (h : RwsOk l) (j i : Nat) : RwsOk ((l.take j).drop i) :=
  ⟨fun r hr => h.1 r (List.mem_of_mem_take (List.mem_of_mem_drop hr)), by have := h.2; rw [List.length_drop, List.length_take]; omega⟩
theorem snoc_range {A : Type} (f : Nat → A) (k : Nat) : (List.range (k + 1)).map f = (List.range k).map f ++ [f k] := by
  rw [List.range_succ, List.map_append]; rfl
theorem tdiv7 {n : Int} (h : I64 n) : I64 (n.tdiv 7) := by
  unfold I64 at *
  rcases Int.lt_or_le n 0 with h0 | h0
  · have e : n.tdiv 7 = -((-n) / 7) := by
      rw [← Int.neg_neg n, Int.neg_tdiv, Int.tdiv_eq_ediv_of_nonneg (by omega), Int.neg_neg]
    omega
  · rw [Int.tdiv_eq_ediv_of_nonneg h0]; omega
theorem snapOf_call (n : Int) {l : List Rw} (hn : I64 n) (hl : RwsOk l) : sp27 n l (snOf n l) := by
  have hl2 := hl.2
  unfold B at hl2
  refine ok27 _ _ _ ?_
  unfold w27
  have r3 := restN_lt n (m := 3) (by omega)
  have r7 := restN_lt (n.tdiv 7) (m := 3) (by omega)
  have h7 := tdiv7 hn
  refine ⟨_, rest_call n 1000 (by omega) hn, _, rest_call n 3 (by omega) hn, by omega, ?_⟩
  rintro _ rfl
  refine ⟨fun v i => ∃ k : Nat, i = k ∧ k ≤ 1 + restN n 3 ∧ v = (List.range k).map fun i : Nat => parOf (1001 + (i : Int)) (l.drop i), fun _ i => 5 - i.toNat, ⟨0, rfl, by omega, rfl⟩, ?_⟩
  rintro _ _ ⟨k, rfl, hk, rfl⟩ t rfl
  refine ⟨fun h => ?_, fun h => ?_⟩
  · have hkl : k < 1 + restN n 3 := by simp at h; omega
    refine ⟨by omega, ?_⟩
    rintro _ rfl
    rintro _ rfl
    refine ⟨by omega, ?_⟩
    rintro _ rfl
    have e1 : (l.take ((l.length : Int) : Int).toNat).drop (min (l.length : Int) (k : Int)).toNat = l.drop k := by
      rw [Int.toNat_natCast, List.take_length]
      by_cases hc : k ≤ l.length
      · rw [show (min (l.length : Int) (k : Int)).toNat = k by omega]
      · rw [List.drop_of_length_le (by omega), List.drop_of_length_le (by omega)]
    rw [e1]
    refine ⟨_, parcelOf_call _ (rws_drop hl k), by simp; omega, ?_⟩
    rintro _ rfl
    refine ⟨by omega, ?_⟩
    rintro _ rfl
    exact ⟨⟨k + 1, by omega, by omega, (snoc_range (fun i : Nat => parOf (1001 + (i : Int)) (l.drop i)) k).symm⟩, by (try dsimp only); omega⟩
  · have hkl : k = 1 + restN n 3 := by simp at h; omega
    subst hkl
    refine ⟨⟨by decide, h7.1, h7.2⟩, ?_⟩
    rintro _ rfl
    refine ⟨_, rest_call _ 3 (by omega) h7, ?_⟩
    refine ⟨fun v i => ∃ k : Nat, i = k ∧ k ≤ restN (n.tdiv 7) 3 ∧ v = (List.range k).map fun i : Nat => (⟨1, 2 + (i : Int), letsOf l⟩ : Wy), fun _ i => 5 - i.toNat, ⟨0, rfl, by omega, rfl⟩, ?_⟩
    rintro _ _ ⟨k, rfl, hk, rfl⟩ t rfl
    refine ⟨fun h => ?_, fun h => ?_⟩
    · have hkl : k < restN (n.tdiv 7) 3 := by simp at h; omega
      refine ⟨by omega, ?_⟩
      rintro _ rfl
      rintro _ rfl
      refine ⟨fun v i => ∃ j : Nat, i = j ∧ j ≤ min l.length 3 ∧ v = (List.range j).map fun k => letOf ((l.take (min l.length (k + 5))).drop k), fun _ i => 5 - i.toNat, ⟨0, rfl, by omega, rfl⟩, ?_⟩
      rintro _ _ ⟨j, rfl, hj, rfl⟩ t rfl
      refine ⟨fun h => ?_, fun h => ?_⟩
      · have hjl : j < min l.length 3 := by simp at h; omega
        refine ⟨by omega, ?_⟩
        rintro _ rfl
        rintro _ rfl
        refine ⟨by omega, ?_⟩
        rintro _ rfl
        have e1 : (l.take (min (l.length : Int) ((j : Int) + 5)).toNat).drop ((j : Int) : Int).toNat = (l.take (min l.length (j + 5))).drop j := by
          rw [Int.toNat_natCast, show (min (l.length : Int) ((j : Int) + 5)).toNat = min l.length (j + 5) by omega]
        rw [e1]
        refine ⟨_, letterOf_call (rws_cut hl _ _), by simp; omega, ?_⟩
        rintro _ rfl
        refine ⟨by omega, ?_⟩
        rintro _ rfl
        exact ⟨⟨j + 1, by omega, by omega, (snoc_range (fun k : Nat => letOf ((l.take (min l.length (k + 5))).drop k)) j).symm⟩, by (try dsimp only); omega⟩
      · have hjl : j = min l.length 3 := by simp at h; omega
        subst hjl
        refine ⟨by simp; omega, ?_⟩
        rintro _ rfl
        refine ⟨by omega, ?_⟩
        rintro _ rfl
        exact ⟨⟨k + 1, by omega, by omega, (snoc_range (fun i : Nat => (⟨1, 2 + (i : Int), letsOf l⟩ : Wy)) k).symm⟩, by (try dsimp only); omega⟩
    · have hkl : k = restN (n.tdiv 7) 3 := by simp at h; omega
      subst hkl
      rfl
theorem parOf_len {n : Int} {k : Nat} {p : Pc} (h : PG n k p) (hk : k ≤ 8) (hg : PGood p) : (encP p).length < 4294967296 := by
  obtain ⟨a1, a2, a3, a4, a5, a6, a7, a8, a9, a10, a11, a12, a13⟩ := h
  have r1 := hg.ok.ref
  have e1 := leb_10 (n := p.Ref.toNat) (by omega)
  have e3 := leb_10 (n := p.Box.length) (by omega)
  have e4 : (catL encL p.Box).length ≤ 8 * 1616441 := Nat.le_trans (catL_len fun a ha => encL_len (a7 a ha).ok (a7 a ha).check) (Nat.mul_le_mul_right _ (by omega))
  have e5 := leb_10 (zig_lt hg.ok.ticks)
  have e6 := leb_10 (n := p.Watches.length) (by omega)
  have e7 := leb_10 (n := p.Links.length) (by omega)
  have nl : ∀ n : Int, n ≤ 9223372036854775807 → (lebI n).length ≤ 10 := fun n hn => leb_10 (n := n.toNat) (by omega)
  have e8 : (catL lebI p.Watches).length ≤ 8 * 10 := Nat.le_trans (catL_len fun a ha => nl a (hg.ok.wa a ha)) (Nat.mul_le_mul_right _ (by omega))
  have e9 : (catL lebI p.Links).length ≤ 8 * 10 := Nat.le_trans (catL_len fun a ha => nl a (hg.ok.li a ha)) (Nat.mul_le_mul_right _ (by omega))
  have s1 := leb_10 (n := p.Saved.Actor.length) (by rw [a2]; simp)
  have s2 := leb_10 (n := p.Saved.State.length) (by omega)
  have s3 := leb_10 (n := p.Saved.Inputs.length) (by omega)
  have s4 : (encs p.Saved.State).length ≤ 6 * 1612400 := by
    rw [encs_catL]
    exact Nat.le_trans (catL_len fun a ha => (check_len (a3 a ha).ok (a3 a ha).check).1) (Nat.mul_le_mul_right _ a4)
  have s5 : (catL encI p.Saved.Inputs).length ≤ 16 * 1612401 := Nat.le_trans (catL_len fun a ha => encI_len (a5 a ha).ok (a5 a ha).check) (Nat.mul_le_mul_right _ (by omega))
  have s6 : p.Saved.Actor.length = 1 := by rw [a2]; rfl
  unfold encP encS
  simp only [List.length_append]
  omega
theorem snOf_good (n : Int) {l : List Rw} (hn : I64 n) (hl : RwsOk l) : SGood (snOf n l) := by
  have r0 := restN_lt n (m := 1000) (by omega)
  have r3 := restN_lt n (m := 3) (by omega)
  have r7 := restN_lt (n.tdiv 7) (m := 3) (by omega)
  have hp : ∀ i : Nat, i < 3 → PGood (parOf (1001 + (i : Int)) (l.drop i)) ∧ (encP (parOf (1001 + (i : Int)) (l.drop i))).length < 4294967296 ∧ (parOf (1001 + (i : Int)) (l.drop i)).Ref = 1001 + (i : Int) := by
    intro i hi
    have h1 := pst_good (1001 + (i : Int)) (rws_drop hl i) (min (l.drop i).length 8)
    change PG _ _ (parOf _ (l.drop i)) at h1
    have h2 := h1.good (by omega) ⟨by omega, by omega⟩
    exact ⟨h2, parOf_len h1 (by omega) h2, h1.ref⟩
  have hlet : ∀ x ∈ letsOf l, LG x ∧ (encL x).length ≤ 65535 := by
    intro x hx
    unfold letsOf at hx
    obtain ⟨k, hk, rfl⟩ := List.mem_map.1 hx
    have := letOf_len (rws_cut hl (min l.length (k + 5)) k)
    exact ⟨letOf_good (rws_cut hl _ _), by omega⟩
  have hln : (letsOf l).length ≤ 3 := by unfold letsOf; simp; omega
  have hP : ∀ p ∈ (snOf n l).Parcels, PGood p ∧ (encP p).length < 4294967296 := by
    intro p hp'
    obtain ⟨i, hi, rfl⟩ := List.mem_map.1 hp'
    have := hp i (by simp at hi; omega)
    exact ⟨this.1, this.2.1⟩
  have hW : ∀ w ∈ (snOf n l).Ways, Small w ∧ ∀ x ∈ w.Letters, LG x := by
    intro w hw
    obtain ⟨i, hi, rfl⟩ := List.mem_map.1 hw
    exact ⟨fun x hx => (hlet x hx).2, fun x hx => (hlet x hx).1⟩
  refine ⟨⟨fun p hp' => (hP p hp').1.ok, fun w hw => ?_, by unfold snOf I64; dsimp only; omega⟩, ?_, hP, hW⟩
  · obtain ⟨i, hi, rfl⟩ := List.mem_map.1 hw
    exact ⟨by dsimp only; unfold B; omega, fun x hx => (hlet x hx).1.ok⟩
  · unfold snE
    rw [if_neg (by unfold snOf; simp; omega), if_neg (by unfold snOf; simp; omega), if_neg (by unfold snOf; dsimp only; omega)]
    have h1 : firstI (parE (snOf n l).Parcels) (snOf n l).Parcels = 0 := by
      refine firstI_zero.2 fun j b hb => ?_
      have hget : ∀ (j : Nat) (b : Pc), (snOf n l).Parcels[j]? = some b → j < 3 ∧ b = parOf (1001 + (j : Int)) (l.drop j) := by
        intro j b hb
        unfold snOf at hb
        simp only [List.getElem?_map, List.getElem?_range, Option.map_eq_some_iff] at hb
        obtain ⟨i, hi, rfl⟩ := hb
        rw [List.getElem?_eq_some_iff] at hi
        obtain ⟨h1, h2⟩ := hi
        simp at h1 h2
        subst h2
        exact ⟨by omega, rfl⟩
      obtain ⟨hj, rfl⟩ := hget j b hb
      obtain ⟨g1, g2, g3⟩ := hp j hj
      unfold parE
      rw [if_neg (by simp [g1.check]), if_neg]
      rintro ⟨h0, q, hq, hle⟩
      obtain ⟨hj2, rfl⟩ := hget _ q hq
      rw [g3, (hp (j - 1) (by omega)).2.2] at hle
      omega
    rw [if_neg (by simp [h1])]
    refine firstI_zero.2 fun j b hb => ?_
    have hget : ∀ (j : Nat) (b : Wy), (snOf n l).Ways[j]? = some b → j < 3 ∧ b = ⟨1, 2 + (j : Int), letsOf l⟩ := by
      intro j b hb
      unfold snOf at hb
      simp only [List.getElem?_map, Option.map_eq_some_iff] at hb
      obtain ⟨i, hi, rfl⟩ := hb
      rw [List.getElem?_eq_some_iff] at hi
      obtain ⟨h1, h2⟩ := hi
      simp at h1 h2
      subst h2
      exact ⟨by omega, rfl⟩
    have hjl := lt_of_get hb
    obtain ⟨hj, rfl⟩ := hget j b hb
    unfold wayE
    have h2 : j < 2 := by unfold snOf at hjl; simp at hjl; omega
    rw [if_neg (by dsimp only; omega), if_neg (by dsimp only; omega), if_neg, firstE_zero.2 fun x hx => (hlet x hx).1.check]
    rintro ⟨a, ha, hc⟩
    rw [List.length_take, List.getElem?_take] at ha
    split at ha
    · rename_i hlt
      rw [show min j (snOf n l).Ways.length - 1 = j - 1 by omega] at ha
      obtain ⟨_, rfl⟩ := hget _ a ha
      dsimp only at hc
      omega
    · cases ha
end Go.Hw.VB

