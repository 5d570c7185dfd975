/- LockTurned, in plain terms. -/
import Derived.Test.YtonoaimefgodfaaHwLock
set_option linter.unusedVariables false
set_option linter.unusedSimpArgs false
namespace Go.Hw.G4
open Go Go.Proofs

def nm (i : Nat) : List UInt8 := [UInt8.ofNat (97 + i)]
def pk (f : Nat → Int) : Nat → Nat → List GSolve_Pick
  | _, 0 => []
  | i, n + 1 => if f i = 0 then pk f (i + 1) n else ⟨nm i, f i⟩ :: pk f (i + 1) n
def tn (f g : Nat → Int) : Nat → Nat → List GLock_Turn
  | _, 0 => []
  | i, n + 1 => if f i = g i then tn f g (i + 1) n else ⟨nm i, f i, g i⟩ :: tn f g (i + 1) n
theorem pk_mem (f : Nat → Int) : ∀ (n i : Nat) (p : GSolve_Pick), p ∈ pk f i n → ∃ j, i ≤ j ∧ j < i + n ∧ f j ≠ 0 ∧ p = ⟨nm j, f j⟩
  | 0, i, p, h => by simp [pk] at h
  | n + 1, i, p, h => by
    unfold pk at h
    split at h
    · obtain ⟨j, h1, h2, h3⟩ := pk_mem f n (i + 1) p h
      exact ⟨j, by omega, by omega, h3⟩
    · rename_i hf
      rcases List.mem_cons.1 h with rfl | h
      · exact ⟨i, by omega, by omega, hf, rfl⟩
      · obtain ⟨j, h1, h2, h3⟩ := pk_mem f n (i + 1) p h
        exact ⟨j, by omega, by omega, h3⟩
theorem tn_mem (f g : Nat → Int) : ∀ (n i : Nat) (p : GLock_Turn), p ∈ tn f g i n → ∃ j, i ≤ j ∧ j < i + n ∧ f j ≠ g j ∧ p = ⟨nm j, f j, g j⟩
  | 0, i, p, h => by simp [tn] at h
  | n + 1, i, p, h => by
    unfold tn at h
    split at h
    · obtain ⟨j, h1, h2, h3⟩ := tn_mem f g n (i + 1) p h
      exact ⟨j, by omega, by omega, h3⟩
    · rename_i hf
      rcases List.mem_cons.1 h with rfl | h
      · exact ⟨i, by omega, by omega, hf, rfl⟩
      · obtain ⟨j, h1, h2, h3⟩ := tn_mem f g n (i + 1) p h
        exact ⟨j, by omega, by omega, h3⟩
theorem less_nm : ∀ i, i < 8 → ∀ j, j < 8 → bytesLess (nm i) (nm j) = decide (i < j) := by decide
theorem nm_inj : ∀ i, i < 8 → ∀ j, j < 8 → nm i = nm j → i = j := by decide
theorem nm_byte : ∀ i, i < 8 → nm i = [IntKind.wrap .u8 (97 + (i : Int))].map (fun m : Int => UInt8.ofNat m.toNat) ∧ 0 ≤ IntKind.wrap .u8 (97 + (i : Int)) ∧ IntKind.wrap .u8 (97 + (i : Int)) < 256 := by decide
theorem pk_len (f : Nat → Int) : ∀ n i, (pk f i n).length ≤ n
  | 0, i => by simp [pk]
  | n + 1, i => by
    have := pk_len f n (i + 1)
    unfold pk
    split <;> simp <;> omega
theorem tn_len (f g : Nat → Int) : ∀ n i, (tn f g i n).length ≤ n
  | 0, i => by simp [tn]
  | n + 1, i => by
    have := tn_len f g n (i + 1)
    unfold tn
    split <;> simp <;> omega
theorem pk_sorted (f : Nat → Int) : ∀ (n i : Nat), i + n ≤ 8 → (pk f i n).Pairwise fun a b => bytesLess a.Name b.Name = true
  | 0, i, _ => by simp [pk]
  | n + 1, i, h => by
    unfold pk
    split
    · exact pk_sorted f n (i + 1) (by omega)
    · refine List.pairwise_cons.2 ⟨fun p hp => ?_, pk_sorted f n (i + 1) (by omega)⟩
      obtain ⟨j, h1, h2, _, rfl⟩ := pk_mem f n (i + 1) p hp
      simp only
      rw [less_nm i (by omega) j (by omega)]
      simp
      omega
theorem adj {l : List GSolve_Pick} (h : l.Pairwise fun a b => bytesLess a.Name b.Name = true) {k : Nat} {a c : GSolve_Pick} (ha : l[k]? = some a) (hc : l[k + 1]? = some c) : bytesLess a.Name c.Name = true := by
  obtain ⟨h1, rfl⟩ := List.getElem?_eq_some_iff.1 ha
  obtain ⟨h2, rfl⟩ := List.getElem?_eq_some_iff.1 hc
  exact List.pairwise_iff_getElem.1 h k (k + 1) h1 h2 (by omega)
theorem name_ok (i : Nat) (hi : i < 8) : sp62 (nm i) true := by
  refine ok62 _ _ ?_
  unfold w62
  refine ⟨fun a b => a = 1 ∧ (b = 0 ∨ b = 1), fun a b => (1 - b).toNat, ⟨rfl, .inl rfl⟩, ?_⟩
  rintro a b ⟨rfl, hb⟩ t rfl
  have hc : 97 ≤ (UInt8.ofNat (97 + i)).toNat ∧ (UInt8.ofNat (97 + i)).toNat ≤ 122 := by
    rw [UInt8.toNat_ofNat', Nat.mod_eq_of_lt (by omega)]; omega
  refine ⟨fun h => ?_, fun h => ?_⟩
  · have hb0 : b = 0 := by simp at h; omega
    subst hb0
    refine ⟨by simp [nm], fun c hc2 => ?_⟩
    have hc3 : some (UInt8.ofNat (97 + i)) = some c := hc2
    injection hc3 with hc3
    subst hc3
    refine ⟨fun h => by omega, fun _ => ⟨fun h => by omega, fun _ => ⟨by omega, ?_⟩⟩⟩
    rintro _ rfl
    exact ⟨⟨rfl, .inr (by omega)⟩, by dsimp only; omega⟩
  · refine ⟨fun _ => ?_, fun h => by simp [nm] at h⟩
    rintro _ rfl
    simp [nm]
theorem check_ok (f : Nat → Int) (hf : ∀ j, 0 ≤ f j ∧ f j ≤ 9999) (i n : Nat) (h : i + n ≤ 8) : sp45 (pk f i n) 0 := by
  refine ok45 _ _ ?_
  have hl := pk_len f n i
  have hs := pk_sorted f n i h
  have hm := pk_mem f n i
  unfold w45
  refine ⟨fun h => by omega, fun _ => ⟨fun a b => a = ((pk f i n).length : Int) ∧ ∃ k : Nat, b = k ∧ k ≤ (pk f i n).length, fun a b => (a - b).toNat, ⟨rfl, 0, rfl, by omega⟩, ?_⟩⟩
  generalize pk f i n = l at hl hs hm
  rintro a b ⟨rfl, k, rfl, hk⟩ t rfl
  refine ⟨fun h1 => ?_, fun _ => rfl⟩
  have hkl : k < l.length := by simp at h1; omega
  refine ⟨by omega, fun p hp => ?_⟩
  have hp' : l[k]? = some p := by simpa using hp
  obtain ⟨j, h2, h3, h4, rfl⟩ := hm p (List.mem_of_getElem? hp')
  have := hf j
  refine ⟨true, name_ok j (by omega), fun h => by simp at h, fun _ => ⟨fun h => by simp only at h; omega, fun _ => ⟨fun h => by simp only at h; omega, fun _ => ⟨fun h5 => ⟨by omega, ?_⟩, fun _ => ⟨by omega, ?_⟩⟩⟩⟩⟩
  · rintro _ rfl
    refine ⟨by omega, fun q hq => ?_⟩
    obtain ⟨k', rfl⟩ : ∃ k', k = k' + 1 := ⟨k - 1, by omega⟩
    have hq' : l[k']? = some q := by
      have : (((k' + 1 : Nat) : Int) - 1).toNat = k' := by omega
      rwa [this] at hq
    have hlt := adj hs hq' hp'
    simp only at hlt
    rintro _ rfl
    refine ⟨fun h => by simp only [hlt] at h; simp at h, fun _ => ⟨by omega, ?_⟩⟩
    rintro _ rfl
    exact ⟨⟨rfl, k' + 1 + 1, by omega, by omega⟩, by dsimp only; omega⟩
  · rintro _ rfl
    exact ⟨⟨rfl, k + 1, by omega, by omega⟩, by dsimp only; omega⟩
theorem norm (f g : Nat → Int) : ∀ (n i : Nat), (pk f i n ≠ [] ∨ pk g i n ≠ []) → ∃ j k, j + k + 1 = i + n ∧ (f j ≠ 0 ∨ g j ≠ 0) ∧ pk f i n = pk f j (k + 1) ∧ pk g i n = pk g j (k + 1) ∧ tn f g i n = tn f g j (k + 1)
  | 0, i, h => by simp [pk] at h
  | n + 1, i, h => by
    by_cases h0 : f i ≠ 0 ∨ g i ≠ 0
    · exact ⟨i, n, by omega, h0, rfl, rfl, rfl⟩
    · have hf : f i = 0 := by omega
      have hg : g i = 0 := by omega
      have e1 : pk f i (n + 1) = pk f (i + 1) n := by rw [pk]; simp [hf]
      have e2 : pk g i (n + 1) = pk g (i + 1) n := by rw [pk]; simp [hg]
      have e3 : tn f g i (n + 1) = tn f g (i + 1) n := by rw [tn]; simp [hf, hg]
      rw [e1, e2] at h
      obtain ⟨j, k, h1, h2, h3, h4, h5⟩ := norm f g n (i + 1) h
      exact ⟨j, k, by omega, h2, by rw [e1, h3], by rw [e2, h4], by rw [e3, h5]⟩
theorem tn_empty (f g : Nat → Int) : ∀ (n i : Nat), pk f i n = [] → pk g i n = [] → tn f g i n = []
  | 0, i, _, _ => rfl
  | n + 1, i, h1, h2 => by
    by_cases h0 : f i ≠ 0 ∨ g i ≠ 0
    · rcases h0 with h0 | h0
      · rw [pk] at h1; simp [h0] at h1
      · rw [pk] at h2; simp [h0] at h2
    · have hf : f i = 0 := by omega
      have hg : g i = 0 := by omega
      rw [pk] at h1 h2
      simp [hf] at h1
      simp [hg] at h2
      rw [tn]
      simp [hf, hg]
      exact tn_empty f g n (i + 1) h1 h2
theorem turns_ok (f g : Nat → Int) (hf : ∀ j, 0 ≤ f j ∧ f j ≤ 9999) (hg : ∀ j, 0 ≤ g j ∧ g j ≤ 9999) : sp18 (pk f 0 8) (pk g 0 8) (tn f g 0 8, 0) := by
  refine ok18 _ _ _ ?_
  have cf := check_ok f hf 0 8 (by omega)
  have cg := check_ok g hg 0 8 (by omega)
  unfold w18
  refine ⟨fun x => 0 ≤ x ∧ x ≤ 2, fun x => (2 - x).toNat, by omega, ?_⟩
  rintro x ⟨hx0, hx2⟩ t rfl
  refine ⟨fun h => ⟨fun v y => y = x ∧ (v = pk f 0 8 ∨ v = pk g 0 8), ⟨by simp at h; omega, fun _ => ⟨rfl, .inl rfl⟩, fun _ => ⟨rfl, .inr rfl⟩⟩, ?_⟩, fun h => ?_⟩
  · have hx : x < 2 := by simpa using h
    rintro v y ⟨rfl, hv⟩
    refine ⟨0, by rcases hv with rfl | rfl <;> assumption, fun h => absurd rfl h, fun _ => ⟨by omega, ?_⟩⟩
    rintro _ rfl
    exact ⟨by omega, by dsimp only; omega⟩
  · have hT := tn_len f g 8 0
    generalize hTT : tn f g 0 8 = TT at hT
    refine ⟨fun a c z => ∃ i n, i + n = 8 ∧ a = pk f i n ∧ c = pk g i n ∧ z ++ tn f g i n = TT, fun a c _ => a.length + c.length, ⟨0, 8, rfl, rfl, rfl, by simp [hTT]⟩, ?_⟩
    rintro a c z ⟨i, n, hin, ha, hc, hz⟩
    refine ⟨a ≠ [] ∨ c ≠ [], ⟨fun h => .inl (by intro h2; simp [h2] at h), fun h1 => ⟨fun h => .inr (by intro h2; simp [h2] at h), fun h2 => ?_⟩⟩, ?_⟩
    · have ha0 : a = [] := List.length_eq_zero_iff.1 (by omega)
      have hc0 : c = [] := List.length_eq_zero_iff.1 (by omega)
      have := tn_empty f g n i (by rw [← ha, ha0]) (by rw [← hc, hc0])
      rw [this, List.append_nil] at hz
      rw [hz]
    · intro hne
      rw [ha, hc] at hne
      obtain ⟨j, k, h1, h2, h3, h4, h5⟩ := norm f g n i hne
      rw [h3] at ha
      rw [h4] at hc
      rw [h5] at hz
      clear h3 h4 h5 hne
      have hfm := pk_mem f k (j + 1)
      have hgm := pk_mem g k (j + 1)
      have hlz : z.length ≤ 8 := by
        have := congrArg List.length hz
        simp at this; omega
      refine ⟨fun a' c' q o w => a' = pk f (j + 1) k ∧ c' = pk g (j + 1) k ∧ q = nm j ∧ o = f j ∧ w = g j, ?_, ?_⟩
      · refine ⟨fun _ _ t => t = decide (g j = 0), ?_, ?_⟩
        · by_cases hgj : g j = 0
          · have hfj : f j ≠ 0 := by omega
            have ha' : a = ⟨nm j, f j⟩ :: pk f (j + 1) k := by rw [ha, pk]; simp [hfj]
            have hc' : c = pk g (j + 1) k := by rw [hc, pk]; simp [hgj]
            refine ⟨fun _ => by simp [hgj], fun hcl => ⟨fun _ => ⟨by rw [ha']; simp <;> omega, fun p hp => ⟨by omega, fun q hq => ?_⟩⟩, fun h => by rw [ha'] at h; simp at h; omega⟩⟩
            rw [ha'] at hp
            simp at hp
            subst hp
            rw [hc'] at hq
            obtain ⟨u, h6, h7, _, rfl⟩ := hgm q (List.mem_of_getElem? hq)
            rintro _ rfl
            simp only
            rw [less_nm j (by omega) u (by omega)]
            simp [hgj]
            omega
          · have hc' : c = ⟨nm j, g j⟩ :: pk g (j + 1) k := by rw [hc, pk]; simp [hgj]
            refine ⟨fun h => by rw [hc'] at h; simp at h; omega, fun _ => ⟨fun hal => ⟨by omega, fun p hp => ⟨by rw [hc']; simp <;> omega, fun q hq => ?_⟩⟩, fun _ => by simp [hgj]⟩⟩
            rw [hc'] at hq
            simp at hq
            subst hq
            have : ∃ u, j ≤ u ∧ u < 8 ∧ p.Name = nm u := by
              have hp2 := List.mem_of_getElem? hp
              rw [ha] at hp2
              obtain ⟨u, h6, h7, _, rfl⟩ := pk_mem f (k + 1) j p hp2
              exact ⟨u, h6, by omega, rfl⟩
            obtain ⟨u, h6, h7, h8⟩ := this
            rintro _ rfl
            rw [h8]
            simp only
            rw [less_nm u (by omega) j (by omega)]
            simp [hgj]
            omega
        · rintro _ _ t rfl
          refine ⟨fun h => ?_, fun h => ?_⟩
          · have hgj : g j = 0 := by simpa using h
            have hfj : f j ≠ 0 := by omega
            have ha' : a = ⟨nm j, f j⟩ :: pk f (j + 1) k := by rw [ha, pk]; simp [hfj]
            have hc' : c = pk g (j + 1) k := by rw [hc, pk]; simp [hgj]
            subst ha'
            refine ⟨by simp <;> omega, fun p hp => ⟨by simp <;> omega, fun q hq => ⟨by simp <;> omega, ?_⟩⟩⟩
            simp at hp hq
            subst hp; subst hq
            rintro _ rfl
            refine ⟨?_, hc', rfl, rfl, hgj.symm⟩
            have : (((({ Name := nm j, Version := f j } :: pk f (j + 1) k : List GSolve_Pick).length : Int)).toNat) = ({ Name := nm j, Version := f j } :: pk f (j + 1) k : List GSolve_Pick).length := by simp
            rw [this, List.take_length]
            rfl
          · have hgj : g j ≠ 0 := by simpa using h
            have hc' : c = ⟨nm j, g j⟩ :: pk g (j + 1) k := by rw [hc, pk]; simp [hgj]
            have hcl : (c.length : Int).toNat = c.length := by simp
            have hal : (a.length : Int).toNat = a.length := by simp
            refine ⟨fun t => t = decide (f j = 0), ?_, ?_⟩
            · by_cases hfj : f j = 0
              · have ha' : a = pk f (j + 1) k := by rw [ha, pk]; simp [hfj]
                refine ⟨fun _ => by simp [hfj], fun hne => ⟨by rw [hc']; simp <;> omega, fun p hp => ⟨by omega, fun q hq => ?_⟩⟩⟩
                rw [hc'] at hp
                simp at hp
                subst hp
                rw [ha'] at hq
                obtain ⟨u, h6, h7, _, rfl⟩ := hfm q (List.mem_of_getElem? hq)
                rintro _ rfl
                simp only
                rw [less_nm j (by omega) u (by omega)]
                simp [hfj]
                omega
              · have ha' : a = ⟨nm j, f j⟩ :: pk f (j + 1) k := by rw [ha, pk]; simp [hfj]
                refine ⟨fun h => by rw [ha'] at h; simp at h; omega, fun _ => ⟨by rw [hc']; simp <;> omega, fun p hp => ⟨by rw [ha']; simp <;> omega, fun q hq => ?_⟩⟩⟩
                rw [hc'] at hp
                rw [ha'] at hq
                simp at hp hq
                subst hp; subst hq
                rintro _ rfl
                simp only
                rw [less_nm j (by omega) j (by omega)]
                simp [hfj]
            · rintro t rfl
              refine ⟨fun h => ?_, fun h => ?_⟩
              · have hfj : f j = 0 := by simpa using h
                have ha' : a = pk f (j + 1) k := by rw [ha, pk]; simp [hfj]
                refine ⟨by rw [hc']; simp <;> omega, fun p hp => ⟨by rw [hc']; simp <;> omega, fun q hq => ⟨by rw [hc']; simp <;> omega, ?_⟩⟩⟩
                rw [hcl, List.take_length]
                rw [hc'] at hp hq ⊢
                simp at hp hq
                subst hp; subst hq
                rintro _ rfl
                exact ⟨ha', rfl, rfl, hfj.symm, rfl⟩
              · have hfj : f j ≠ 0 := by simpa using h
                have ha' : a = ⟨nm j, f j⟩ :: pk f (j + 1) k := by rw [ha, pk]; simp [hfj]
                refine ⟨by rw [ha']; simp <;> omega, fun p hp => ⟨by rw [ha']; simp <;> omega, fun q hq => ⟨by rw [hc']; simp <;> omega, fun r hr => ⟨by rw [ha']; simp <;> omega, ?_⟩⟩⟩⟩
                rw [hcl, hal, List.take_length, List.take_length]
                rw [ha'] at hp hq ⊢
                rw [hc'] at hr ⊢
                simp at hp hq hr
                subst hp; subst hq; subst hr
                rintro _ rfl
                refine ⟨by simp <;> omega, ?_⟩
                rintro _ rfl
                exact ⟨rfl, rfl, rfl, rfl, rfl⟩
      · rintro a' c' q o w ⟨rfl, rfl, rfl, rfl, rfl⟩
        have hlen : (pk f (j + 1) k).length + (pk g (j + 1) k).length < a.length + c.length := by
          rw [ha, hc]
          conv => rhs; rw [pk, pk]
          split <;> split <;> simp <;> omega
        rw [tn] at hz
        refine ⟨fun hne => ⟨by simp; omega, ?_⟩, fun heq => ⟨⟨j + 1, k, by omega, rfl, rfl, ?_⟩, hlen⟩⟩
        · rintro _ rfl
          refine ⟨⟨j + 1, k, by omega, rfl, rfl, ?_⟩, hlen⟩
          rw [if_neg hne] at hz
          simpa using hz
        · rw [if_pos heq] at hz
          exact hz
end Go.Hw.G4
