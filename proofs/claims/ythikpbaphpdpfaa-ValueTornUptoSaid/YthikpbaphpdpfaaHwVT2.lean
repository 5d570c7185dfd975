import Derived.Test.YthikpbaphpdpfaaHwVal4
import Derived.Test.YthikpbaphpdpfaaHwVT1
set_option linter.unusedVariables false
set_option linter.unusedSimpArgs false
namespace Go.Hw.VB
open Go Go.Proofs

theorem readR_cases (b : List UInt8) : (2097152 < b.length ∧ readR b = (zeroV, 2)) ∨ readR b = (zeroV, 3) ∨ ∃ v, readR b = (v, 0) ∧ checkE v = 0 ∧ enc v = b ∧ AllV NumOk v ∧ AllV KindOk v ∧ nodes v ≤ B := by
  unfold readR
  split
  · rename_i h; exact .inl ⟨h, rfl⟩
  · rename_i h
    have hrd := partF_read 40 ⟨b, false, 400⟩
    dsimp only
    generalize partF 40 ⟨b, false, 400⟩ = q at *
    split
    · rename_i hd
      refine .inr (.inr ⟨q.1, rfl, ?_⟩)
      unfold bytesR at hd
      split at hd
      · rename_i hc
        simp only [doneB, Bool.and_eq_true, beq_iff_eq] at hd
        refine ⟨hc, hd.2.symm, hrd.num, hrd.kind, ?_⟩
        unfold checkE at hc
        split at hc
        · cases hc
        · unfold B; omega
      · rename_i hc
        simp [doneB, hc] at hd
    · exact .inr (.inl rfl)
theorem clone_arr (b : List UInt8) (hb : b.length ≤ B) : sp16m b b := by
  refine ok16m _ _ ?_
  unfold w16m
  refine ⟨fun h => (List.eq_nil_of_length_eq_zero h).symm, by unfold B at hb; omega, ?_⟩
  rintro _ rfl
  rfl
theorem xor_u8 (a b : Int) : 0 ≤ iop .xor .u8 a b ∧ iop .xor .u8 a b < 256 := by
  simp only [iop, ibin]
  rw [wrap_u8]
  omega
theorem torn_call (l : List Rw) (n c at_ by_ : Int) (hl : ∀ r ∈ l, RawOk r ∧ r.Text.length ≤ B) (hl2 : l.length ≤ B) (hn : I64 n) (hc : 0 ≤ c ∧ c < 256) (ha : I64 at_) : sp5m l n c at_ by_ true := by
  refine ok5m _ _ _ _ _ _ ?_
  unfold w5m
  obtain ⟨a1, a2, a3, a4⟩ := valOf_check hl
  refine ⟨_, valueOf_call hl hl2, ?_⟩
  generalize valOf l = v at *
  have h4 := enc_4 v
  have h0 : nodes v ≤ 400 ∧ depth v ≤ 40 ∧ long v ≤ 4000 := by
    unfold checkE at a1
    split at a1
    · cases a1
    · omega
  have hlen : (enc v).length ≤ 1612400 := by
    have := enc_len v a3 a2 h0.2.2
    omega
  have hcl : ∀ b : List UInt8, b.length ≤ B → sp16m b b := clone_arr
  refine ⟨_, bytes_call v a2 a3, ?_⟩
  unfold bytesR
  rw [if_pos a1]
  refine ⟨fun h => absurd rfl h, fun _ => ⟨fun h => by dsimp only at h; omega, fun _ => ?_⟩⟩
  dsimp only
  refine ⟨_, rest_call n _ (by omega) hn, ?_⟩
  have hr := restN_lt n (m := (enc v).length) (by omega)
  refine ⟨by omega, ?_⟩
  rintro _ rfl
  have e0 : ((enc v).take ((restN n (enc v).length : Nat) : Int).toNat).drop ((0 : Int) : Int).toNat = (enc v).take (restN n (enc v).length) := by simp
  rw [e0]
  have k1 : (readR ((enc v).take (restN n (enc v).length))).2 = 3 := by
    rcases readR_cases ((enc v).take (restN n (enc v).length)) with ⟨h, _⟩ | h | ⟨w, h, hw, he, _, hk, _⟩
    · rw [List.length_take] at h; omega
    · rw [h]
    · exfalso
      have h5 : enc w ++ (enc v).drop (restN n (enc v).length) = enc v ++ [] := by rw [he, List.take_append_drop, List.append_nil]
      have h6 := congrArg List.length (enc_inj w v hk a4 _ _ h5).2
      rw [List.length_drop] at h6
      simp at h6
      omega
  refine ⟨_, read_call _, _, hcl _ (by unfold B; omega), ?_⟩
  refine ⟨by simpa using hc, by simp; omega, ?_⟩
  rintro _ rfl
  have e1 : (([c] : List Int).map fun m : Int => UInt8.ofNat m.toNat) = [UInt8.ofNat c.toNat] := rfl
  rw [e1]
  have k2 : (readR (enc v ++ [UInt8.ofNat c.toNat])).2 = 3 := by
    rcases readR_cases (enc v ++ [UInt8.ofNat c.toNat]) with ⟨h, _⟩ | h | ⟨w, h, hw, he, _, hk, _⟩
    · simp at h; omega
    · rw [h]
    · exfalso
      have h5 : enc v ++ [UInt8.ofNat c.toNat] = enc w ++ [] := by rw [he, List.append_nil]
      have h6 := congrArg List.length (enc_inj v w a4 hk _ _ h5).2
      simp at h6
  refine ⟨_, read_call _, _, hcl _ (by unfold B; omega), _, rest_call at_ _ (by omega) ha, ?_⟩
  have hr2 := restN_lt at_ (m := (enc v).length) (by omega)
  refine ⟨by omega, by omega, ?_⟩
  intro x hx
  refine ⟨trivial, ?_⟩
  rintro y rfl
  refine ⟨by omega, xor_u8 _ _, by omega, ?_⟩
  rintro z hz
  refine ⟨by rw [hz, List.length_set], _, read_call _, ?_⟩
  refine ⟨fun h => absurd k1 h, fun _ => ⟨fun h => absurd k2 h, fun _ => ⟨fun h => ?_, fun h => ?_⟩⟩⟩
  · rintro _ rfl
    rcases readR_cases z with ⟨_, h1⟩ | h1 | ⟨w, h1, _⟩
    · rw [h1]; rfl
    · rw [h1]; rfl
    · rw [h1] at h; exact absurd rfl h
  · rcases readR_cases z with ⟨_, h1⟩ | h1 | ⟨w, h1, g1, g2, g3, g4, g5⟩
    · rw [h1] at h; cases h
    · rw [h1] at h; cases h
    · rw [h1, eta]
      refine ⟨_, bytes_call w g5 g3, ?_⟩
      unfold bytesR
      rw [if_pos g1]
      refine ⟨fun _ => ?_, fun h => absurd rfl h⟩
      rintro _ rfl
      simp [g2]
end Go.Hw.VB

