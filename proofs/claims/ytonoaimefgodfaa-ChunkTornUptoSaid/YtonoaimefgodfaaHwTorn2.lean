import Derived.Test.YtonoaimefgodfaaHwTorn
set_option linter.unusedVariables false
set_option linter.unusedSimpArgs false
namespace Go.Hw.G3
open Go Go.Proofs
theorem w3_true (l : List (List UInt8)) (n : Int) (hl : ∀ a ∈ l, a.length ≤ 140737488355328) (hl2 : l.length ≤ 140737488355328) (hn : -9223372036854775808 ≤ n ∧ n ≤ 9223372036854775807) : w3 l n (fun r' => r' = true) := by
  unfold w3
  refine ⟨fun v i => ∃ k : Nat, i = k ∧ k ≤ l.length ∧ v = pieces (l.take k), fun _ i => l.length - i.toNat, ⟨0, rfl, by omega, rfl⟩, ?_⟩
  rintro v i ⟨k, rfl, hk, rfl⟩ t ht
  have hp := pieces_le (l.take k)
  refine ⟨fun h1 => ?_, fun h1 => ?_⟩
  · have hkl : k < l.length := by simp [ht] at h1; omega
    refine ⟨by omega, fun a ha => ?_⟩
    have ha' : l[k]? = some a := by simpa using ha
    refine ⟨fun h2 => ⟨a.take 40, cut_call a 40 (hl a (List.mem_of_getElem? ha')), by simp; omega, ?_⟩, fun h2 => ⟨by omega, ?_⟩⟩
    · rintro _ rfl
      refine ⟨by omega, ?_⟩
      rintro _ rfl
      exact ⟨⟨k + 1, by omega, by omega, (pieces_snoc l k a ha' (by omega)).symm⟩, by dsimp only; omega⟩
    · rintro _ rfl
      exact ⟨⟨k + 1, by omega, by omega, (pieces_stay l k (by omega)).symm⟩, by dsimp only; omega⟩
  · have hil : k = l.length := by simp [ht] at h1; omega
    subst hil
    rw [List.take_length] at hp ⊢
    have he := pieces_each l
    generalize pieces l = x at hp he ⊢
    have hlen := packed_small x he
    have c15 := pack_call x (fun a ha => Nat.le_trans (he a ha) (by decide)) (by omega)
    have c17 := rest_call n ((packed x).length + 1) (by omega) hn
    have hr : restN n ((packed x).length + 1) ≤ (packed x).length := Nat.le_of_lt_succ (Nat.mod_lt _ (by omega))
    generalize restN n ((packed x).length + 1) = r at c17 hr
    rw [Int.natCast_add, Int.natCast_one] at c17
    obtain ⟨j, hj1, hj2, hj3, hj4⟩ := scan_pre x (fun a ha => Nat.le_trans (he a ha) (by decide)) r hr
    have c16 := scan_call ((packed x).take r) (by rw [List.length_take]; omega)
    rw [hj2] at c16
    clear hj2
    have hY : (x.take j).length = j := by rw [List.length_take]; omega
    have hYx : ∀ i : Nat, i < j → (x.take j)[i]? = x[i]? := fun i hi => List.getElem?_take_of_lt hi
    have hYe : ∀ a ∈ x.take j, a.length ≤ 40 := fun a ha => he a (List.mem_of_mem_take ha)
    have hYp := packed_small _ hYe
    have hpl : ((packed x).take r).length = r := by rw [List.length_take]; omega
    generalize x.take j = Y at hj3 hj4 c16 hY hYx hYe hYp
    refine ⟨(packed x, 0), c15, ([[7]], 3), scan1_call, fun h => absurd rfl h, fun _ => ⟨fun h => absurd rfl h, fun _ => ⟨fun h => absurd rfl h, fun _ => ⟨by simp; omega, ?_⟩⟩⟩⟩
    rintro _ rfl
    refine ⟨r, c17, by simp; omega, ?_⟩
    rintro v rfl
    refine ⟨(Y, (packed Y).length), by simpa using c16, fun a i => ∃ k : Nat, i = k ∧ k ≤ j ∧ a = (packed (Y.take k)).length, fun _ i => j - i.toNat, ⟨0, rfl, by omega, rfl⟩, ?_⟩
    rintro c i ⟨k, rfl, hk, rfl⟩ t ht
    refine ⟨fun h1 => ?_, fun h1 => ?_⟩
    · have hkl : k < j := by simp [ht] at h1; omega
      refine ⟨by simp; omega, fun a ha => ⟨fun h => by simp at h; omega, fun _ => ⟨by omega, fun b hb => ?_⟩⟩⟩
      have ha' : Y[k]? = some a := by simpa using ha
      have hb' : x[k]? = some b := by simpa using hb
      have hab : a = b := by
        rw [hYx k hkl, hb'] at ha'
        injection ha' with ha'
        exact ha'.symm
      subst hab
      have h40 := he a (List.mem_of_getElem? hb')
      have hT : packed (Y.take (k + 1)) = packed (Y.take k) ++ enc a := by
        rw [List.take_add_one, ha', Option.toList_some, packed_snoc]
      have hTl := congrArg List.length hT
      rw [List.length_append, enc_length] at hTl
      have hTp := packed_small (Y.take k) fun a ha => hYe a (List.mem_of_mem_take ha)
      have hTk : (Y.take k).length ≤ 20 := by rw [List.length_take]; omega
      refine ⟨fun h => absurd rfl h, fun _ => ⟨by omega, ?_⟩⟩
      rintro _ rfl
      refine ⟨by omega, ?_⟩
      rintro _ rfl
      refine ⟨by omega, ?_⟩
      rintro _ rfl
      exact ⟨⟨k + 1, by omega, by omega, by omega⟩, by dsimp only; omega⟩
    · have hkj : k = j := by simp [ht] at h1; omega
      subst hkj
      rw [← hY, List.take_length]
      refine ⟨fun _ => ⟨fun _ => ⟨fun _ => rfl, fun h => ⟨by simp; omega, ?_⟩⟩, fun h => by simp at h; omega⟩, fun h => absurd rfl h⟩
      rintro _ rfl
      have hlt : k < x.length := by simp at h; omega
      refine ⟨by simp; omega, fun a ha => ?_⟩
      have ha' : x[k]? = some a := by simpa [hY] using ha
      have := hj4 a ha'
      have h40 := he a (List.mem_of_getElem? ha')
      refine ⟨by simp; omega, ?_⟩
      rintro _ rfl _ rfl
      simp
      omega
theorem torn_call (l : List (List UInt8)) (n : Int) (hl : ∀ a ∈ l, a.length ≤ 140737488355328) (hl2 : l.length ≤ 140737488355328) (hn : -9223372036854775808 ≤ n ∧ n ≤ 9223372036854775807) : PCall Try.prog 3 [eL l, .int .i64 n] (.bool true) := ok3 l n true (w3_true l n hl hl2 hn)
end Go.Hw.G3
