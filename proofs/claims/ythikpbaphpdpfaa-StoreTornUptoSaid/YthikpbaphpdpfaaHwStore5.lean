import Derived.Test.YthikpbaphpdpfaaHwStore4
set_option linter.unusedVariables false
set_option linter.unusedSimpArgs false
namespace Go.Hw.VB
open Go Go.Proofs


theorem sameW_self (w : Wy) (h : ∀ x ∈ w.Letters, VOk x.Value) (hn : w.Letters.length ≤ B) : sp74 w w true := by
  refine ok74 _ _ _ ?_
  unfold w74
  exact ⟨fun _ => ⟨fun _ => ⟨_, sameLs_self _ h hn, rfl⟩, fun h => absurd rfl h⟩, fun h => absurd rfl h⟩
theorem sameWs_self (l : List Wy) (hl : ∀ w ∈ l, (∀ x ∈ w.Letters, VOk x.Value) ∧ w.Letters.length ≤ B) (hn : l.length ≤ B) : sp73_74 l l true := by
  refine ok73_74 _ _ _ ?_
  unfold w73_74
  unfold B at hn
  refine ⟨fun h => absurd rfl h, fun _ => ⟨fun i => ∃ k : Nat, i = k ∧ k ≤ l.length, fun i => l.length - i.toNat, ⟨0, rfl, by omega⟩, ?_⟩⟩
  rintro _ ⟨k, rfl, hk⟩ t rfl
  refine ⟨fun h => ?_, fun h => rfl⟩
  have hkl : k < l.length := by simp at h; omega
  refine ⟨by omega, fun a ha => ⟨by omega, fun b hb => ?_⟩⟩
  rw [ha] at hb
  injection hb with hb
  subst hb
  have := hl a (List.mem_of_getElem? ha)
  rw [weta]
  refine ⟨_, sameW_self a this.1 this.2, fun h => by simp at h, fun _ => ⟨by omega, ?_⟩⟩
  rintro _ rfl
  exact ⟨⟨k + 1, by omega, by omega⟩, by dsimp only; omega⟩
def PSame (p : Pc) : Prop := SOk p.Saved ∧ (∀ x ∈ p.Box, VOk x.Value) ∧ p.Box.length ≤ B ∧ p.Watches.length ≤ B ∧ p.Links.length ≤ B
theorem samePs_self (l : List Pc) (hl : ∀ p ∈ l, PSame p) (hn : l.length ≤ B) : sp72_26 l l true := by
  refine ok72_26 _ _ _ ?_
  unfold w72_26
  unfold B at hn
  refine ⟨fun h => absurd rfl h, fun _ => ⟨fun i => ∃ k : Nat, i = k ∧ k ≤ l.length, fun i => l.length - i.toNat, ⟨0, rfl, by omega⟩, ?_⟩⟩
  rintro _ ⟨k, rfl, hk⟩ t rfl
  refine ⟨fun h => ?_, fun h => rfl⟩
  have hkl : k < l.length := by simp at h; omega
  refine ⟨by omega, fun a ha => ⟨by omega, fun b hb => ?_⟩⟩
  rw [ha] at hb
  injection hb with hb
  subst hb
  obtain ⟨g1, g2, g3, g4, g5⟩ := hl a (List.mem_of_getElem? ha)
  rw [peta]
  refine ⟨_, sameP_self a g1 g2 g3 g4 g5, fun h => by simp at h, fun _ => ⟨by omega, ?_⟩⟩
  rintro _ rfl
  exact ⟨⟨k + 1, by omega, by omega⟩, by dsimp only; omega⟩
theorem PGood.same {p : Pc} (h : PGood p) : PSame p := by
  obtain ⟨c1, c2, c3, c4, c5, c6, c7, c8, c9⟩ := checkP_zero h.check
  exact ⟨h.ok.sv, h.ok.box, by unfold B; omega, by unfold B; omega, by unfold B; omega⟩
theorem sameSn_self {s : Sn} (h : SGood s) : sp30 s s true := by
  obtain ⟨h1, h2, h3, h4, h5⟩ := snE_zero h.check
  refine ok30 _ _ _ ?_
  unfold w30
  refine ⟨fun _ => ⟨_, samePs_self _ (fun p hp => (h.p p hp).1.same) (by unfold B; omega), fun _ => ⟨_, sameWs_self _ (fun w hw => ⟨fun x hx => ((h.w w hw).2 x hx).ok.v, by have := (h5 w hw).2.2.2.2.1; unfold B; omega⟩) (by unfold B; omega), rfl⟩, fun h => by simp at h⟩, fun h => absurd rfl h⟩


theorem enc_len2 (L : Nat) (hL : L ≤ 4000) : ∀ v : Vl, AllV NumOk v → nodes v ≤ B → long v ≤ L → (enc v).length ≤ (L + 31) * nodes v := by
  refine vl_ind fun v ih hv hnb hlg => ?_
  obtain ⟨hn, hargs⟩ := (allv_iff v).1 hv
  have h1 := leb_10 (zig_lt hn)
  rw [long_eq] at hlg
  rw [nodes_eq] at hnb ⊢
  have hlen := len_nodes v.Args
  unfold B at hnb
  have h2 := leb_10 (n := v.Text.length) (by omega)
  have h3 := leb_10 (n := v.Args.length) (by omega)
  have h4 : ∀ l : List Vl, (∀ a ∈ l, (enc a).length ≤ (L + 31) * nodes a) → (encs l).length ≤ (L + 31) * nodess l := by
    intro l
    induction l with
    | nil => intro _; rw [encs]; simp
    | cons a r ih =>
      intro h
      have h5 := h a (by simp)
      have h6 := ih fun b hb => h b (by simp [hb])
      rw [encs, nodess, List.length_append, Nat.mul_add]
      omega
  have h5 := h4 v.Args fun a ha => ih a ha (hargs a ha) (by have := mem_nodes ha; unfold B; omega) (by have := mem_long ha; omega)
  rw [enc_eq, Nat.mul_add]
  simp only [List.length_append, List.length_cons]
  omega
theorem valOf_len {l : List Rw} (hl : RwsOk l) : (enc (valOf l)).length ≤ 9412 := by
  have h := nx_made (fun r hr => (hl.1 r hr).1) 20 0
  change Made 20 0 (nx l 20 0).2 (valOf l) at h
  have h1 := h.nodes
  have h2 := h.top
  have := enc_len2 21 (by omega) (valOf l) h.num (by unfold B; omega) h.long
  have h3 : (21 + 31) * nodes (valOf l) ≤ (21 + 31) * 181 := Nat.mul_le_mul_left _ (by omega)
  omega
theorem letOf_len {l : List Rw} (hl : RwsOk l) : (encL (letOf l)).length ≤ 9500 := by
  have hg := letOf_good hl
  have h1 := leb_10 (n := (letOf l).From.toNat) (by have := hg.ok.from_; omega)
  have h2 := leb_10 (n := (letOf l).To.toNat) (by have := hg.ok.to; omega)
  obtain ⟨c1, c2, c3, c4, _⟩ := checkL_zero hg.check
  have h3 := leb_10 (n := (letOf l).Num.toNat) (by unfold badL at c4; omega)
  have h4 := leb_10 (n := (letOf l).Text.length) (by omega)
  have h5 : (letOf l).Text.length ≤ 20 := by
    cases l with
    | nil => simp [letOf]
    | cons r rest =>
      unfold letOf
      dsimp only
      split
      · simp
      · split
        · simp only [List.length_take]; omega
        · split
          · simp only [List.length_take]; omega
          · simp
  have h6 : (if (letOf l).Kind = 1 then enc (letOf l).Value else []).length ≤ 9412 := by
    split
    · cases l with
      | nil => rename_i h; simp [letOf] at h
      | cons r rest =>
        rename_i h
        unfold letOf at h ⊢
        dsimp only at h ⊢
        split at h
        · rename_i hk
          rw [if_pos hk]
          exact valOf_len ⟨fun x hx => hl.1 x (by simp [hx]), by have := hl.2; simp at this; omega⟩
        · split at h
          · rename_i h1 h2; dsimp only at h; exact absurd h h1
          · split at h
            · rename_i h1 h2 h3; dsimp only at h; exact absurd h h1
            · rename_i h1 h2 h3; dsimp only at h; exact absurd h h1
    · simp
  unfold encL
  simp only [List.length_append, List.length_cons]
  omega
end Go.Hw.VB

