import Derived.Test.YthogcmalebekkaaHwRen1
set_option linter.unusedVariables false
set_option linter.unusedSimpArgs false
namespace Go.Hw.VR
open Go Go.Proofs

abbrev F9 := _root_.Fin 9
def ctF (i : F9) : CT := (c9[i.val]?).getD .int
def tyF (i : F9) : Ty := (ctF i).ty
def nmF (i : F9) : Nm := [UInt8.ofNat (IntKind.wrap .u8 (102 + i.val)).toNat]
def all9 : List F9 := [0, 1, 2, 3, 4, 5, 6, 7, 8]
theorem zip9 : t9.zipIdx = all9.map fun i => (tyF i, i.val) := rfl
theorem ty_mem (i : F9) : tyF i ∈ t9 := by
  have : ∀ i : F9, ctF i ∈ c9 := by
    intro i
    unfold ctF
    have hi : i.val < c9.length := by simp [c9]
    rw [List.getElem?_eq_getElem hi]
    exact List.getElem_mem hi
  rw [t9_c9]
  exact List.mem_map.2 ⟨_, this i, rfl⟩
theorem ct_mem (i : F9) : ctF i ∈ c9 := by
  unfold ctF
  have hi : i.val < c9.length := by simp [c9]
  rw [List.getElem?_eq_getElem hi]
  exact List.getElem_mem hi
theorem ct_low (i : F9) : Low (ctF i) := low9 _ (ct_mem i)
theorem nm_inj : ∀ i j : F9, nmF i = nmF j → i = j := by decide +kernel
theorem sel_set (bits : Int) : ∃ S : List F9, S.Nodup ∧ S.length ≤ 6 ∧ sel bits = (S.map nmF, S.map tyF) := by
  have key : ∀ (l S : List F9), (S ++ l).Nodup → S.length ≤ 6 → ∃ S' : List F9, S'.Nodup ∧ S'.length ≤ 6 ∧ (l.map fun i => (tyF i, i.val)).foldl (selStep bits) (S.map nmF, S.map tyF) = (S'.map nmF, S'.map tyF) := by
    intro l
    induction l with
    | nil => intro S hn h6; exact ⟨S, by simpa using hn, h6, rfl⟩
    | cons i l ih =>
      intro S hn h6
      rw [List.map_cons, List.foldl_cons]
      have hsub : (S ++ l).Sublist (S ++ i :: l) := List.Sublist.append (List.Sublist.refl _) (List.sublist_cons_self _ _)
      by_cases hc : iop .and .i64 (iop .shr .i64 bits i.val) 1 = 1 ∧ ((S.map nmF).length : Int) < 6
      · have e : selStep bits (S.map nmF, S.map tyF) (tyF i, i.val) = ((S ++ [i]).map nmF, (S ++ [i]).map tyF) := by
          unfold selStep
          rw [if_pos hc]
          simp [nmF]
        rw [e]
        refine ih (S ++ [i]) (by simpa using hn) ?_
        have := hc.2
        simp at this ⊢
        omega
      · have e : selStep bits (S.map nmF, S.map tyF) (tyF i, i.val) = (S.map nmF, S.map tyF) := by
          unfold selStep
          rw [if_neg hc]
        rw [e]
        exact ih S (hn.sublist hsub) h6
  unfold sel
  rw [zip9]
  exact key all9 [] (by decide) (by simp)
structure Prog (p : Pr) (b z : Bool) (S : List F9) (g : F9) : Prop where
  datas : p.Datas = datas (kb b) z
  actors : ∃ body, p.Actors = [⟨[65], S.map nmF, S.map tyF, tyF g, body⟩]
  once : S.Nodup
  few : S.length ≤ 6
  some : S ≠ []
theorem progF_prog (n : Int) : ∃ b z S g, Prog (progF n) b z S g := by
  obtain ⟨b, z, hd⟩ := progF_kb n
  obtain ⟨S, h1, h2, h3⟩ := sel_set (1 + rest (n.tdiv 16) 511)
  have hr := rest_range (n.tdiv 8) (m := 2) (by omega)
  have hr16 := rest_range (n.tdiv 16) (m := 511) (by omega)
  have hb := sel_ne ⟨(rest (n.tdiv 16) 511).toNat, by omega⟩
  simp only [Int.toNat_of_nonneg hr16.1] at hb
  rw [Int.add_comm, h3] at hb
  refine ⟨b, z, S, ⟨(rest (n.tdiv 8) 2).toNat, by omega⟩, hd, ⟨⟨1, 0, [], [], [], [], [], 0⟩, ?_⟩, h1, h2, fun h => by rw [h] at hb; simp at hb⟩
  show [GAc.mk [65] (sel (1 + rest (n.tdiv 16) 511)).1 (sel (1 + rest (n.tdiv 16) 511)).2 ((t9[(rest (n.tdiv 8) 2).toNat]?).getD (tOne 1)) _] = _
  rw [h3]
  have : (t9[(rest (n.tdiv 8) 2).toNat]?).getD (tOne 1) = tyF ⟨(rest (n.tdiv 8) 2).toNat, by omega⟩ := by
    have : rest (n.tdiv 8) 2 = 0 ∨ rest (n.tdiv 8) 2 = 1 := by omega
    rcases this with h | h <;> (simp only [h]; rfl)
  rw [this]
theorem pos_in {S : List F9} (hS : S.Nodup) {j : F9} {a : Nat} (h : S[a]? = some j) : fidx (fun s => nmF j == s) (S.map nmF) = a := by
  refine (fidx_loop _ _).1 a (nmF j) (by rw [List.getElem?_map, h]; rfl) (by simp) (fun c hc s hs => ?_)
  rw [List.getElem?_map] at hs
  obtain ⟨i, hi, rfl⟩ := Option.map_eq_some_iff.1 hs
  have : i ≠ j := by
    intro e
    subst e
    have := nodup_inj' hS c a i hi h
    omega
  simpa using fun e : nmF j = nmF i => this (nm_inj j i e).symm
theorem pos_out {S : List F9} {j : F9} (h : j ∉ S) : fidx (fun s => nmF j == s) (S.map nmF) = -1 := by
  refine (fidx_loop _ _).2 ?_
  intro s hs
  obtain ⟨i, hi, rfl⟩ := List.mem_map.1 hs
  have : i ≠ j := fun e => h (e ▸ hi)
  simpa using fun e : nmF j = nmF i => this (nm_inj j i e).symm
theorem pos_cases {S : List F9} (hS : S.Nodup) (j : F9) : (j ∈ S ∧ ∃ a : Nat, S[a]? = some j ∧ a < S.length ∧ fidx (fun s => nmF j == s) (S.map nmF) = a) ∨ (j ∉ S ∧ fidx (fun s => nmF j == s) (S.map nmF) = -1) := by
  by_cases h : j ∈ S
  · obtain ⟨a, ha⟩ := List.getElem?_of_mem h
    exact .inl ⟨h, a, ha, (List.getElem?_eq_some_iff.1 ha).1, pos_in hS ha⟩
  · exact .inr ⟨h, pos_out h⟩
end Go.Hw.VR

