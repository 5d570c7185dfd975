import Derived.Test.YthikpbaphpdpfaaHwVal
set_option linter.unusedVariables false
set_option linter.unusedSimpArgs false
namespace Go.Hw.VB
open Go Go.Proofs


def KindOk (v : Vl) : Prop := 0 ≤ v.Kind ∧ v.Kind < 256
abbrev Rw := GkRaw
def RawOk (r : Rw) : Prop := I64 r.Kind ∧ I64 r.A ∧ I64 r.B
def unit : Vl := ⟨1, 0, [], []⟩
def item (r : Rw) : Int × Int × List UInt8 × Nat :=
  let k : Int := 1 + restN r.Kind 8
  if k = 2 ∨ k = 6 then (k, r.A, [], 0) else if k = 3 then (k, restN r.A 2, [], 0) else if k = 4 then (k, 0, r.Text.take 20, 0)
  else if k = 5 then (k, 0, 77 :: r.Text.take 20, restN r.A 4) else if k = 7 then (k, r.A, r.Text.take 20, restN r.B 3) else if k = 8 then (k, 0, [], restN r.A 2) else (k, 0, [], 0)
def nxs (g : Nat → Vl × Nat) : Nat → Nat → List Vl × Nat
  | 0, at_ => ([], at_)
  | m + 1, at_ => ((g at_).1 :: (nxs g m (g at_).2).1, (nxs g m (g at_).2).2)
theorem nxs_snoc (g : Nat → Vl × Nat) : ∀ m at_, nxs g (m + 1) at_ = ((nxs g m at_).1 ++ [(g (nxs g m at_).2).1], (g (nxs g m at_).2).2)
  | 0, at_ => rfl
  | m + 1, at_ => by
    have ih := nxs_snoc g m (g at_).2
    rw [nxs, ih]
    rfl
theorem nxs_len (g : Nat → Vl × Nat) : ∀ m at_, (nxs g m at_).1.length = m
  | 0, _ => rfl
  | m + 1, at_ => by rw [nxs, List.length_cons, nxs_len g m]
def nx (l : List Rw) : Nat → Nat → Vl × Nat
  | 0, at_ => (unit, at_)
  | f + 1, at_ => match l[at_]? with
    | none => (unit, at_)
    | some r => if 60 ≤ at_ then (unit, at_) else
      (⟨(item r).1, (item r).2.1, (item r).2.2.1, (nxs (nx l f) (item r).2.2.2 (at_ + 1)).1⟩, (nxs (nx l f) (item r).2.2.2 (at_ + 1)).2)
def valOf (l : List Rw) : Vl := (nx l 20 0).1
theorem item_many (r : Rw) : (item r).2.2.2 ≤ 3 := by
  have h1 := restN_lt r.A (m := 4) (by omega)
  have h2 := restN_lt r.B (m := 3) (by omega)
  have h3 := restN_lt r.A (m := 2) (by omega)
  unfold item
  dsimp only
  repeat' split
  all_goals (dsimp only; omega)
structure Made (f at_ at2 : Nat) (v : Vl) : Prop where
  le : at_ ≤ at2
  top : at2 ≤ max at_ 60
  nodes : nodes v + 3 * at_ ≤ 1 + 3 * at2
  depth : depth v ≤ f + 1
  long : long v ≤ 21
  right : rightB v = true
  num : AllV NumOk v
  kind : AllV KindOk v
theorem unit_made (f at_ : Nat) : Made f at_ at_ unit := by
  have e : (unit).Args = [] := rfl
  refine ⟨by omega, by omega, ?_, ?_, ?_, ?_, ?_, ?_⟩
  · rw [nodes_eq, e, nodess]; omega
  · rw [depth_eq, e, depths]; omega
  · rw [long_eq, e, longs]; simp [unit]
  · rw [rightB_eq, e, rightsB]; decide
  · rw [allv_iff, e]; exact ⟨⟨by decide, by decide⟩, by simp⟩
  · rw [allv_iff, e]; exact ⟨⟨by decide, by decide⟩, by simp⟩
structure Mades (f m at_ at2 : Nat) (l : List Vl) : Prop where
  le : at_ ≤ at2
  top : at2 ≤ max at_ 60
  nodes : nodess l + 3 * at_ ≤ m + 3 * at2
  depth : depths l ≤ f + 1
  long : longs l ≤ 21
  right : ∀ a ∈ l, rightB a = true
  num : ∀ a ∈ l, AllV NumOk a
  kind : ∀ a ∈ l, AllV KindOk a
theorem nxs_made {f : Nat} {g : Nat → Vl × Nat} (hg : ∀ at_, Made f at_ (g at_).2 (g at_).1) : ∀ m at_, Mades f m at_ (nxs g m at_).2 (nxs g m at_).1
  | 0, at_ => by
    refine ⟨Nat.le_refl _, ?_, ?_, ?_, ?_, ?_, ?_, ?_⟩ <;> simp [nxs, nodess, depths, longs]
    omega
  | m + 1, at_ => by
    have h := hg at_
    have ih := nxs_made hg m (g at_).2
    rw [nxs]
    refine ⟨Nat.le_trans h.le ih.le, ?_, ?_, ?_, ?_, ?_, ?_, ?_⟩
    · have := h.top; have := ih.top; dsimp only; omega
    · have := h.nodes; have := ih.nodes; dsimp only; rw [nodess]; omega
    · have := h.depth; have := ih.depth; dsimp only; rw [depths]; omega
    · have := h.long; have := ih.long; dsimp only; rw [longs]; omega
    · intro a ha
      rcases List.mem_cons.1 ha with rfl | ha
      · exact h.right
      · exact ih.right a ha
    · intro a ha
      rcases List.mem_cons.1 ha with rfl | ha
      · exact h.num
      · exact ih.num a ha
    · intro a ha
      rcases List.mem_cons.1 ha with rfl | ha
      · exact h.kind
      · exact ih.kind a ha
theorem item_node (r : Rw) (hr : RawOk r) (l : List Vl) (hl : l.length = (item r).2.2.2) : nodeB ⟨(item r).1, (item r).2.1, (item r).2.2.1, l⟩ = true ∧ I64 (item r).2.1 ∧ (item r).2.2.1.length ≤ 21 ∧ 0 ≤ (item r).1 ∧ (item r).1 < 256 := by
  obtain ⟨hr1, hr2, hr3⟩ := hr
  have hk := restN_lt r.Kind (m := 8) (by omega)
  have h3 := restN_lt r.A (m := 2) (by omega)
  have ht : (r.Text.take 20).length ≤ 20 := by rw [List.length_take]; omega
  unfold item at hl ⊢
  dsimp only at hl ⊢
  generalize hkk : (1 + (restN r.Kind 8 : Int)) = k at hl ⊢
  have hk1 : 1 ≤ k ∧ k ≤ 8 := by omega
  clear hkk hk
  unfold I64 at *
  by_cases c1 : k = 2 ∨ k = 6
  · rw [if_pos c1] at hl ⊢
    dsimp only at hl ⊢
    refine ⟨?_, hr2, by simp, by omega, by omega⟩
    unfold nodeB
    rw [if_neg (by dsimp only; omega), if_pos c1]
    simp [hl]
  rw [if_neg c1] at hl ⊢
  by_cases c2 : k = 3
  · rw [if_pos c2] at hl ⊢
    dsimp only at hl ⊢
    refine ⟨?_, by omega, by simp, by omega, by omega⟩
    unfold nodeB
    rw [if_neg (by dsimp only; omega), if_neg (by dsimp only; omega), if_pos c2]
    have : restN r.A 2 = 0 ∨ restN r.A 2 = 1 := by omega
    rcases this with h | h <;> simp [hl, h]
  rw [if_neg c2] at hl ⊢
  by_cases c3 : k = 4
  · rw [if_pos c3] at hl ⊢
    dsimp only at hl ⊢
    refine ⟨?_, by omega, by omega, by omega, by omega⟩
    unfold nodeB
    rw [if_neg (by dsimp only; omega), if_neg (by dsimp only; omega), if_neg (by dsimp only; omega), if_pos c3]
    simp [hl]
  rw [if_neg c3] at hl ⊢
  by_cases c4 : k = 5
  · rw [if_pos c4] at hl ⊢
    dsimp only at hl ⊢
    refine ⟨?_, by omega, by simp only [List.length_cons]; omega, by omega, by omega⟩
    unfold nodeB
    rw [if_neg (by dsimp only; omega), if_neg (by dsimp only; omega), if_neg (by dsimp only; omega), if_neg (by dsimp only; omega), if_pos c4]
    simp
  rw [if_neg c4] at hl ⊢
  by_cases c5 : k = 7
  · rw [if_pos c5] at hl ⊢
    dsimp only at hl ⊢
    refine ⟨?_, hr2, by omega, by omega, by omega⟩
    unfold nodeB
    rw [if_neg (by dsimp only; omega), if_neg (by dsimp only; omega), if_neg (by dsimp only; omega), if_neg (by dsimp only; omega), if_neg (by dsimp only; omega), if_pos c5]
  rw [if_neg c5] at hl ⊢
  by_cases c6 : k = 8
  · rw [if_pos c6] at hl ⊢
    dsimp only at hl ⊢
    refine ⟨?_, by omega, by simp, by omega, by omega⟩
    unfold nodeB
    rw [if_neg (by dsimp only; omega), if_neg (by dsimp only; omega), if_neg (by dsimp only; omega), if_neg (by dsimp only; omega), if_neg (by dsimp only; omega), if_neg (by dsimp only; omega), if_pos c6]
    simp
    omega
  rw [if_neg c6] at hl ⊢
  dsimp only at hl ⊢
  have : k = 1 := by omega
  refine ⟨?_, by omega, by simp, by omega, by omega⟩
  unfold nodeB
  rw [if_pos this]
  simp [hl]
theorem nx_made {l : List Rw} (hl : ∀ r ∈ l, RawOk r) : ∀ f at_, Made f at_ (nx l f at_).2 (nx l f at_).1
  | 0, at_ => unit_made 0 at_
  | f + 1, at_ => by
    rw [nx]
    cases hr : l[at_]? with
    | none => exact unit_made (f + 1) at_
    | some r =>
      dsimp only
      split
      · exact unit_made (f + 1) at_
      · rename_i h60
        have hs := nxs_made (nx_made hl f) (item r).2.2.2 (at_ + 1)
        have hlen := nxs_len (nx l f) (item r).2.2.2 (at_ + 1)
        have hm := item_many r
        obtain ⟨i1, i2, i3, i4, i5⟩ := item_node r (hl r (List.mem_of_getElem? hr)) _ hlen
        generalize nxs (nx l f) (item r).2.2.2 (at_ + 1) = q at *
        obtain ⟨qs, q2⟩ := q
        dsimp only at *
        have := hs.le
        have := hs.top
        refine ⟨by omega, by omega, ?_, ?_, ?_, ?_, ?_, ?_⟩
        · have := hs.nodes; rw [nodes_eq]; dsimp only; omega
        · have := hs.depth; rw [depth_eq]; dsimp only; omega
        · have := hs.long; rw [long_eq]; dsimp only; omega
        · rw [rightB_eq, i1, Bool.true_and]; exact (rightsB_iff _).2 hs.right
        · exact (allv_iff _).2 ⟨i2, hs.num⟩
        · exact (allv_iff _).2 ⟨⟨i4, i5⟩, hs.kind⟩
theorem text_of (r : Rw) (ht : r.Text.length ≤ B) : sp39 r (r.Text.take 20) := by
  refine ok39 _ _ ?_
  unfold w39
  unfold B at ht
  rintro _ rfl
  refine ⟨by omega, ?_⟩
  rintro _ rfl
  have : (min (r.Text.length : Int) 20).toNat = min r.Text.length 20 := by omega
  rw [this]
  simp only [Int.toNat_zero, List.drop_zero]
  rw [show min r.Text.length 20 = min 20 r.Text.length by omega, ← List.take_take, List.take_length]
theorem reta (r : Rw) : GkRaw.mk r.Kind r.A r.B r.Text = r := rfl
theorem next_call {l : List Rw} (hl : ∀ r ∈ l, RawOk r ∧ r.Text.length ≤ B) (hlen : l.length ≤ B) : ∀ (f at_ : Nat), f ≤ 20 → at_ ≤ B → sp38 (21 - f : Nat) at_ l ((nx l f at_).1, ((nx l f at_).2 : Int), l)
  | f, at_, hf, hat => by
    refine ok38 _ _ _ _ ?_
    unfold w38
    unfold B at hat hlen
    have hnone : ∀ {q}, l.length ≤ q → ∀ f, nx l f q = (unit, q) := by
      intro q hq f
      cases f with
      | zero => rfl
      | succ f => rw [nx, List.getElem?_eq_none hq]
    refine ⟨fun h => ?_, fun h1 => ⟨fun h => ?_, fun h2 => ⟨fun h => ?_, fun h3 => ?_⟩⟩⟩
    · rw [hnone (by omega)]; rfl
    · cases f with
      | zero => rfl
      | succ f =>
        rw [nx]
        cases l[at_]? with
        | none => rfl
        | some r => dsimp only; rw [if_pos (by omega)]; rfl
    · have : f = 0 := by omega
      subst this
      rfl
    · refine ⟨by omega, fun r hr => ?_⟩
      have hr' : l[at_]? = some r := by simpa using hr
      obtain ⟨hro, hrt⟩ := hl r (List.mem_of_getElem? hr')
      obtain ⟨hrk, hra, hrb⟩ := hro
      obtain ⟨f, rfl⟩ : ∃ f', f = f' + 1 := ⟨f - 1, by omega⟩
      have hnx : nx l (f + 1) at_ = (⟨(item r).1, (item r).2.1, (item r).2.2.1, (nxs (nx l f) (item r).2.2.2 (at_ + 1)).1⟩, (nxs (nx l f) (item r).2.2.2 (at_ + 1)).2) := by
        rw [nx, hr']; dsimp only; rw [if_neg (by omega)]
      rw [hnx]
      clear hnx
      refine ⟨by omega, ?_⟩
      rintro _ rfl
      have hk := restN_lt r.Kind (m := 8) (by omega)
      refine ⟨_, rest_call r.Kind 8 (by omega) hrk, by omega, ?_⟩
      rintro _ rfl
      have tx := text_of r hrt
      rw [reta]
      have hm := item_many r
      refine ⟨fun a b c => a = (item r).2.1 ∧ b = (item r).2.2.1 ∧ c = ((item r).2.2.2 : Int), ⟨fun t => t = decide ((1 + (restN r.Kind 8 : Int)) = 2 ∨ (1 + (restN r.Kind 8 : Int)) = 6), ⟨fun h => by simp [h], fun h => ?_⟩, ?_⟩, ?_⟩
      · rintro _ rfl
        rw [Bool.eq_iff_iff]; simp [h]
      · have hki : (item r).1 = 1 + (restN r.Kind 8 : Int) := by
          unfold item; dsimp only; repeat' split
          all_goals rfl
        rintro _ rfl
        unfold item
        dsimp only
        generalize (1 + (restN r.Kind 8 : Int)) = k
        refine ⟨fun h => ?_, fun h => ?_⟩
        · rw [if_pos (by simpa using h)]; exact ⟨rfl, rfl, rfl⟩
        rw [if_neg (by simpa using h)]
        refine ⟨fun h => ⟨_, rest_call r.A 2 (by omega) hra, by rw [if_pos h]; exact ⟨rfl, rfl, rfl⟩⟩, fun h => ?_⟩
        rw [if_neg h]
        refine ⟨fun h => ⟨_, tx, by rw [if_pos h]; exact ⟨rfl, rfl, rfl⟩⟩, fun h => ?_⟩
        rw [if_neg h]
        refine ⟨fun h => ⟨_, tx, by simp only [List.length_cons, List.length_nil, List.length_take]; omega, ?_⟩, fun h => ?_⟩
        · rintro _ rfl
          exact ⟨_, rest_call r.A 4 (by omega) hra, by rw [if_pos h]; exact ⟨rfl, rfl, rfl⟩⟩
        rw [if_neg h]
        refine ⟨fun h => ⟨_, tx, _, rest_call r.B 3 (by omega) hrb, by rw [if_pos h]; exact ⟨rfl, rfl, rfl⟩⟩, fun h => ?_⟩
        rw [if_neg h]
        refine ⟨fun h => ⟨_, rest_call r.A 2 (by omega) hra, by rw [if_pos h]; exact ⟨rfl, rfl, rfl⟩⟩, fun h => ?_⟩
        rw [if_neg h]
        exact ⟨rfl, rfl, rfl⟩
      · rintro _ _ _ ⟨rfl, rfl, rfl⟩
        have hki : (item r).1 = 1 + (restN r.Kind 8 : Int) := by
          unfold item; dsimp only; repeat' split
          all_goals rfl
        rw [← hki]
        generalize (item r).2.2.2 = m at hm ⊢
        have mono : ∀ (g : Nat → Vl × Nat), (∀ a, a ≤ (g a).2 ∧ (g a).2 ≤ max a 60) → ∀ m a, (nxs g m a).2 ≤ max a 60 := by
          intro g hg m
          induction m with
          | zero => intro a; simp [nxs]; omega
          | succ m ih => intro a; rw [nxs]; have := ih (g a).2; have := hg a; dsimp only; omega
        have hmono := mono (nx l f) (fun a => by have := nx_made (fun r hr => (hl r hr).1) f a; exact ⟨this.le, this.top⟩)
        refine ⟨fun a c vs k => ∃ j : Nat, k = j ∧ j ≤ m ∧ c = l ∧ vs = (nxs (nx l f) j (at_ + 1)).1 ∧ a = ((nxs (nx l f) j (at_ + 1)).2 : Int), fun _ _ _ k => m - k.toNat, ⟨0, rfl, by omega, rfl, rfl, by simp [nxs]⟩, ?_⟩
        rintro _ cc _ _ ⟨j, rfl, hj, hc, rfl, rfl⟩ t rfl
        obtain rfl : l = cc := hc.symm
        refine ⟨fun h => ?_, fun h => ?_⟩
        · have hjm : j < m := by simp at h; omega
          refine ⟨by omega, ?_⟩
          rintro _ rfl
          have hmj := hmono j (at_ + 1)
          have ih := next_call hl (by unfold B; omega) f (nxs (nx l f) j (at_ + 1)).2 (by omega) (by unfold B; omega)
          rw [show ((21 - f : Nat) : Int) = ((21 - (f + 1) : Nat) : Int) + 1 by omega] at ih
          refine ⟨_, ih, ?_, ?_⟩
          · have := nxs_len (nx l f) j (at_ + 1)
            simp only [List.length_cons, List.length_nil]
            omega
          · rintro _ rfl
            refine ⟨by omega, ?_⟩
            rintro _ rfl
            refine ⟨⟨j + 1, by omega, by omega, rfl, ?_, ?_⟩, by dsimp only; omega⟩
            · rw [nxs_snoc]
            · rw [nxs_snoc]
        · have hjm : j = m := by simp at h; omega
          subst hjm
          rfl
termination_by f => f
theorem valueOf_call {l : List Rw} (hl : ∀ r ∈ l, RawOk r ∧ r.Text.length ≤ B) (hlen : l.length ≤ B) : sp11 l (valOf l) := by
  refine ok11 _ _ ?_
  unfold w11
  exact ⟨_, next_call hl hlen 20 0 (by omega) (by unfold B; omega), eta _⟩
theorem valOf_check {l : List Rw} (hl : ∀ r ∈ l, RawOk r ∧ r.Text.length ≤ B) : checkE (valOf l) = 0 ∧ nodes (valOf l) ≤ B ∧ AllV NumOk (valOf l) ∧ AllV KindOk (valOf l) := by
  have h := nx_made (fun r hr => (hl r hr).1) 20 0
  change Made 20 0 (nx l 20 0).2 (valOf l) at h
  have h1 := h.nodes
  have h2 := h.top
  have h3 := h.depth
  have h4 := h.long
  refine ⟨?_, by unfold B; omega, h.num, h.kind⟩
  unfold checkE
  rw [if_neg (by omega), if_pos h.right]
end Go.Hw.VB

