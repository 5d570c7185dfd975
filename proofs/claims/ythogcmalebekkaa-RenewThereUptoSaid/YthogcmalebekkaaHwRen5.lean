import Derived.Test.YthogcmalebekkaaHwRen4
set_option linter.unusedVariables false
set_option linter.unusedSimpArgs false
namespace Go.Hw.VR
open Go Go.Proofs

theorem vals_ext {b z : Bool} {S : List F9} {vals : List Vl} (hs : Vals b z S vals) : ∀ v ∈ vals, ∃ k z τ, okV k z v τ = true := by
  intro v hv
  obtain ⟨i, hi⟩ := List.getElem?_of_mem hv
  have hlt := (List.getElem?_eq_some_iff.1 hi).1
  have hl := hs.1
  obtain ⟨u, h1, k, z, h2⟩ := hs.2 i _ (List.getElem?_eq_getElem (by omega : i < S.length))
  rw [hi] at h1; injection h1 with h1; subst h1
  exact ⟨k, z, _, h2⟩
theorem s23 {s t : Sv} (ha : s.Actor = t.Actor) (he : s.State = t.State) (hl : s.State.length ≤ 1000) (h : ∀ v ∈ s.State, ∃ k z τ, okV k z v τ = true) (hi : s.Inputs = []) (hi' : t.Inputs = []) : sp23 s t true := by
  have h31 := s31 s.State s.State (List.replicate s.State.length true) hl rfl (by simp) (fun i a c b h1 h2 h3 => by
    rw [h1] at h2; injection h2 with h2; subst h2
    have hb : b = true := (List.mem_replicate.1 (List.mem_of_getElem? h3)).2
    subst hb
    obtain ⟨k, z, τ, hok⟩ := h a (List.mem_of_getElem? h1)
    exact s17r hok)
  have hall : (List.replicate s.State.length true).all id = true := by rw [List.all_eq_true]; intro x hx; exact (List.mem_replicate.1 hx).2
  rw [hall] at h31
  refine ok23 s t true ⟨fun _ => ⟨true, by rw [← he]; exact h31, fun _ => ⟨fun _ => ?_, fun h => by rw [hi] at h; simp at h⟩, fun h => by cases h⟩, fun h => absurd ha h⟩
  rintro _ rfl
  rw [hi']; rfl
theorem s24 {m : Mv} {s : Sv} (h : sp34 s ⟨[m]⟩ true (m, 0)) (hf : Fine m) (hn : (s.State.length : Int) = m.Count) (hc : ∀ v ∈ s.State, ∃ k z τ, okV k z v τ = true) : sp24 s ⟨[m]⟩ (m.Lost.map (fun i => (s.State[i.toNat]?).getD zeroV), 0) := by
  refine ok24 s ⟨[m]⟩ _ ⟨_, h, fun h => absurd rfl h, fun _ => ?_⟩
  have hl := hf.lost.1
  refine ⟨fun us j => 0 ≤ j ∧ j ≤ m.Lost.length ∧ us = (m.Lost.map (fun i => (s.State[i.toNat]?).getD zeroV)).take j.toNat, fun _ j => ((m.Lost.length : Int) - j).toNat, ⟨by omega, by omega, by simp⟩, ?_⟩
  rintro us j ⟨j0, j1, rfl⟩ w rfl
  refine ⟨fun hj => ?_, fun hj => ?_⟩
  · simp at hj
    refine ⟨⟨j0, hj⟩, fun i hi => ?_⟩
    have hr := hf.lost.2 i (List.mem_of_getElem? hi)
    refine ⟨⟨hr.1, by omega⟩, fun v hv => ?_⟩
    obtain ⟨k, z, τ, hok⟩ := hc v (List.mem_of_getElem? hv)
    have hm : (m.Lost.map (fun i => (s.State[i.toNat]?).getD zeroV))[j.toNat]? = some v := by rw [List.getElem?_map, hi]; simp only [Option.map_some, hv, Option.getD_some]
    refine ⟨v, s35 hok, ?_, ?_⟩
    · simp only [List.length_take, List.length_singleton, List.length_map]; omega
    rintro _ rfl
    refine ⟨by unfold R64; omega, ?_⟩
    rintro _ rfl
    refine ⟨⟨by omega, by omega, ?_⟩, by simp only; omega⟩
    rw [(at_nat j0 hm).2.1]
  · simp at hj
    show ((m.Lost.map (fun i => (s.State[i.toNat]?).getD zeroV)).take j.toNat, (0 : Int)) = _
    rw [all_nat (by simp; omega)]
theorem set_keep {vals us : List Vl} {a c : Nat} {v : Vl} (hl : us.length = vals.length) (hv : vals[c]? = some v) (h : us[a]? = vals[a]?) : (us.set c v)[a]? = vals[a]? := by
  rw [List.getElem?_set]
  have hlt := (List.getElem?_eq_some_iff.1 hv).1
  split
  · rename_i hca
    subst hca
    rw [if_pos (by omega), hv]
  · exact h
theorem set_here {vals us : List Vl} {c : Nat} {v : Vl} (hl : us.length = vals.length) (hv : vals[c]? = some v) : (us.set c v)[c]? = vals[c]? := by
  have hlt := (List.getElem?_eq_some_iff.1 hv).1
  rw [List.getElem?_set, if_pos rfl, if_pos (by omega), hv]
theorem s25 {m : Mv} {x : Sv} {rest vals : List Vl} (h : sp34 x ⟨[m]⟩ false (m, 0)) (hf : Fine m) (hx : x.State.length = m.Fields.length) (hr : rest.length = m.Lost.length) (hn : (vals.length : Int) = m.Count)
    (hok : ∀ v ∈ vals, ∃ k z τ, okV k z v τ = true)
    (h1 : ∀ (i : Nat) (f : Fd), m.Fields[i]? = some f → 0 ≤ f.From → x.State[i]? = vals[f.From.toNat]?)
    (h2 : ∀ (i : Nat) (c : Int), m.Lost[i]? = some c → rest[i]? = vals[c.toNat]?)
    (hall : ∀ a : Nat, a < vals.length → (∃ f ∈ m.Fields, f.From = a) ∨ (a : Int) ∈ m.Lost) : sp25 x ⟨[m]⟩ rest (⟨x.Actor, vals, []⟩, 0) := by
  have hcount := hf.count
  have hfl := hf.fields.1
  have hll := hf.lost.1
  refine ok25 x ⟨[m]⟩ rest _ ⟨_, h, fun h => absurd rfl h, fun _ => ⟨fun h => by simp only at h; omega, fun _ => ⟨⟨hcount.1, by simp only; omega, by simp only; omega⟩, ?_⟩⟩⟩
  rintro _ rfl
  simp only [List.length_replicate]
  refine ⟨fun us i => 0 ≤ i ∧ i ≤ m.Fields.length ∧ us.length = vals.length ∧ ∀ t : Nat, (t : Int) < i → ∀ f, m.Fields[t]? = some f → 0 ≤ f.From → us[f.From.toNat]? = vals[f.From.toNat]?, fun _ i => ((m.Fields.length : Int) - i).toNat, ⟨by omega, by omega, by simp; omega, fun t ht => by omega⟩, ?_⟩
  rintro us i ⟨i0, i1, i2, i3⟩ w rfl
  refine ⟨fun hi => ?_, fun hi => ?_⟩
  · simp at hi
    refine ⟨⟨i0, hi⟩, fun f hfi => ?_⟩
    have hrange := hf.fields.2 f (List.mem_of_getElem? hfi)
    refine ⟨fun hp => ⟨⟨i0, by omega⟩, fun v hv => ?_⟩, fun hng => ⟨by unfold R64; omega, ?_⟩⟩
    · have hr2 := hrange.resolve_left (by omega)
      have hvv : vals[f.From.toNat]? = some v := by rw [← h1 _ _ hfi hp]; exact hv
      obtain ⟨k, z, τ, ho⟩ := hok v (List.mem_of_getElem? hvv)
      refine ⟨v, s35 ho, ⟨hr2.1, by omega⟩, by omega, fun old _ => ?_⟩
      rintro _ rfl
      refine ⟨by unfold R64; omega, ?_⟩
      rintro _ rfl
      refine ⟨⟨by omega, by omega, by simp [i2], fun t ht g hg hgp => ?_⟩, by simp only; omega⟩
      by_cases hti : (t : Int) < i
      · exact set_keep i2 hvv (i3 t hti g hg hgp)
      · have : t = i.toNat := by omega
        subst this
        rw [hfi] at hg; injection hg with hg; subst hg
        exact set_here i2 hvv
    · rintro _ rfl
      refine ⟨⟨by omega, by omega, i2, fun t ht g hg hgp => ?_⟩, by simp only; omega⟩
      by_cases hti : (t : Int) < i
      · exact i3 t hti g hg hgp
      · have : t = i.toNat := by omega
        subst this
        rw [hfi] at hg; injection hg with hg; subst hg
        omega
  · simp at hi
    have hdone : ∀ f ∈ m.Fields, 0 ≤ f.From → us[f.From.toNat]? = vals[f.From.toNat]? := by
      intro f hfm hp
      obtain ⟨t, ht⟩ := List.getElem?_of_mem hfm
      exact i3 t (by have := (List.getElem?_eq_some_iff.1 ht).1; omega) f ht hp
    refine ⟨fun us i => 0 ≤ i ∧ i ≤ m.Lost.length ∧ us.length = vals.length ∧ (∀ f ∈ m.Fields, 0 ≤ f.From → us[f.From.toNat]? = vals[f.From.toNat]?) ∧ ∀ t : Nat, (t : Int) < i → ∀ c, m.Lost[t]? = some c → us[c.toNat]? = vals[c.toNat]?, fun _ i => ((m.Lost.length : Int) - i).toNat, ⟨by omega, by omega, i2, hdone, fun t ht => by omega⟩, ?_⟩
    rintro us i ⟨j0, j1, j2, j3, j4⟩ w rfl
    refine ⟨fun hi => ?_, fun hi => ?_⟩
    · simp at hi
      refine ⟨⟨j0, hi⟩, fun c hc => ⟨⟨j0, by omega⟩, fun v hv => ?_⟩⟩
      have hr2 := hf.lost.2 c (List.mem_of_getElem? hc)
      have hvv : vals[c.toNat]? = some v := by rw [← h2 _ _ hc]; exact hv
      obtain ⟨k, z, τ, ho⟩ := hok v (List.mem_of_getElem? hvv)
      refine ⟨v, s35 ho, ⟨hr2.1, by omega⟩, by omega, fun old _ => ?_⟩
      rintro _ rfl
      refine ⟨by unfold R64; omega, ?_⟩
      rintro _ rfl
      refine ⟨⟨by omega, by omega, by simp [j2], fun f hfm hp => set_keep j2 hvv (j3 f hfm hp), fun t ht g hg => ?_⟩, by simp only; omega⟩
      by_cases hti : (t : Int) < i
      · exact set_keep j2 hvv (j4 t hti g hg)
      · have : t = i.toNat := by omega
        subst this
        rw [hc] at hg; injection hg with hg; subst hg
        exact set_here j2 hvv
    · simp at hi
      have huv : us = vals := by
        refine List.ext_getElem? fun a => ?_
        by_cases ha : a < vals.length
        · rcases hall a ha with ⟨f, hfm, hfa⟩ | hl
          · have := j3 f hfm (by omega)
            rw [hfa] at this
            simpa using this
          · obtain ⟨t, ht⟩ := List.getElem?_of_mem hl
            have := j4 t (by have := (List.getElem?_eq_some_iff.1 ht).1; omega) _ ht
            simpa using this
        · rw [List.getElem?_eq_none (by omega), List.getElem?_eq_none (by omega)]
      refine ⟨by rw [j2]; omega, ?_⟩
      rw [huv]
theorem w10_true {n m : Int} {l : List Int} (hn : R64 n) (hm : R64 m) (hl : ∀ x ∈ l, R64 x) (hll : l.length ≤ 2 ^ 62) : w10 n m l (fun b => b = true) := by
  obtain ⟨b, z, S, g, hp⟩ := progF_prog n
  obtain ⟨b', z', S', g', hq⟩ := progF_prog m
  obtain ⟨vp, hvp⟩ := firstsOf hp
  obtain ⟨vq, hvq⟩ := firstsOf hq
  obtain ⟨vals, v1, v2, v3⟩ := s20 hp hl hll
  have hs := vals_of v1 v2
  have h6 := hp.few
  have h6' := hq.few
  have hself : sp19 (progF n) (progF n) (⟨[moveF S S vp]⟩, 0) := s19 hp hp hvp _ (.inl ⟨okay_self b z S g, rfl⟩)
  obtain ⟨e1, e2⟩ := turned hp hp hvp (s := ⟨[65], vals, []⟩) rfl rfl hs
  -- over itself nothing changes
  have hsame : S.map (fun j => turnV ⟨[65], vals, []⟩ (fldF S vp j)) = vals := by
    refine List.ext_getElem? fun i => ?_
    rw [List.getElem?_map]
    cases hj : S[i]? with
    | none => rw [List.getElem?_eq_none_iff] at hj; rw [List.getElem?_eq_none (by omega)]; rfl
    | some j =>
      obtain ⟨v, w1, -⟩ := v2 i j hj
      rw [w1, Option.map_some, turn_in hp.once hj w1]
  rw [hsame] at e1
  have h23 := s23 (s := ⟨[65], vals, []⟩) (t := ⟨[65], vals, []⟩) rfl rfl (by simp only; omega) (vals_ext hs) rfl rfl
  by_cases hok : Okay b z b' z' S S' g g'
  · obtain ⟨t1, t2⟩ := turned hp hq hvq (s := ⟨[65], vals, []⟩) rfl rfl hs
    have hf := move_fine hp.once h6 h6' vq
    have h34 : sp34 ⟨[65], vals, []⟩ ⟨[moveF S S' vq]⟩ true (moveF S S' vq, 0) := s34 hf rfl true (by simp [moveF, v1]) rfl
    have h24 := s24 h34 hf (by simp [moveF, v1]) (vals_ext hs)
    have h34b : sp34 ⟨[65], S'.map (fun j => turnV ⟨[65], vals, []⟩ (fldF S vq j)), []⟩ ⟨[moveF S S' vq]⟩ false (moveF S S' vq, 0) := s34 hf rfl false (by simp [moveF]) rfl
    have h25 := s25 (vals := vals) (rest := (moveF S S' vq).Lost.map (fun i => (vals[i.toNat]?).getD zeroV)) h34b hf (by simp [moveF]) (by simp) (by simp [moveF, v1]) (vals_ext hs) (fun i f hfi h0 => by
      simp only [moveF, List.getElem?_map] at hfi ⊢
      obtain ⟨j, hj, rfl⟩ := Option.map_eq_some_iff.1 hfi
      rw [hj, Option.map_some]
      rcases pos_cases hp.once j with ⟨hjS, a, ha, hal, hpos⟩ | ⟨hjS, hpos⟩
      · obtain ⟨v, w1, -⟩ := v2 a j ha
        rw [turn_in hp.once ha w1]
        unfold fldF
        rw [if_pos hjS, hpos]
        simp only [Int.toNat_natCast, w1]
      · unfold fldF at h0
        rw [if_neg hjS] at h0
        simp at h0) (fun i c hc => by
      have hr := hf.lost.2 c (List.mem_of_getElem? hc)
      have hlt : c.toNat < vals.length := by
        have : (moveF S S' vq).Count = S.length := rfl
        omega
      rw [List.getElem?_map, hc, Option.map_some, List.getElem?_eq_getElem hlt]; rfl) (fun a ha => by
      by_cases hany : ∃ f ∈ (moveF S S' vq).Fields, f.From = (a : Int)
      · exact .inl hany
      · right
        simp only [moveF, lostF, List.mem_map, List.mem_filter, List.mem_range]
        refine ⟨a, ⟨by omega, ?_⟩, rfl⟩
        simp only [Bool.not_eq_true', ← Bool.not_eq_true, List.any_eq_true, beq_iff_eq]
        exact hany)
    obtain ⟨body', ha'⟩ := hq.actors
    refine ⟨_, s11 hn, _, s11 hm, _, s19 hp hq hvq _ (.inl ⟨hok, rfl⟩), _, hself, _, v3, _, e1, fun h => absurd rfl h, fun _ => ⟨fun h => absurd rfl h, fun _ => ⟨true, h23, fun h => by simp at h, fun _ => ⟨fun h => absurd rfl h, fun _ => ?_⟩⟩⟩⟩
    refine ⟨_, t1, _, h24, _, h25, fun h => absurd rfl h, fun _ => ⟨fun h => absurd rfl h, fun _ => ⟨fun h => absurd rfl h, fun _ => ⟨true, h23, fun h => by simp at h, fun _ => ⟨by rw [ha']; simp, fun a16 h16 => ?_⟩⟩⟩⟩⟩
    rw [ha'] at h16; simp at h16; subst h16
    refine ⟨fun h => by simp at h, fun _ => ⟨by rw [ha']; simp, fun a17 h17 => ?_⟩⟩
    rw [ha'] at h17; simp at h17; subst h17
    refine ⟨fun v => 0 ≤ v ∧ v ≤ S'.length, fun v => ((S'.length : Int) - v).toNat, ⟨by omega, by omega⟩, ?_⟩
    rintro v ⟨i0, i1⟩ w rfl
    refine ⟨fun hi => ?_, fun _ => rfl⟩
    simp at hi
    refine ⟨⟨i0, by simpa using hi⟩, fun t ht => ⟨⟨i0, by simp; omega⟩, fun x hx => ?_⟩⟩
    rw [List.getElem?_map] at ht
    obtain ⟨j, hj, rfl⟩ := Option.map_eq_some_iff.1 ht
    simp only [List.getElem?_map, hj, Option.map_some, Option.some.injEq] at hx
    have hfit : okV (kb b') z' x (ctF j) = true := by
      subst hx
      rcases pos_cases hp.once j with ⟨hjS, a, ha, hal, hpos⟩ | ⟨hjS, hpos⟩
      · obtain ⟨u, w1, w2⟩ := v2 a j ha
        rw [turn_in hp.once ha w1, ← okV_agr _ u (Nat.lt_succ_self _) (ctF j) (out_agr (ct_mem j) (hok.2 j (List.mem_of_getElem? hj) hjS))]
        exact w2
      · rw [turn_out hjS]; exact (hvq j).2
    refine ⟨_, by rw [ty_eta]; exact s15 hq.datas (kb_or b') x (ctF j), fun h => (by rw [hfit] at h; exact Bool.noConfusion h), fun _ => ⟨by unfold R64; omega, ?_⟩⟩
    rintro _ rfl
    exact ⟨⟨by omega, by omega⟩, by simp only; omega⟩
  · refine ⟨_, s11 hn, _, s11 hm, _, s19 hp hq hvq _ (.inr ⟨hok, rfl⟩), _, hself, _, v3, _, e1, fun h => absurd rfl h, fun _ => ⟨fun h => absurd rfl h, fun _ => ⟨true, h23, fun h => by simp at h, fun _ => ⟨fun _ => ⟨fun _ => ?_, fun h => absurd rfl h⟩, fun h => by simp at h⟩⟩⟩⟩
    rintro _ rfl
    rfl
theorem there_call (n m : Int) (l : List Int) (h1 : B64 n) (h2 : B64 m) (h3 : ∀ x ∈ l, B64 x) (h4 : l.length ≤ 2 ^ 62) : sp10 n m l true := ok10 n m l true (w10_true (r64_of h1) (r64_of h2) (fun x hx => r64_of (h3 x hx)) h4)
end Go.Hw.VR

