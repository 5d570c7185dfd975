import Derived.Test.YtonoaimefgodfaaHwShare2
set_option linter.unusedVariables false
set_option linter.unusedSimpArgs false
namespace Go.Hw.VC
open Go Go.Proofs

inductive Idx (s : Sh) : List By → List Int → Prop
  | nil : Idx s [] []
  | cons {c n ps ns} (h : s.f_where.get c = some n) (t : Idx s ps ns) : Idx s (c :: ps) (n :: ns)
theorem Idx.len {s : Sh} {ps : List By} {ns : List Int} (h : Idx s ps ns) : ps.length = ns.length := by
  induction h with
  | nil => rfl
  | cons _ _ ih => simp [ih]
theorem Idx.get {s : Sh} {ps : List By} {ns : List Int} (h : Idx s ps ns) : ∀ (i : Nat) (n : Int), ns[i]? = some n → ∃ c, ps[i]? = some c ∧ s.f_where.get c = some n := by
  induction h with
  | nil => intro i n h; simp at h
  | cons h _ ih =>
    intro i n hn
    cases i with
    | zero => simp at hn; subst hn; exact ⟨_, rfl, h⟩
    | succ i => exact ih i n (by simpa using hn)
theorem Idx.mono {s s' : Sh} {ps : List By} {ns : List Int} (h : Idx s ps ns) : (∀ c ∈ ps, ∀ m, s.f_where.get c = some m → s'.f_where.get c = some m) → Idx s' ps ns := by
  induction h with
  | nil => intro _; exact .nil
  | cons h _ ih => intro hm; exact .cons (hm _ (by simp) _ h) (ih fun c hc => hm c (by simp [hc]))
theorem Idx.uniq {s : Sh} {ps : List By} {ns : List Int} (h : Idx s ps ns) : ∀ {ms : List Int}, Idx s ps ms → ns = ms := by
  induction h with
  | nil => intro ms hm; cases hm; rfl
  | cons h _ ih =>
    intro ms hm
    cases hm with
    | cons h' t' =>
      rw [h] at h'; injection h' with h'
      rw [h', ih t']

inductive KRun : Sh → List By → List Int → Sh → Prop
  | nil (s) : KRun s [] [] s
  | cons {s s1 s' c n ps ns} (h : sp53 s c (n, 0, s1)) (r : KRun s1 ps ns s') : KRun s (c :: ps) (n :: ns) s'
theorem krun : ∀ (ps : List By) (s : Sh) (H : By → Nat) (N M : Nat), Inv s H N M → (∀ c ∈ ps, c.length ≤ 32) → (N + ps.length ≤ 490 ∨ ∀ c ∈ ps, H c ≠ 0) → M + ps.length ≤ 1000 →
    ∃ ns s' N', KRun s ps ns s' ∧ Inv s' (fun d => H d + ps.count d) N' (M + ps.length) ∧ N' ≤ N + ps.length ∧ ((∀ c ∈ ps, H c ≠ 0) → N' = N) ∧ Idx s' ps ns ∧ (∀ d m, s.f_where.get d = some m → s'.f_where.get d = some m) ∧
      ((∀ c ∈ ps, H c ≠ 0) → s'.f_where = s.f_where ∧ s'.pieces.map (·.f_b) = s.pieces.map (·.f_b))
  | [], s, H, N, M, h, _, _, _ => ⟨[], s, N, .nil s, by simpa using h, by simp, fun _ => rfl, .nil, fun d m hd => hd, fun _ => ⟨rfl, rfl⟩⟩
  | c :: ps, s, H, N, M, h, hc, hN, hM => by
    rw [List.length_cons] at hN hM
    obtain ⟨n, s1, N1, g1, g2, b1, b2, g3, g4, g5⟩ := put_ok h (hc c (by simp)) (hN.imp (by omega) (fun h => h c (by simp))) (by omega)
    obtain ⟨ns, s', N', k1, k2, b3, b4, k3, k4, k5⟩ := krun ps s1 (addH H c) N1 (M + 1) g2 (fun d hd => hc d (by simp [hd])) (hN.imp (by omega) (fun h d hd => by
      have := h d (by simp [hd])
      unfold addH; split <;> omega)) (by omega)
    have hall' : (∀ d ∈ c :: ps, H d ≠ 0) → ∀ d ∈ ps, addH H c d ≠ 0 := fun hall d hd => by
      have := hall d (by simp [hd])
      unfold addH; split <;> omega
    refine ⟨n :: ns, s', N', .cons g1 k1, ?_, by rw [List.length_cons]; omega, fun hall => (b4 (hall' hall)).trans (b2 (hall c (by simp))), .cons (k4 _ _ g3) k3, fun d m hd => k4 _ _ (g4 _ _ hd), fun hall => ?_⟩
    · have e : (fun d => addH H c d + ps.count d) = fun d => H d + (c :: ps).count d := by
        funext d
        rw [List.count_cons]
        unfold addH
        by_cases e : d = c
        · subst e; simp; omega
        · have : (c == d) = false := by simpa using fun h : c = d => e h.symm
          simp [e, this]
      rw [e] at k2
      rw [List.length_cons, show M + (ps.length + 1) = M + 1 + ps.length by omega]
      exact k2
    · obtain ⟨e1, e2⟩ := g5 (hall c (by simp))
      obtain ⟨e3, e4⟩ := k5 (hall' hall)
      exact ⟨e3.trans e1, e4.trans e2⟩
theorem drop_of_get {α : Type} {l : List α} {i : Nat} {a : α} (h : l[i]? = some a) : l.drop i = a :: l.drop (i + 1) := by
  obtain ⟨hi, rfl⟩ := List.getElem?_eq_some_iff.1 h
  exact List.drop_eq_getElem_cons hi
theorem KRun.len {s s' : Sh} {ps : List By} {ns : List Int} (h : KRun s ps ns s') : ps.length = ns.length := by
  induction h with
  | nil => rfl
  | cons _ _ ih => simp [ih]
theorem s28 {s s' : Sh} {b : By} {ns : List Int} (hb : b.length ≤ 300) (h : KRun s (cutF b) ns s') : sp28 s b (ns, 0, s') := by
  have hcl := (cut_good _ b (Nat.le_refl _)).2.1
  refine ok28 s b _ ⟨_, s25 b hb, fun wh pcs vs j => 0 ≤ j ∧ j ≤ (cutF b).length ∧ vs.length = j.toNat ∧ ∃ n2, KRun ⟨pcs, wh⟩ ((cutF b).drop j.toNat) n2 s' ∧ ns = vs ++ n2, fun _ _ _ j => (((cutF b).length : Int) - j).toNat, ⟨by omega, by omega, by simp, ns, h, rfl⟩, ?_⟩
  rintro wh pcs vs j ⟨j0, j1, j2, n2, j3, j4⟩ w rfl
  refine ⟨fun hj => ?_, fun hj => ?_⟩
  · simp at hj
    refine ⟨⟨j0, hj⟩, fun c hc => ?_⟩
    rw [drop_of_get hc] at j3
    cases j3 with
    | @cons _ s1 _ _ n _ ns2 h53 hrun =>
      refine ⟨_, h53, fun h => absurd rfl h, fun _ => ⟨by simp; omega, ?_⟩⟩
      rintro _ rfl
      refine ⟨by unfold R64; omega, ?_⟩
      rintro _ rfl
      refine ⟨⟨by omega, by omega, by simp [j2]; omega, ns2, ?_, by rw [j4]; simp⟩, by simp only; omega⟩
      rw [show (j + 1).toNat = j.toNat + 1 by omega]
      exact hrun
  · simp at hj
    rw [List.drop_of_length_le (by omega)] at j3
    cases j3
    rw [List.append_nil] at j4
    rw [j4]

theorem s30 {s : Sh} {H : By → Nat} {N M : Nat} (h : Inv s H N M) {ps : List By} {ns : List Int} (hi : Idx s ps ns) (hlen : ps.flatten.length ≤ 1000) (hl : ps.length ≤ 1000) : sp30 s ns (ps.flatten, 0, s) := by
  have hpn := hi.len
  have hsl := h.len
  have hbig := h.big
  refine ok30 s ns _ ⟨fun pcs wh out j => GChunk_Shelf.mk pcs wh = s ∧ 0 ≤ j ∧ j ≤ ns.length ∧ out = (ps.take j.toNat).flatten, fun _ _ _ j => ((ns.length : Int) - j).toNat, ⟨rfl, by omega, by omega, by simp⟩, ?_⟩
  rintro pcs wh out j ⟨rfl, j0, j1, rfl⟩ w rfl
  refine ⟨fun hj => ?_, fun hj => ?_⟩
  · simp at hj
    refine ⟨⟨j0, hj⟩, fun n hn => ?_⟩
    obtain ⟨c, hc, hg⟩ := hi.get _ _ hn
    obtain ⟨p, hp, hpc, hph, hH, hn1, hn2⟩ := h.held hg
    have hlt := (List.getElem?_eq_some_iff.1 hp).1
    refine ⟨_, s56 (by omega) hn1 hp (by omega), fun h => (by cases h), fun i hi2 => ?_⟩
    injection hi2 with hi2; subst hi2
    refine ⟨hlt, fun a ha => ?_⟩
    simp only at ha
    rw [hp] at ha; injection ha with ha; subst ha
    have htake : (ps.take j.toNat).flatten ++ p.f_b = (ps.take (j + 1).toNat).flatten := by
      rw [(at_nat j0 hc).2.1, hpc]; simp
    have hle : ((ps.take (j + 1).toNat).flatten).length ≤ ps.flatten.length := by
      conv => rhs; rw [← List.take_append_drop (j + 1).toNat ps, List.flatten_append, List.length_append]
      omega
    refine ⟨?_, ?_⟩
    · rw [← htake, List.length_append] at hle
      omega
    rintro _ rfl
    refine ⟨by unfold R64; omega, ?_⟩
    rintro _ rfl
    exact ⟨⟨rfl, by omega, by omega, htake⟩, by simp only; omega⟩
  · simp at hj
    have : ps.take j.toNat = ps := List.take_of_length_le (by omega)
    rw [this]
    exact ⟨_, s44 _ hlen, rfl⟩

def sizeF (l : List By) : Nat := (l.map List.length).sum
theorem s29 {s : Sh} {H : By → Nat} {N M : Nat} (h : Inv s H N M) : sp29 s ((s.f_where.es.length : Int), (sizeF (s.pieces.map (·.f_b)) : Int), s) := by
  have hsl := h.len
  have hbig := h.big
  have hs : ∀ (l : List Pc), (∀ p ∈ l, p.f_b.length ≤ 32) → sizeF (l.map (·.f_b)) ≤ 32 * l.length := by
    intro l
    induction l with
    | nil => intro _; simp [sizeF]
    | cons p l ih =>
      intro hl
      have h1 := ih (fun q hq => hl q (by simp [hq]))
      have h2 := hl p (by simp)
      simp only [sizeF, List.map_cons, List.sum_cons, List.length_cons] at h1 ⊢
      omega
  have hb := hs s.pieces h.small
  refine ok29 s _ ⟨fun v j => 0 ≤ j ∧ j ≤ s.pieces.length ∧ v = (sizeF ((s.pieces.take j.toNat).map (·.f_b)) : Int), fun _ j => ((s.pieces.length : Int) - j).toNat, ⟨by omega, by omega, by simp [sizeF]⟩, ?_⟩
  rintro v j ⟨j0, j1, rfl⟩ w rfl
  refine ⟨fun hj => ?_, fun hj => ?_⟩
  · simp at hj
    refine ⟨⟨j0, hj⟩, by omega, fun p hp => ?_⟩
    have htake : sizeF ((s.pieces.take j.toNat).map (·.f_b)) + p.f_b.length = sizeF ((s.pieces.take (j + 1).toNat).map (·.f_b)) := by
      rw [(at_nat j0 hp).2.1]
      simp [sizeF]
    have hle := hs (s.pieces.take (j + 1).toNat) (fun q hq => h.small q (List.mem_of_mem_take hq))
    rw [List.length_take, ← htake] at hle
    have h3 : sizeF ((s.pieces.take j.toNat).map (·.f_b)) + p.f_b.length ≤ 16000 := by
      have := Nat.min_le_right (j + 1).toNat s.pieces.length
      omega
    refine ⟨by unfold R64; omega, ?_⟩
    rintro _ rfl
    refine ⟨by unfold R64; omega, ?_⟩
    rintro _ rfl
    refine ⟨⟨by omega, by omega, ?_⟩, by simp only; omega⟩
    rw [← htake]; simp
  · simp at hj
    have : s.pieces.take j.toNat = s.pieces := List.take_of_length_le (by omega)
    rw [this]
end Go.Hw.VC

