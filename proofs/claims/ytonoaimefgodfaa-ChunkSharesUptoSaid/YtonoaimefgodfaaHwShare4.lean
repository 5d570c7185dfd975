import Derived.Test.YtonoaimefgodfaaHwShare3
set_option linter.unusedVariables false
set_option linter.unusedSimpArgs false
namespace Go.Hw.VC
open Go Go.Proofs

inductive DRun : Sh → List Int → Sh → Prop
  | nil (s) : DRun s [] s
  | cons {s s1 s' n ns} (h : sp55 s n (0, s1)) (r : DRun s1 ns s') : DRun s (n :: ns) s'
theorem drun : ∀ (ps : List By) (ns : List Int) (s : Sh) (H : By → Nat) (N M : Nat), Inv s H N M → Idx s ps ns → (∀ d, ps.count d ≤ H d) →
    ∃ s', DRun s ns s' ∧ Inv s' (fun d => H d - ps.count d) N M ∧ ∀ d m, H d - ps.count d ≠ 0 → s.f_where.get d = some m → s'.f_where.get d = some m
  | [], ns, s, H, N, M, h, hi, _ => by
    cases hi
    exact ⟨s, .nil s, by simpa using h, fun d m _ hd => hd⟩
  | c :: ps, ns, s, H, N, M, h, hi, hc => by
    cases hi with
    | @cons _ n _ ns hg hi =>
      obtain ⟨s1, g1, g2, g3⟩ := drop_ok h hg
      have hc2 : ∀ d, ps.count d ≤ subH H c d := by
        intro d
        have := hc d
        rw [List.count_cons] at this
        unfold subH
        by_cases e : d = c
        · subst e; simp at this; rw [if_pos rfl]; omega
        · have e2 : (c == d) = false := by simpa using fun h : c = d => e h.symm
          rw [if_neg e]; simp [e2] at this; exact this
      have e : ∀ d, subH H c d - ps.count d = H d - (c :: ps).count d := by
        intro d
        rw [List.count_cons]
        unfold subH
        by_cases e : d = c
        · subst e; simp; omega
        · have e2 : (c == d) = false := by simpa using fun h : c = d => e h.symm
          simp [e, e2]
      obtain ⟨s', k1, k2, k3⟩ := drun ps ns s1 (subH H c) N M g2 (hi.mono fun d hd m hm => g3 d m (by
        have h1 := hc2 d
        have h2 := List.count_pos_iff.2 hd
        omega) hm) hc2
      refine ⟨s', .cons g1 k1, ?_, fun d m hd hm => ?_⟩
      · have : (fun d => subH H c d - ps.count d) = fun d => H d - (c :: ps).count d := funext e
        rw [this] at k2
        exact k2
      · rw [← e] at hd
        exact k3 d m hd (g3 d m (by omega) hm)
theorem DRun.len {s s' : Sh} {ns : List Int} (h : DRun s ns s') : True := trivial
theorem s31 {s s' : Sh} {H : By → Nat} {N M : Nat} (h : Inv s H N M) {ps : List By} {ns : List Int} (hi : Idx s ps ns) (hl : ps.length ≤ 1000) (hc : ∀ d, ps.count d ≤ H d) (hd : DRun s ns s') : sp31 s ns (0, s') := by
  have hpn := hi.len
  have hsl := h.len
  have hbig := h.big
  refine ok31 s ns _ ⟨fun pcs wh many j => GChunk_Shelf.mk pcs wh = s ∧ 0 ≤ j ∧ j ≤ ns.length ∧ ∀ c n, s.f_where.get c = some n → (many.get n).getD 0 = ((ps.take j.toNat).count c : Int), fun _ _ _ j => ((ns.length : Int) - j).toNat, ⟨rfl, by omega, by omega, fun c n _ => by simp [GM.get_nil]⟩, ?_⟩
  rintro pcs wh many j ⟨hs, j0, j1, j2⟩ w rfl
  subst hs
  refine ⟨fun hj => ?_, fun hj => ?_⟩
  · simp at hj
    refine ⟨⟨j0, hj⟩, fun n hn => ?_⟩
    obtain ⟨c, hpc, hg⟩ := hi.get _ _ hn
    obtain ⟨p, hp, hpb, hph, hH, hn1, hn2⟩ := h.held hg
    have hlt := (List.getElem?_eq_some_iff.1 hp).1
    have hcount : (ps.take (j + 1).toNat).count c = (ps.take j.toNat).count c + 1 := by
      rw [(at_nat j0 hpc).2.1, List.count_append]; simp
    have hle : (ps.take (j + 1).toNat).count c ≤ ps.count c := (List.take_sublist _ _).count_le c
    have hle2 : ps.count c ≤ ps.length := List.count_le_length
    have hcc := hc c
    rintro v22 hv22
    rw [j2 c n hg] at hv22
    subst hv22
    refine ⟨by unfold R64; omega, ?_⟩
    rintro _ rfl _ rfl
    refine ⟨_, s56 (by omega) hn1 hp (by omega), fun h => (by cases h), fun i hi2 => ?_⟩
    injection hi2 with hi2; subst hi2
    refine ⟨hlt, fun a ha => ?_⟩
    simp only at ha
    rw [hp] at ha; injection ha with ha; subst ha
    rintro v29 hv29
    rw [GM.get_put, if_pos rfl] at hv29
    simp only [Option.getD_some] at hv29
    subst hv29
    refine ⟨fun hlow => by omega, fun _ => ⟨by unfold R64; omega, ?_⟩⟩
    rintro _ rfl
    refine ⟨⟨rfl, by omega, by omega, fun d m hm => ?_⟩, by simp only; omega⟩
    rw [GM.get_put]
    by_cases e : m = n
    · subst e
      obtain ⟨q, hq, hqb, -⟩ := h.held hm
      rw [hp] at hq; injection hq with hq; subst hq
      have : d = c := hqb.symm.trans hpb
      subst this
      rw [if_pos rfl, hcount]
      simp
    · rw [if_neg e, j2 d m hm, (at_nat j0 hpc).2.1, List.count_append]
      have : c ≠ d := fun e2 => by rw [e2, hm] at hg; injection hg with hg; exact e hg
      have e2 : (c == d) = false := by simpa using this
      simp [List.count_cons, e2]
  · simp at hj
    refine ⟨fun pcs2 wh2 j => 0 ≤ j ∧ j ≤ ns.length ∧ DRun ⟨pcs2, wh2⟩ (ns.drop j.toNat) s', fun _ _ j => ((ns.length : Int) - j).toNat, ⟨by omega, by omega, hd⟩, ?_⟩
    rintro pcs2 wh2 i ⟨i0, i1, i2⟩ w rfl
    refine ⟨fun hi2 => ?_, fun hi2 => ?_⟩
    · simp at hi2
      refine ⟨⟨i0, hi2⟩, fun n hn => ?_⟩
      rw [drop_of_get hn] at i2
      cases i2 with
      | cons h55 hrun =>
        refine ⟨_, h55, by unfold R64; omega, ?_⟩
        rintro _ rfl
        refine ⟨⟨by omega, by omega, ?_⟩, by simp only; omega⟩
        rw [show (i + 1).toNat = i.toNat + 1 by omega]
        exact hrun
    · simp at hi2
      rw [List.drop_of_length_le (by omega)] at i2
      cases i2
      rfl
theorem s31_no {s : Sh} {N M : Nat} {H : By → Nat} (h : Inv s H N M) (h0 : ∀ d, H d = 0) {n : Int} {ns : List Int} (hn : 1 ≤ n) (hl : ns.length ≤ 1000) : sp31 s (n :: ns) (4, s) := by
  have hsl := h.len
  have hbig := h.big
  refine ok31 s (n :: ns) _ ⟨fun pcs wh many j => GChunk_Shelf.mk pcs wh = s ∧ many = GM.nil ∧ j = 0, fun _ _ _ _ => 0, ⟨rfl, rfl, rfl⟩, ?_⟩
  rintro pcs wh many j ⟨hs, rfl, rfl⟩ w rfl
  subst hs
  refine ⟨fun hj => ⟨by simp, fun a ha => ?_⟩, fun hj => by simp at hj⟩
  simp at ha; subst ha
  rintro v22 rfl
  refine ⟨by simp [GM.get_nil, R64], ?_⟩
  rintro _ rfl _ rfl
  refine ⟨_, s56_no (by omega) hn (fun p hp => ?_), fun _ => rfl, fun i hi => (by cases hi)⟩
  refine Classical.byContradiction fun hne => ?_
  have := h.cnt p (List.mem_of_getElem? hp) hne
  rw [h0] at this
  exact hne (by omega)
theorem empty_size {s : Sh} {N M : Nat} {H : By → Nat} (h : Inv s H N M) (h0 : ∀ d, H d = 0) : s.f_where.es.length = 0 ∧ sizeF (s.pieces.map (·.f_b)) = 0 := by
  constructor
  · cases hes : s.f_where.es with
    | nil => rfl
    | cons p r =>
      have := GM.mem_get h.wf (p := p) (by rw [hes]; simp)
      obtain ⟨_, _, _, _, hH, _⟩ := h.held this
      exact absurd (h0 _) hH
  · have : ∀ p ∈ s.pieces, p.f_b = [] := by
      intro p hp
      by_cases hh : p.holds = 0
      · exact h.zero p hp hh
      · have := h.cnt p hp hh
        rw [h0] at this
        exact absurd (by omega) hh
    have key : ∀ l : List Pc, (∀ p ∈ l, p.f_b = []) → sizeF (l.map (·.f_b)) = 0 := by
      intro l
      induction l with
      | nil => intro _; rfl
      | cons p l ih =>
        intro hl
        have h1 := ih fun q hq => hl q (by simp [hq])
        have h2 := hl p (by simp)
        simp only [sizeF, List.map_cons, List.sum_cons, h2, List.length_nil] at h1 ⊢
        omega
    exact key _ this
theorem s24 (l : List Int) (hl : l.length ≤ 1000) : sp24 l l true := by
  refine ok24 l l true ⟨fun h => absurd rfl h, fun _ => ⟨fun i => 0 ≤ i ∧ i ≤ l.length, fun i => ((l.length : Int) - i).toNat, ⟨by omega, by omega⟩, ?_⟩⟩
  rintro i ⟨i0, i1⟩ w rfl
  refine ⟨fun hi => ?_, fun _ => rfl⟩
  simp at hi
  refine ⟨⟨i0, hi⟩, fun a ha => ⟨⟨i0, hi⟩, fun b hb => ⟨fun hne => ?_, fun _ => ⟨by unfold R64; omega, ?_⟩⟩⟩⟩
  · rw [ha] at hb; injection hb with hb; exact absurd hb hne
  · rintro _ rfl
    exact ⟨⟨by omega, by omega⟩, by simp only; omega⟩
theorem s27 : sp27 ⟨[], GM.nil⟩ := ok27 _ rfl
theorem inv_nil : Inv ⟨[], GM.nil⟩ (fun _ => 0) 0 0 :=
  ⟨GM.nil_wf, fun c n => by simp [GM.get_nil], by simp, by simp, fun c h => absurd rfl h, by simp, by simp, by simp [GM.nil], fun _ => by omega, by omega, by omega⟩

theorem w7_true (a b : By) : w7 a b (fun r => r = true) := by
  have ga : (a.take 200).length ≤ 200 := by rw [List.length_take]; omega
  have gb : (b.take 200).length ≤ 200 := by rw [List.length_take]; omega
  generalize hA : ([120] : By) ++ a.take 200 = A
  generalize hB : b.take 200 = B at gb
  have lA : A.length ≤ 201 := by rw [← hA]; simp; omega
  have hA0 : A ≠ [] := by rw [← hA]; simp
  obtain ⟨fA, cA, pA⟩ := cut_good _ A (Nat.le_refl _)
  obtain ⟨fB, cB, pB⟩ := cut_good _ B (Nat.le_refl _)
  have smA : ∀ c ∈ cutF A, c.length ≤ 32 := fun c hc => by obtain ⟨i, hi⟩ := List.getElem?_of_mem hc; exact (pA i c hi).2.1
  have smB : ∀ c ∈ cutF B, c.length ≤ 32 := fun c hc => by obtain ⟨i, hi⟩ := List.getElem?_of_mem hc; exact (pB i c hi).2.1
  -- a is kept
  obtain ⟨x, s1, N1, r1, v1, n1, -, i1, -, -⟩ := krun (cutF A) _ _ 0 0 inv_nil smA (.inl (by omega)) (by omega)
  simp only [Nat.zero_add] at v1 n1
  have one : ∀ c ∈ cutF A, (cutF A).count c ≠ 0 := fun c hc => by have := List.count_pos_iff.2 hc; omega
  -- and once more
  obtain ⟨y, s2, N2, r2, v2, n2, n2', i2, m2, q2⟩ := krun (cutF A) s1 _ N1 _ v1 smA (.inr one) (by omega)
  obtain ⟨e2, e2'⟩ := q2 one
  have n2'' := n2' one
  -- and b
  obtain ⟨z, s3, N3, r3, v3, n3, -, i3, m3, -⟩ := krun (cutF B) s2 _ N2 _ v2 smB (.inl (by omega)) (by omega)
  have i1' : Idx s3 (cutF A) x := i1.mono fun c _ m hm => m3 _ _ (m2 _ _ hm)
  have i2' : Idx s3 (cutF A) y := i2.mono fun c _ m hm => m3 _ _ hm
  have hxy : x = y := i1'.uniq i2'
  subst hxy
  -- the first is freed
  obtain ⟨s4, d4, v4, m4⟩ := drun (cutF A) x s3 _ N3 _ v3 i1' (fun d => by omega)
  have i3' : Idx s4 (cutF B) z := i3.mono fun c hc m hm => m4 _ _ (by have := List.count_pos_iff.2 hc; omega) hm
  have i4 : Idx s4 (cutF A) x := i1'.mono fun c hc m hm => m4 _ _ (by have := List.count_pos_iff.2 hc; omega) hm
  -- b is
  obtain ⟨s5, d5, v5, m5⟩ := drun (cutF B) z s4 _ N3 _ v4 i3' (fun d => by omega)
  have i5 : Idx s5 (cutF A) x := i4.mono fun c hc m hm => m5 _ _ (by have := List.count_pos_iff.2 hc; omega) hm
  -- and the second
  obtain ⟨s6, d6, v6, -⟩ := drun (cutF A) x s5 _ N3 _ v5 i5 (fun d => by omega)
  have z6 : ∀ d, (cutF A).count d + (cutF A).count d + (cutF B).count d - (cutF A).count d - (cutF B).count d - (cutF A).count d = 0 := fun d => by omega
  obtain ⟨es6, sz6⟩ := empty_size v6 z6
  have lx := i1.len
  have lz := i3.len
  refine ⟨_, s27, by simp, _, s14 a (k := 200) (by omega), by simp; omega, ?_⟩
  rintro v5' rfl
  rw [hA]
  refine ⟨_, s14 b (k := 200) (by omega), ?_⟩
  rw [hB]
  refine ⟨_, s28 (by omega) r1, _, s29 v1, _, s28 (by omega) r2, _, s29 v2, _, s28 (by omega) r3, _, s30 v3 i1' (by rw [fA]; omega) (by omega), _, s30 v3 i3 (by rw [fB]; omega) (by omega), ?_⟩
  refine ⟨fun h => absurd rfl h, fun _ => ⟨fun h => absurd rfl h, fun _ => ⟨fun h => absurd rfl h, fun _ => ⟨fun h => absurd rfl h, fun _ => ⟨fun h => absurd rfl h, fun _ => ⟨fun h => absurd (by rw [e2]) h, fun _ => ⟨fun h => absurd (by rw [e2']) h, fun _ => ⟨fun h => ?_, fun _ => ⟨fun h => absurd fA h, fun _ => ⟨fun h => absurd fB h, fun _ => ?_⟩⟩⟩⟩⟩⟩⟩⟩⟩⟩
  · -- something is there
    exfalso
    have hne : cutF A ≠ [] := fun e => hA0 (by rw [← fA, e]; rfl)
    obtain ⟨c, ps, hc⟩ := List.exists_cons_of_ne_nil hne
    rw [hc] at i1
    cases i1 with
    | cons hg _ =>
      obtain ⟨n, hn⟩ := GM.get_mem hg
      have : 0 < s1.f_where.es.length := List.length_pos_of_mem hn
      simp only at h
      omega
  refine ⟨true, s24 x (by omega), fun h => by simp at h, fun _ => ⟨_, s31 v3 i1' (by omega) (fun d => by omega) d4, fun h => absurd rfl h, fun _ => ⟨_, s31 v4 i3' (by omega) (fun d => by omega) d5, fun h => absurd rfl h, fun _ => ?_⟩⟩⟩
  refine ⟨_, s30 v5 i5 (by rw [fA]; omega) (by omega), fun h => absurd rfl h, fun _ => ⟨fun h => absurd fA h, fun _ => ⟨_, s31 v5 i5 (by omega) (fun d => by omega) d6, fun h => absurd rfl h, fun _ => ⟨_, s29 v6, ?_⟩⟩⟩⟩
  refine ⟨fun _ => ⟨fun _ => ?_, fun h => absurd (by simp only [sz6]; rfl) h⟩, fun h => absurd (by simp only [es6]; rfl) h⟩
  have hne : cutF A ≠ [] := fun e => hA0 (by rw [← fA, e]; rfl)
  obtain ⟨c, ps, hc⟩ := List.exists_cons_of_ne_nil hne
  rw [hc] at i5
  cases i5 with
  | @cons _ n _ ns hg _ =>
    obtain ⟨_, _, _, _, _, hn1, _⟩ := v5.held hg
    refine ⟨_, s31_no v6 z6 hn1 (by simp at lx; omega), ?_⟩
    rintro _ rfl
    rfl
theorem shares_call (a b : By) : sp7 a b true := ok7 a b true (w7_true a b)
end Go.Hw.VC

