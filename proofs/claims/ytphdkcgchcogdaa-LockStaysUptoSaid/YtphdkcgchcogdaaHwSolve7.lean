import Derived.Test.YtphdkcgchcogdaaHwSolve6
import Derived.Test.YtphdkcgchcogdaaHwS2
set_option linter.unusedVariables false
set_option linter.unusedSimpArgs false
namespace Go.Hw.VE
open Go Go.Proofs Go.Shelf

theorem RegAt.uqR {reg : List Md} (h : RegAt 20 reg) : UqR reg := by
  have key : ∀ (i j : Nat) (m m' : Md), reg[i]? = some m → reg[j]? = some m' → i < j → m.Name = m'.Name → m.Version = m'.Version → False := by
    intro i j m m' hi hj hlt hn hv
    obtain ⟨h1, rfl⟩ := List.getElem?_eq_some_iff.1 hi
    obtain ⟨h2, rfl⟩ := List.getElem?_eq_some_iff.1 hj
    have ho := List.pairwise_iff_getElem.1 h.ord i j h1 h2 hlt
    obtain ⟨k, hk, ha⟩ := h.at_ _ (List.getElem_mem h1)
    unfold ordM at ho
    rw [← hn, ha.nm, cmp_nm _ (by omega) _ (by omega), ← hv] at ho
    simp [cmpI] at ho
  intro m hm m' hm' hn hv
  obtain ⟨i, hi⟩ := mem_get hm
  obtain ⟨j, hj⟩ := mem_get hm'
  rcases Nat.lt_trichotomy i j with hlt | rfl | hlt
  · exact (key i j m m' hi hj hlt hn hv).elim
  · rw [hi] at hj; injection hj
  · exact (key j i m' m hj hi hlt hn.symm hv.symm).elim
theorem ne_nil {n : List UInt8} (h : n ∈ Nm5) : n ≠ [] := by
  intro e
  subst e
  revert h
  decide
structure First (reg : List Md) (root : List Us) (P : List Pk) (W : List Us) : Prop where
  F : Fnd reg root P W
  B : Bnd Nm5 P W
  N : ∀ p ∈ P, p.Name ∈ Nm5
theorem First.step {reg : List Md} {root : List Us} {P : List Pk} {W : List Us} {f : List Pk} (R : Reg Nm5 reg f) (h : First reg root P W) (hn : nextB W P ≠ []) {m : Md} (hm : m ∈ reg) (hmn : m.Name = nextB W P) (hr : rightF (W ++ m.Uses) (P ++ [⟨nextB W P, m.Version⟩]) = true) :
    First reg root (P ++ [⟨nextB W P, m.Version⟩]) (W ++ m.Uses) := by
  obtain ⟨⟨u, hu, hun⟩, hP⟩ := nextB_mem hn
  refine ⟨h.F.step hn hm hmn hr, (Bnd.step R h.B hn (hmn ▸ vers_of hm)).1, fun p hp => ?_⟩
  rcases List.mem_append.1 hp with hp | hp
  · exact h.N p hp
  · obtain rfl : p = (⟨nextB W P, m.Version⟩ : Pk) := by simpa using hp
    exact hun ▸ h.B.nm u hu
theorem run_first {reg : List Md} {root : List Us} {f : List Pk} (R : Reg Nm5 reg f) (hB : Bnd Nm5 [] root) {P : List Pk} {W : List Us} (h : runF reg f 14 [] root = some (P, W)) : First reg root P W ∧ nextB W P = [] :=
  runF_ind (First reg root) (fun P W m hF hn hm hr => hF.step R hn (vers_mem hm).1 (vers_mem hm).2 hr) 14 [] root P W ⟨.start, hB, nofun⟩ h
theorem First.sel {reg : List Md} {root : List Us} {P : List Pk} {W : List Us} (h : First reg root P W) (h0 : nextB W P = []) : Sel reg root P := h.F.sel (fun u hu => ne_nil (h.B.nm u hu)) h0
theorem cnt5 (P : List Pk) : cnt Nm5 P ≤ 5 := by
  unfold cnt
  exact List.length_filter_le _ _
theorem best_cases (reg : List Md) (f : List Pk) (root : List Us) : (∃ P W, runF reg f 14 [] root = some (P, W) ∧ bestF reg f root = (isort ltP P, 0)) ∨ (runF reg f 14 [] root = none ∧ bestF reg f root = ([], 22)) := by
  cases h : runF reg f 14 [] root with
  | none => exact .inr ⟨rfl, by simp only [bestF, h]⟩
  | some q =>
    obtain ⟨P, W⟩ := q
    exact .inl ⟨P, W, rfl, by simp only [bestF, h]⟩
theorem best_some {reg : List Md} {f : List Pk} {root : List Us} (R : Reg Nm5 reg f) (hB : Bnd Nm5 [] root) {S : List Pk} (hS : Sel reg root S) : ∃ P W, runF reg f 14 [] root = some (P, W) ∧ bestF reg f root = (isort ltP P, 0) := by
  rcases best_cases reg f root with h | ⟨h, _⟩
  · exact h
  · have := cnt5 []
    exact absurd h (complete R hS 14 [] root hB (by omega) nofun hS.root)
theorem best_again {reg : List Md} {root : List Us} {P : List Pk} {W : List Us} (hr : UqR reg) (R : Reg Nm5 reg (isort ltP P)) (hB : Bnd Nm5 [] root) (h : First reg root P W) (h0 : nextB W P = []) : bestF reg (isort ltP P) root = (isort ltP P, 0) := by
  have hS := h.sel h0
  obtain ⟨P2, W2, h1, h2⟩ := best_some R hB hS
  rw [h2]
  have hx : ∀ p, p ∈ isort ltP P ↔ p ∈ P := fun p => (isort_perm P).mem_iff
  have := cnt5 []
  obtain ⟨⟨hF2, hPS, _⟩, hn2⟩ := follow R hr hS hx (fun P' W' => First reg root P' W' ∧ (∀ p ∈ P', p ∈ P) ∧ ∀ u ∈ W', Sat P u) (fun P' W' m hT hn hm hmn hp => by
    obtain ⟨hF, hPS, hWS⟩ := hT
    have hP' : ∀ p ∈ P' ++ [(⟨nextB W' P', m.Version⟩ : Pk)], p ∈ P := fun p hpm => by
      rcases List.mem_append.1 hpm with hpm | hpm
      · exact hPS p hpm
      · obtain rfl : p = (⟨nextB W' P', m.Version⟩ : Pk) := by simpa using hpm
        exact hp
    have hW' : ∀ u ∈ W' ++ m.Uses, Sat P u := fun u hu => by
      rcases List.mem_append.1 hu with hu | hu
      · exact hWS u hu
      · obtain ⟨m', hm', hall⟩ := hS.cl _ hp
        have : m' = m := hr m' hm'.1 m hm (hm'.2.1.trans hmn.symm) hm'.2.2
        subst this
        exact hall u hu
    exact ⟨hF.step R hn hm hmn (right_of hS.uq hP' hW'), hP', hW'⟩) 14 [] root P2 W2 hB (by omega) nofun hS.root ⟨⟨.start, hB, nofun⟩, nofun, hS.root⟩ h1
  have hset := same_set hr hS h.F.rch hF2.F (fun u hu => ne_nil (hF2.B.nm u hu)) hn2 hPS
  have : isort ltP P2 = isort ltP P := by
    refine asc_unique (asc_sort hF2.N hF2.F.uq) (asc_sort h.N h.F.uq) fun p => ?_
    rw [(isort_perm P2).mem_iff, (isort_perm P).mem_iff]
    exact (hset p).symm
  rw [this]


theorem s58 (l : List (List UInt8)) (x : List UInt8) (hl : l.length ≤ 1000000) : sp58 l x (idxF (fun a => decide (x = a)) l) := by
  refine ok58 _ _ _ ?_
  unfold w58
  refine ⟨fun v => ∃ k : Nat, v = k ∧ k ≤ l.length ∧ ∀ (j : Nat) (b : List UInt8), j < k → l[j]? = some b → decide (x = b) = false, fun v => (l.length - v).toNat, ⟨0, rfl, by omega, fun j b hj => by omega⟩, ?_⟩
  rintro v ⟨k, rfl, hk, hj⟩ t ht
  refine ⟨fun h1 => ?_, fun h1 => ?_⟩
  · have hlt : k < l.length := by rw [h1] at ht; have := of_decide_eq_true ht.symm; omega
    refine ⟨by omega, fun a ha => ?_⟩
    have ha' : l[k]? = some a := by simpa using ha
    refine ⟨fun he => ?_, fun hne => ⟨by simp only [R64]; omega, ?_⟩⟩
    · exact (idx_found ha' (decide_eq_true he) hj).symm
    · rintro _ rfl
      refine ⟨⟨k + 1, by omega, by omega, fun j b hjk hb => ?_⟩, by dsimp only; omega⟩
      by_cases h2 : j = k
      · subst h2; rw [ha'] at hb; injection hb with hb; subst hb; exact decide_eq_false hne
      · exact hj j b (by omega) hb
  · have hge : ¬ ((k : Int) < l.length) := by rw [h1] at ht; exact of_decide_eq_false ht.symm
    refine (idx_none fun a ha => ?_).symm
    obtain ⟨j, hj'⟩ := mem_get ha
    exact hj j a (by have := lt_of_get hj'; omega) hj'
theorem s37 (l : List (List UInt8)) (x : List UInt8) (hl : l.length ≤ 1000000) : sp37 l x (l.any fun a => decide (x = a)) := by
  refine ok37 _ _ _ ⟨_, s58 l x hl, ?_⟩
  rintro _ rfl
  exact idx_ge _ _
theorem s36 (l : List Pk) (hl : l.length ≤ 30) (hN : ∀ p ∈ l, p.Name ∈ Nm5) (hV : ∀ p ∈ l, 1 ≤ p.Version ∧ p.Version ≤ 9999) (hA : Asc l) : sp36 l 0 := by
  refine ok36 _ _ ?_
  unfold w36
  have hc : ∀ n ∈ Nm5, sp27 n true := by
    intro n hn
    simp only [Nm5, List.mem_cons, List.not_mem_nil, or_false] at hn
    rcases hn with rfl | rfl | rfl | rfl | rfl <;> exact s27 _ (by decide) (by decide)
  refine ⟨fun h => by omega, fun _ => ⟨fun v => ∃ k : Nat, v = k ∧ k ≤ l.length, fun v => (l.length - v).toNat, ⟨0, rfl, by omega⟩, ?_⟩⟩
  rintro v ⟨k, rfl, hk⟩ t ht
  refine ⟨fun h1 => ?_, fun _ => rfl⟩
  have hlt : k < l.length := by rw [h1] at ht; have := of_decide_eq_true ht.symm; omega
  refine ⟨by omega, fun m hm' => ?_⟩
  have h2 : l[k]? = some m := by simpa using hm'
  have hm := List.mem_of_getElem? h2
  have hv := hV m hm
  refine ⟨true, hc _ (hN m hm), fun h => by simp at h, fun _ => ⟨fun h => by omega, fun _ => ⟨fun h => by omega, fun _ => ⟨fun h0 => ⟨by simp only [R64]; omega, ?_⟩, fun h0 => ⟨by simp only [R64]; omega, ?_⟩⟩⟩⟩⟩
  · rintro _ rfl
    refine ⟨by omega, fun p hp => ?_⟩
    have hp' : l[k - 1]? = some p := by
      have : ((k : Int) - 1).toNat = k - 1 := by omega
      rwa [this] at hp
    have hord : rk p.Name < rk m.Name := by
      obtain ⟨h3, rfl⟩ := List.getElem?_eq_some_iff.1 hp'
      obtain ⟨h4, rfl⟩ := List.getElem?_eq_some_iff.1 h2
      exact List.pairwise_iff_getElem.1 hA (k - 1) k h3 h4 (by omega)
    rintro _ rfl
    rw [(rk_facts _ (hN p (List.mem_of_getElem? hp')) _ (hN m hm)).2.2]
    refine ⟨fun h => by simp [hord] at h, fun h => ⟨by simp only [R64]; omega, ?_⟩⟩
    rintro _ rfl
    exact ⟨⟨k + 1, by omega, by omega⟩, by dsimp only; omega⟩
  · rintro _ rfl
    exact ⟨⟨k + 1, by omega, by omega⟩, by dsimp only; omega⟩
theorem s19 {reg : List Md} {root : List Us} {x : List Pk} {free : List (List UInt8)} (hx : x.length ≤ 1000) (hf : free.length ≤ 1000000) (hc : sp36 x 0) (hb : sp10 reg root (x.filter fun p => !(free.any fun a => decide (p.Name = a))) (bestF reg (x.filter fun p => !(free.any fun a => decide (p.Name = a))) root)) :
    sp19 reg root x free (bestF reg (x.filter fun p => !(free.any fun a => decide (p.Name = a))) root) := by
  refine ok19 _ _ _ _ _ ?_
  unfold w19
  refine ⟨0, hc, fun h => absurd rfl h, fun _ => ⟨fun v6 v7 => ∃ k : Nat, v7 = k ∧ k ≤ x.length ∧ v6 = (x.take k).filter fun p => !(free.any fun a => decide (p.Name = a)), fun _ v => (x.length - v).toNat, ⟨0, rfl, by omega, rfl⟩, ?_⟩⟩
  rintro _ v ⟨k, rfl, hk, rfl⟩ t ht
  refine ⟨fun h1 => ?_, fun h1 => ?_⟩
  · have hlt : k < x.length := by rw [h1] at ht; have := of_decide_eq_true ht.symm; omega
    refine ⟨by omega, fun p hp => ?_⟩
    have hp' : x[k]? = some p := by simpa using hp
    have e1 : x.take (k + 1) = x.take k ++ [p] := by rw [List.take_add_one, hp']; rfl
    have hle : ((x.take k).filter fun p => !(free.any fun a => decide (p.Name = a))).length ≤ 1000 := by
      refine Nat.le_trans (List.length_filter_le _ _) ?_
      simp; omega
    refine ⟨_, s37 free p.Name hf, fun h2 => ⟨by simp only [List.length_cons, List.length_nil]; omega, ?_⟩, fun h2 => ⟨by simp only [R64]; omega, ?_⟩⟩
    · rintro _ rfl
      refine ⟨by simp only [R64]; omega, ?_⟩
      rintro _ rfl
      refine ⟨⟨k + 1, by omega, by omega, ?_⟩, by dsimp only; omega⟩
      rw [e1, List.filter_append, List.filter_cons, if_pos h2]
      rfl
    · rintro _ rfl
      refine ⟨⟨k + 1, by omega, by omega, ?_⟩, by dsimp only; omega⟩
      rw [e1, List.filter_append, List.filter_cons, if_neg (by rw [h2]; decide)]
      simp
  · have hge : ¬ ((k : Int) < x.length) := by rw [h1] at ht; exact of_decide_eq_false ht.symm
    rw [List.take_of_length_le (by omega)]
    exact ⟨_, hb, rfl⟩

theorem filter_nofree (x : List Pk) : x.filter (fun p => !(([] : List (List UInt8)).any fun a => decide (p.Name = a))) = x := by simp
theorem filter_free {x : List Pk} (h : ∀ p ∈ x, p.Name ∈ Nm5) : x.filter (fun p => !(Nm5.any fun a => decide (p.Name = a))) = [] := by
  rw [List.filter_eq_nil_iff]
  intro p hp
  have : (Nm5.any fun a => decide (p.Name = a)) = true := List.any_eq_true.2 ⟨p.Name, h p hp, by simp⟩
  rw [this]; simp
theorem s7 (l m : List Int) (v : Int) (hl : l.length ≤ 9223372036854775807) (hm : m.length ≤ 9223372036854775807) (hr : ∀ x ∈ l, R64 x) (hr' : ∀ x ∈ m, R64 x) (hv : R64 v) : sp7 l m v true := by
  refine ok7 _ _ _ _ ?_
  unfold w7
  obtain ⟨u, hu, hul, huo⟩ := s9 m hm hr'
  have hA := regF_at l 20 (by decide)
  have b1 := restF_bound v 4 (by decide)
  have b2 := restF_bound (v.tdiv 4) 4 (by decide)
  have b3 := restF_bound (v.tdiv 16) 4 (by decide)
  refine ⟨_, s8 l hl hr, u, hu, _, s12 v 4 hv (by decide), by simp only [R64]; omega, ?_⟩
  rintro _ rfl
  refine ⟨⟨by decide, r64_td hv (by decide)⟩, ?_⟩
  rintro _ rfl
  refine ⟨_, s12 _ 4 (r64_td hv (by decide)) (by decide), by simp only [R64]; omega, ?_⟩
  rintro _ rfl
  refine ⟨⟨by decide, r64_td hv (by decide)⟩, ?_⟩
  rintro _ rfl
  refine ⟨_, s12 _ 4 (r64_td hv (by decide)) (by decide), by simp only [R64]; omega, ?_⟩
  rintro _ rfl
  generalize regF l 20 = r at hA
  have hB := root_bnd hul huo
  refine ⟨_, s10' hA hul huo _ (by simp), true, s13, ⟨fun h => (by cases h), fun _ => ?_⟩⟩
  have hfl : ([⟨[97], 1 + restF v 4⟩, ⟨[98], 1 + restF (v.tdiv 4) 4⟩, ⟨[99], 1 + restF (v.tdiv 16) 4⟩] : List Pk).length ≤ 1000000 := by simp
  generalize ([⟨[97], 1 + restF v 4⟩, ⟨[98], 1 + restF (v.tdiv 4) 4⟩, ⟨[99], 1 + restF (v.tdiv 16) 4⟩] : List Pk) = f0 at hfl
  rcases best_cases r f0 u with ⟨P, W, h1, h2⟩ | ⟨h1, h2⟩
  · rw [h2]
    refine ⟨fun h => absurd rfl h, fun _ => ?_⟩
    obtain ⟨hF, h0⟩ := run_first (hA.reg f0 hfl) hB h1
    have hS := hF.sel h0
    have hPl : P.length ≤ 12 := by have := hF.B.cn; omega
    have hxl : (isort ltP P).length ≤ 12 := by rw [isort_len]; exact hPl
    have hag := best_again hA.uqR (hA.reg _ (by omega)) hB hF h0
    obtain ⟨P3, W3, h3, h4⟩ := best_some (hA.reg [] (by decide)) hB hS
    have hP3 : P3.length ≤ 12 := by have := (run_first (hA.reg [] (by decide)) hB h3).1.B.cn; omega
    have hmem : ∀ p, p ∈ isort ltP P → p ∈ P := fun p hp => (isort_perm P).mem_iff.1 hp
    have hN : ∀ p ∈ isort ltP P, p.Name ∈ Nm5 := fun p hp => hF.N p (hmem p hp)
    have hck : sp36 (isort ltP P) 0 := s36 _ (by omega) hN (fun p hp => by
      obtain ⟨m, ⟨hm, _, hv'⟩, _⟩ := hF.F.at_ p (hmem p hp)
      obtain ⟨j, _, ha⟩ := hA.at_ m hm
      have := ha.ver; have := ha.lt
      omega) (asc_sort hF.N hF.F.uq)
    have h17 : sp19 r u (isort ltP P) [] (isort ltP P, 0) := by
      have := s19 (reg := r) (root := u) (free := []) (by omega : (isort ltP P).length ≤ 1000) (by decide) hck (by rw [filter_nofree]; exact s10' hA hul huo _ (by omega))
      rwa [filter_nofree, hag] at this
    have h18 : sp19 r u (isort ltP P) Nm5 (isort ltP P3, 0) := by
      have := s19 (reg := r) (root := u) (free := Nm5) (by omega : (isort ltP P).length ≤ 1000) (by decide) hck (by rw [filter_free hN]; exact s10' hA hul huo _ (by decide))
      rwa [filter_free hN, h4] at this
    have h19 : sp10 r u [] (isort ltP P3, 0) := by
      have := s10' hA hul huo [] (by decide)
      rwa [h4] at this
    exact ⟨_, h17, _, h18, _, h19, fun _ => ⟨fun _ => ⟨fun _ => ⟨_, s14 _ _ (by dsimp only; omega), fun _ => ⟨_, s14 _ _ (by dsimp only; rw [isort_len]; omega), by simp⟩, fun h => by simp at h⟩, fun h => absurd rfl h⟩, fun h => absurd rfl h⟩, fun h => absurd rfl h⟩
  · rw [h2]
    refine ⟨fun _ => ?_, fun h => by simp at h⟩
    rintro _ rfl
    rfl
end Go.Hw.VE

