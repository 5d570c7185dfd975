import Derived.Test.YtphdkcgchcogdaaHwSolve3
set_option linter.unusedVariables false
set_option linter.unusedSimpArgs false
namespace Go.Hw.VE
open Go Go.Proofs Go.Shelf

theorem runF_ind {reg : List Md} {f : List Pk} (T : List Pk → List Us → Prop) (step : ∀ P W m, T P W → nextB W P ≠ [] → m ∈ versF reg f (nextB W P) → rightF (W ++ m.Uses) (P ++ [⟨nextB W P, m.Version⟩]) = true → T (P ++ [⟨nextB W P, m.Version⟩]) (W ++ m.Uses)) :
    ∀ (k : Nat) (P : List Pk) (W : List Us) (P' : List Pk) (W' : List Us), T P W → runF reg f k P W = some (P', W') → T P' W' ∧ nextB W' P' = []
  | 0, P, W, P', W', _, h => by simp [runF] at h
  | k + 1, P, W, P', W', hT, h => by
    by_cases hn : nextB W P = []
    · rw [runF, if_pos hn] at h
      injection h with h
      injection h with h1 h2
      subst h1; subst h2
      exact ⟨hT, hn⟩
    · rw [runF, if_neg hn] at h
      obtain ⟨m, hm, hg⟩ := List.exists_of_findSome?_eq_some h
      split at hg
      · rename_i hr
        exact runF_ind T step k _ _ P' W' (step P W m hT hn hm hr) hg
      · cases hg
theorem runF_bnd {Nm : List (List UInt8)} {reg : List Md} {f : List Pk} (R : Reg Nm reg f) {k : Nat} {P : List Pk} {W : List Us} {P' : List Pk} {W' : List Us} (B : Bnd Nm P W) (h : runF reg f k P W = some (P', W')) : Bnd Nm P' W' :=
  (runF_ind (Bnd Nm) (fun P W m hB hn hm _ => (Bnd.step R hB hn hm).1) k P W P' W' B h).1
def bestF (reg : List Md) (f : List Pk) (root : List Us) : List Pk × Int := match runF reg f 14 [] root with | some (P, _) => (isort ltP P, 0) | none => ([], 22)
theorem s10 {Nm : List (List UInt8)} {reg : List Md} {f : List Pk} {root : List Us} (hc : sp15 reg 0) (hw : sp20 root 0) (R : Reg Nm reg f) (B : Bnd Nm [] root) : sp10 reg root f (bestF reg f root) := by
  refine ok10 _ _ _ _ ?_
  unfold w10
  have hB1 := B.cn; have hB2 := B.len
  simp only [List.length_nil] at hB1 hB2
  refine ⟨0, hc, fun h => absurd rfl h, fun _ => ⟨0, hw, fun h => absurd rfl h, fun _ => ⟨root, s21m root (by omega), _, s22 R 14 [] root B (by omega), fun h => ?_, fun h => ?_⟩⟩⟩
  · cases hr : runF reg f 14 [] root with
    | none => simp only [bestF, hr]
    | some q => rw [hr] at h; simp [resF] at h
  · cases hr : runF reg f 14 [] root with
    | none => rw [hr] at h; simp [resF] at h
    | some q =>
      obtain ⟨P', W'⟩ := q
      have hl : P'.length ≤ 12 := by have := (runF_bnd R B hr).cn; omega
      simp only [resF]
      refine ⟨isort ltP P', s23 P' hl, isort_len P', isort ltP P', s26 _ (by rw [isort_len]; omega), ?_⟩
      simp only [bestF, hr]


theorem s27 (c : UInt8) (h1 : 97 ≤ c.toNat) (h2 : c.toNat ≤ 122) : sp27 [c] true := by
  refine ok27 _ _ ?_
  unfold w27
  refine ⟨fun v => v = 0 ∨ v = 1, fun v => (1 - v).toNat, .inl rfl, ?_⟩
  intro v hv t ht
  refine ⟨fun h => ?_, fun h => ?_⟩
  · have hlt : v < 1 := by rw [h] at ht; simpa using of_decide_eq_true ht.symm
    obtain rfl : v = 0 := by omega
    refine ⟨by simp, fun q hq => ?_⟩
    obtain rfl : c = q := by simpa using hq
    refine ⟨fun h => by omega, fun _ => ⟨fun h => by omega, fun _ => ⟨by decide, ?_⟩⟩⟩
    rintro _ rfl
    exact ⟨.inr rfl, by decide⟩
  · refine ⟨fun _ => ?_, fun h => by simp at h⟩
    rintro _ rfl
    simp
structure UOk (u : Us) : Prop where
  nm : ∃ c : UInt8, u.Name = [c] ∧ 97 ≤ c.toNat ∧ c.toNat ≤ 101
  lo : 1 ≤ u.Low
  mid : u.Low ≤ u.High
  hi : u.High ≤ 9999
theorem s20 (l : List Us) (hl : l.length ≤ 5) (hu : ∀ u ∈ l, UOk u) : sp20 l 0 := by
  refine ok20 _ _ ?_
  unfold w20
  refine ⟨fun h => by omega, fun _ => ⟨fun v => ∃ k : Nat, v = k ∧ k ≤ l.length, fun v => (l.length - v).toNat, ⟨0, rfl, by omega⟩, ?_⟩⟩
  rintro v ⟨k, rfl, hk⟩ t ht
  refine ⟨fun h1 => ?_, fun _ => rfl⟩
  have hlt : k < l.length := by rw [h1] at ht; have := of_decide_eq_true ht.symm; omega
  refine ⟨by omega, fun u hu' => ?_⟩
  have h2 : l[k]? = some u := by simpa using hu'
  have U := hu u (List.mem_of_getElem? h2)
  obtain ⟨c, hc, hc1, hc2⟩ := U.nm
  have := U.lo; have := U.mid; have := U.hi
  refine ⟨true, by rw [hc]; exact s27 c hc1 (by omega), fun h => by simp at h, fun _ => ⟨fun h => by omega, fun _ => ⟨fun h => by omega, fun _ => ⟨fun h => by omega, fun _ => ⟨by simp only [R64]; omega, ?_⟩⟩⟩⟩⟩
  rintro _ rfl
  exact ⟨⟨k + 1, by omega, by omega⟩, by dsimp only; omega⟩
def ordM (a b : Md) : Int := if cmpS a.Name b.Name ≠ 0 then cmpS a.Name b.Name else cmpI a.Version b.Version
structure MdOk (m : Md) : Prop where
  nm : ∃ c : UInt8, m.Name = [c] ∧ 97 ≤ c.toNat ∧ c.toNat ≤ 122
  lo : 1 ≤ m.Version
  hi : m.Version ≤ 9999
  len : m.Uses.length ≤ 5
  use : ∀ u ∈ m.Uses, UOk u
theorem s15 (l : List Md) (hl : l.length ≤ 30) (hm : ∀ m ∈ l, MdOk m) (ho : l.Pairwise fun a b => ordM a b < 0) : sp15 l 0 := by
  refine ok15 _ _ ?_
  unfold w15
  refine ⟨fun h => by omega, fun _ => ⟨fun v => ∃ k : Nat, v = k ∧ k ≤ l.length, fun v => (l.length - v).toNat, ⟨0, rfl, by omega⟩, ?_⟩⟩
  rintro v ⟨k, rfl, hk⟩ t ht
  refine ⟨fun h1 => ?_, fun _ => rfl⟩
  have hlt : k < l.length := by rw [h1] at ht; have := of_decide_eq_true ht.symm; omega
  refine ⟨by omega, fun m hm' => ?_⟩
  have h2 : l[k]? = some m := by simpa using hm'
  have M := hm m (List.mem_of_getElem? h2)
  obtain ⟨c, hc, hc1, hc2⟩ := M.nm
  have := M.lo; have := M.hi
  refine ⟨true, by rw [hc]; exact s27 c hc1 hc2, fun h => by simp at h, fun _ => ⟨fun h => by omega, fun _ => ⟨fun h => by omega, fun _ => ⟨0, s20 _ M.len M.use, fun h => absurd rfl h, fun _ => ⟨fun h0 => ⟨by simp only [R64]; omega, ?_⟩, fun h0 => ⟨by simp only [R64]; omega, ?_⟩⟩⟩⟩⟩⟩
  · rintro _ rfl
    refine ⟨by omega, fun p hp => ?_⟩
    have hp' : l[k - 1]? = some p := by
      have : ((k : Int) - 1).toNat = k - 1 := by omega
      rwa [this] at hp
    have hord : ordM p m < 0 := by
      obtain ⟨h3, rfl⟩ := List.getElem?_eq_some_iff.1 hp'
      obtain ⟨h4, rfl⟩ := List.getElem?_eq_some_iff.1 h2
      exact List.pairwise_iff_getElem.1 ho (k - 1) k h3 h4 (by omega)
    refine ⟨_, s28 _ _, fun h => ?_, fun h => ⟨by simp only [R64]; omega, ?_⟩⟩
    · have : (0 : Int) ≤ ordM p m := h
      omega
    · rintro _ rfl
      exact ⟨⟨k + 1, by omega, by omega⟩, by dsimp only; omega⟩
  · rintro _ rfl
    exact ⟨⟨k + 1, by omega, by omega⟩, by dsimp only; omega⟩


def Nm5 : List (List UInt8) := [[97], [98], [99], [100], [101]]
theorem UOk.mem {u : Us} (h : UOk u) : u.Name ∈ Nm5 := by
  obtain ⟨c, hc, h1, h2⟩ := h.nm
  rw [hc]
  have : c = 97 ∨ c = 98 ∨ c = 99 ∨ c = 100 ∨ c = 101 := by
    rcases (by omega : c.toNat = 97 ∨ c.toNat = 98 ∨ c.toNat = 99 ∨ c.toNat = 100 ∨ c.toNat = 101) with h | h | h | h | h
    · exact .inl (UInt8.toNat.inj h)
    · exact .inr (.inl (UInt8.toNat.inj h))
    · exact .inr (.inr (.inl (UInt8.toNat.inj h)))
    · exact .inr (.inr (.inr (.inl (UInt8.toNat.inj h))))
    · exact .inr (.inr (.inr (.inr (UInt8.toNat.inj h))))
  rcases this with rfl | rfl | rfl | rfl | rfl <;> simp [Nm5]
def nmN (i : Nat) : List UInt8 := [UInt8.ofNat (97 + i)]
structure MAt (m : Md) (j : Nat) : Prop where
  lt : j < 20
  nm : m.Name = nmN (j / 4)
  ver : m.Version = 1 + (j % 4 : Nat)
  len : m.Uses.length ≤ 5
  use : ∀ u ∈ m.Uses, UOk u
theorem cmp_nm : ∀ x, x < 5 → ∀ y, y < 5 → cmpS (nmN x) (nmN y) = if x < y then -1 else if y < x then 1 else 0 := by decide
theorem ord_at {a b : Md} {i j : Nat} (ha : MAt a i) (hb : MAt b j) (h : i < j) : ordM a b < 0 := by
  have h1 := ha.lt; have h2 := hb.lt
  unfold ordM
  rw [ha.nm, hb.nm, cmp_nm _ (by omega) _ (by omega), ha.ver, hb.ver]
  by_cases hq : i / 4 < j / 4
  · simp [hq]
  · have : i / 4 = j / 4 := by omega
    simp only [this, Nat.lt_irrefl, if_false, ne_eq, not_true_eq_false]
    unfold cmpI
    rw [if_pos (by omega)]
    decide
theorem MAt.ok {m : Md} {j : Nat} (h : MAt m j) : MdOk m := by
  have h1 := h.lt; have h2 := h.ver
  refine ⟨⟨UInt8.ofNat (97 + j / 4), h.nm, ?_, ?_⟩, by omega, by omega, h.len, h.use⟩
  · rw [UInt8.toNat_ofNat', Nat.mod_eq_of_lt (by omega)]; omega
  · rw [UInt8.toNat_ofNat', Nat.mod_eq_of_lt (by omega)]; omega
structure RegAt (i : Nat) (l : List Md) : Prop where
  len : l.length ≤ i
  ord : l.Pairwise fun a b => ordM a b < 0
  at_ : ∀ m ∈ l, ∃ j, j < i ∧ MAt m j
theorem RegAt.snoc {i : Nat} {l : List Md} (h : RegAt i l) {m : Md} (hm : MAt m i) : RegAt (i + 1) (l ++ [m]) := by
  refine ⟨by have := h.len; simp; omega, List.pairwise_append.2 ⟨h.ord, List.pairwise_singleton _ _, fun a ha b hb => ?_⟩, fun a ha => ?_⟩
  · obtain rfl : b = m := by simpa using hb
    obtain ⟨j, hj, hat⟩ := h.at_ a ha
    exact ord_at hat hm hj
  · rcases List.mem_append.1 ha with ha | ha
    · obtain ⟨j, hj, hat⟩ := h.at_ a ha
      exact ⟨j, by omega, hat⟩
    · obtain rfl : a = m := by simpa using ha
      exact ⟨i, by omega, hm⟩
theorem RegAt.skip {i : Nat} {l : List Md} (h : RegAt i l) : RegAt (i + 1) l :=
  ⟨by have := h.len; omega, h.ord, fun m hm => let ⟨j, hj, ha⟩ := h.at_ m hm; ⟨j, by omega, ha⟩⟩
theorem td (x d : Int) (hd : 0 < d) : x.tdiv d = if 0 ≤ x then x / d else -((-x) / d) := by
  split
  · rename_i h; exact Int.tdiv_eq_ediv_of_nonneg h
  · rename_i h
    have : x = -(-x) := by omega
    rw [this, Int.neg_tdiv, Int.tdiv_eq_ediv_of_nonneg (by omega), Int.neg_neg]
theorem r64_td {x d : Int} (hx : R64 x) (hd : 0 < d) : R64 (x.tdiv d) := by
  simp only [R64] at hx ⊢
  rw [td x d hd]
  split
  · have h1 := Int.ediv_le_self d (a := x) (by omega)
    have h2 := Int.ediv_nonneg (a := x) (b := d) (by omega) (by omega)
    omega
  · have h1 := Int.ediv_le_self d (a := -x) (by omega)
    have h2 := Int.ediv_nonneg (a := -x) (b := d) (by omega) (by omega)
    omega
theorem byte_nm (x : Int) (h0 : 0 ≤ x) (h5 : x < 5) : IntKind.wrap .u8 (97 + x) = 97 + x ∧ [97 + x].map (fun m : Int => UInt8.ofNat m.toNat) = nmN x.toNat := by
  rcases (by omega : x = 0 ∨ x = 1 ∨ x = 2 ∨ x = 3 ∨ x = 4) with rfl | rfl | rfl | rfl | rfl <;> decide
theorem UOk_mk (x lo hi : Int) (h0 : 0 ≤ x) (h5 : x < 5) (h1 : 1 ≤ lo) (h2 : lo ≤ hi) (h3 : hi ≤ 9999) : UOk ⟨nmN x.toNat, lo, hi⟩ :=
  ⟨⟨UInt8.ofNat (97 + x.toNat), rfl, by rw [UInt8.toNat_ofNat', Nat.mod_eq_of_lt (by omega)]; omega, by rw [UInt8.toNat_ofNat', Nat.mod_eq_of_lt (by omega)]; omega⟩, h1, h2, h3⟩
theorem s9 (l : List Int) (hl : l.length ≤ 9223372036854775807) (hr : ∀ x ∈ l, R64 x) : ∃ r, sp9 l r ∧ r.length ≤ 3 ∧ ∀ u ∈ r, UOk u := by
  let mkU : Int → Us := fun a => ⟨nmN (restF (a.tdiv 3) 5).toNat, 1 + restF a 3, 1 + restF a 3 + restF (a.tdiv 15) 3⟩
  have hU : ∀ a, UOk (mkU a) := fun a => by
    have h1 := restF_bound (a.tdiv 3) 5 (by decide)
    have h2 := restF_bound a 3 (by decide)
    have h3 := restF_bound (a.tdiv 15) 3 (by decide)
    exact UOk_mk _ _ _ h1.1 h1.2 (by omega) (by omega) (by omega)
  refine ⟨(l.take 3).map mkU, ok9 _ _ ?_, by simp; omega, fun u hu => by
    obtain ⟨a, _, rfl⟩ := List.mem_map.1 hu
    exact hU a⟩
  unfold w9
  refine ⟨fun v2 v3 => ∃ k : Nat, v3 = k ∧ k ≤ l.length ∧ v2 = ((l.take k).take 3).map mkU, fun _ v => (l.length - v).toNat, ⟨0, rfl, by omega, by simp⟩, ?_⟩
  rintro _ v ⟨k, rfl, hk, rfl⟩ t ht
  refine ⟨fun h1 => ?_, fun h1 => ?_⟩
  · have hlt : k < l.length := by rw [h1] at ht; have := of_decide_eq_true ht.symm; omega
    refine ⟨by omega, fun a ha => ?_⟩
    have ha' : l[k]? = some a := by simpa using ha
    have ra := hr a (List.mem_of_getElem? ha')
    refine ⟨fun h3 => ?_, fun h3 => ⟨by simp only [R64]; omega, ?_⟩⟩
    · have b1 := restF_bound a 3 (by decide)
      have b2 := restF_bound (a.tdiv 3) 5 (by decide)
      have b3 := restF_bound (a.tdiv 15) 3 (by decide)
      refine ⟨_, s12 a 3 ra (by decide), by simp only [R64]; omega, ?_⟩
      rintro _ rfl
      refine ⟨⟨by decide, r64_td ra (by decide)⟩, ?_⟩
      rintro _ rfl
      refine ⟨_, s12 _ 5 (r64_td ra (by decide)) (by decide), by simp only [R64]; omega, ?_⟩
      rintro _ rfl
      rintro _ rfl
      obtain ⟨e1, e2⟩ := byte_nm _ b2.1 b2.2
      rw [e1, e2]
      refine ⟨fun m hm => by simp at hm; subst hm; omega, ⟨by decide, r64_td ra (by decide)⟩, ?_⟩
      rintro _ rfl
      refine ⟨_, s12 _ 3 (r64_td ra (by decide)) (by decide), by simp only [R64]; omega, ?_⟩
      rintro _ rfl
      refine ⟨by simp; omega, ?_⟩
      rintro _ rfl
      refine ⟨by simp only [R64]; omega, ?_⟩
      rintro _ rfl
      refine ⟨⟨k + 1, by omega, by omega, ?_⟩, by dsimp only; omega⟩
      have e3 : (l.take (k + 1)).take 3 = (l.take k).take 3 ++ [a] := by
        rw [List.take_take, List.take_take, Nat.min_eq_right (by omega), Nat.min_eq_right (by omega), List.take_add_one, ha']
        rfl
      rw [e3, List.map_append]
      rfl
    · rintro _ rfl
      refine ⟨⟨k + 1, by omega, by omega, ?_⟩, by dsimp only; omega⟩
      rw [List.take_take, List.take_take, Nat.min_eq_left (by omega), Nat.min_eq_left (by omega)]
  · have hge : ¬ ((k : Int) < l.length) := by rw [h1] at ht; exact of_decide_eq_false ht.symm
    show _ = _
    rw [List.take_of_length_le (by omega : l.length ≤ k)]
def useF (n : Int) (k : Nat) : Us := ⟨nmN (restF (n.tdiv 9 + k) 5).toNat, 1 + restF (n.tdiv 27) 3, 1 + restF (n.tdiv 27) 3 + restF (n.tdiv 81) 3⟩
theorem useF_ok (n : Int) (k : Nat) : UOk (useF n k) := by
  have h1 := restF_bound (n.tdiv 9 + k) 5 (by decide)
  have h2 := restF_bound (n.tdiv 27) 3 (by decide)
  have h3 := restF_bound (n.tdiv 81) 3 (by decide)
  exact UOk_mk _ _ _ h1.1 h1.2 (by omega) (by omega) (by omega)
def stepF (l : List Int) (i : Nat) : Option Md :=
  if ((l[i]?).getD 0).tmod 3 = 0 ∧ 0 < i % 4 then none else some ⟨nmN (i / 4), 1 + (i % 4 : Nat), (List.range (restF (((l[i]?).getD 0).tdiv 3) 3).toNat).map (useF ((l[i]?).getD 0))⟩
def regF (l : List Int) (k : Nat) : List Md := (List.range k).filterMap (stepF l)
theorem regF_succ (l : List Int) (k : Nat) : regF l (k + 1) = regF l k ++ (stepF l k).toList := by
  unfold regF
  rw [List.range_succ, List.filterMap_append]
  congr 1
theorem regF_at (l : List Int) : ∀ k, k ≤ 20 → RegAt k (regF l k)
  | 0, _ => ⟨by simp [regF], by simp [regF], by simp [regF]⟩
  | k + 1, h => by
    have ih := regF_at l k (by omega)
    rw [regF_succ]
    cases hs : stepF l k with
    | none => simpa using ih.skip
    | some m =>
      refine ih.snoc ?_
      unfold stepF at hs
      split at hs
      · cases hs
      · injection hs with hs
        subst hs
        have hb := restF_bound (((l[k]?).getD 0).tdiv 3) 3 (by decide)
        refine ⟨by omega, rfl, rfl, by simp; omega, fun u hu => ?_⟩
        obtain ⟨j, _, rfl⟩ := List.mem_map.1 hu
        exact useF_ok _ _
theorem s8 (l : List Int) (hl : l.length ≤ 9223372036854775807) (hr : ∀ x ∈ l, R64 x) : sp8 l (regF l 20) := by
  refine ok8 _ _ ?_
  unfold w8
  refine ⟨fun v2 v3 => ∃ i : Nat, v3 = i ∧ i ≤ 20 ∧ v2 = regF l i, fun _ v => (20 - v).toNat, ⟨0, rfl, by omega, rfl⟩, ?_⟩
  rintro _ v ⟨i, rfl, hi, rfl⟩ t ht
  refine ⟨fun h1 => ?_, fun h1 => ?_⟩
  · have hlt : i < 20 := by rw [h1] at ht; have := of_decide_eq_true ht.symm; omega
    refine ⟨fun n => n = (l[i]?).getD 0, ⟨fun h => ⟨by omega, fun a ha => ?_⟩, fun h => ?_⟩, ?_⟩
    · have : l[i]? = some a := by simpa using ha
      rw [this]; rfl
    · rw [List.getElem?_eq_none (by omega)]; rfl
    · intro n hn
      have hsuc := regF_succ l i
      have hnr : R64 n := by
        rw [hn]
        cases hq : l[i]? with
        | none => decide
        | some a => exact hr a (List.mem_of_getElem? hq)
      refine ⟨¬ (n.tmod 3 = 0 ∧ 0 < i % 4), ⟨by decide, ?_⟩, ?_⟩
      · rintro _ rfl
        refine ⟨fun h3 => ⟨by decide, ?_⟩, fun h3 => fun h4 => h3 h4.1⟩
        rintro _ rfl
        have e4 : ((i : Int)).tmod 4 = ((i % 4 : Nat) : Int) := rfl
        refine ⟨fun h4 => ⟨by simp only [R64]; omega, ?_⟩, fun h4 => fun h5 => by omega⟩
        rintro _ rfl
        refine ⟨⟨i + 1, by omega, by omega, ?_⟩, by dsimp only; omega⟩
        rw [hsuc]
        have : stepF l i = none := by
          unfold stepF
          rw [if_pos ⟨by rw [← hn]; exact h3, by omega⟩]
        rw [this]; simp
      · intro hns
        have hst : stepF l i = some ⟨nmN (i / 4), 1 + (i % 4 : Nat), (List.range (restF (n.tdiv 3) 3).toNat).map (useF n)⟩ := by
          unfold stepF
          rw [← hn, if_neg hns]
        rw [hst] at hsuc
        refine ⟨⟨by decide, by
          have : ((i : Int)).tdiv 4 = ((i / 4 : Nat) : Int) := rfl
          rw [this]; simp only [R64]; omega⟩, ?_⟩
        rintro _ rfl
        have e5 : ((i : Int)).tdiv 4 = ((i / 4 : Nat) : Int) := rfl
        rw [e5]
        refine ⟨by simp only [R64]; omega, ?_⟩
        rintro _ rfl
        rintro _ rfl
        obtain ⟨e1, e2⟩ := byte_nm ((i / 4 : Nat) : Int) (by omega) (by omega)
        rw [e1, e2]
        have e6 : (((i / 4 : Nat) : Int)).toNat = i / 4 := by omega
        rw [e6]
        refine ⟨fun m hm => by simp only [List.mem_cons, List.not_mem_nil, or_false] at hm; omega, by decide, ?_⟩
        rintro _ rfl
        have e4 : ((i : Int)).tmod 4 = ((i % 4 : Nat) : Int) := rfl
        rw [e4]
        refine ⟨by simp only [R64]; omega, ?_⟩
        rintro _ rfl
        refine ⟨⟨by decide, r64_td hnr (by decide)⟩, ?_⟩
        rintro _ rfl
        have b0 := restF_bound (n.tdiv 3) 3 (by decide)
        refine ⟨_, s12 _ 3 (r64_td hnr (by decide)) (by decide), ?_⟩
        generalize hr0 : restF (n.tdiv 3) 3 = r0 at b0 hsuc
        refine ⟨fun v70 v71 => ∃ k : Nat, v71 = k ∧ k ≤ r0.toNat ∧ v70 = (List.range k).map (useF n), fun _ v => (r0 - v).toNat, ⟨0, rfl, by omega, rfl⟩, ?_⟩
        rintro _ v ⟨k, rfl, hk, rfl⟩ t2 ht2
        refine ⟨fun h2 => ?_, fun h2 => ?_⟩
        · have hlt2 : (k : Int) < r0 := by rw [h2] at ht2; exact of_decide_eq_true ht2.symm
          have b1 := restF_bound (n.tdiv 27) 3 (by decide)
          have b2 := restF_bound (n.tdiv 9 + k) 5 (by decide)
          have b3 := restF_bound (n.tdiv 81) 3 (by decide)
          have h93 : R64 (n.tdiv 9 + k) := by
            have h9 := td n 9 (by decide)
            simp only [R64] at hnr ⊢
            split at h9 <;> omega
          refine ⟨⟨by decide, r64_td hnr (by decide)⟩, ?_⟩
          rintro _ rfl
          refine ⟨_, s12 _ 3 (r64_td hnr (by decide)) (by decide), by simp only [R64]; omega, ?_⟩
          rintro _ rfl
          refine ⟨⟨by decide, r64_td hnr (by decide)⟩, ?_⟩
          rintro _ rfl
          refine ⟨h93, ?_⟩
          rintro _ rfl
          refine ⟨_, s12 _ 5 h93 (by decide), by simp only [R64]; omega, ?_⟩
          rintro _ rfl
          rintro _ rfl
          obtain ⟨f1, f2⟩ := byte_nm _ b2.1 b2.2
          rw [f1, f2]
          refine ⟨fun m hm => by simp only [List.mem_cons, List.not_mem_nil, or_false] at hm; omega, ⟨by decide, r64_td hnr (by decide)⟩, ?_⟩
          rintro _ rfl
          refine ⟨_, s12 _ 3 (r64_td hnr (by decide)) (by decide), by simp only [R64]; omega, ?_⟩
          rintro _ rfl
          refine ⟨by simp; omega, ?_⟩
          rintro _ rfl
          refine ⟨by simp only [R64]; omega, ?_⟩
          rintro _ rfl
          refine ⟨⟨k + 1, by omega, by omega, ?_⟩, by dsimp only; omega⟩
          rw [List.range_succ, List.map_append]
          rfl
        · have hge : ¬ ((k : Int) < r0) := by rw [h2] at ht2; exact of_decide_eq_false ht2.symm
          obtain rfl : k = r0.toNat := by omega
          have hlen := (regF_at l i (by omega)).len
          refine ⟨by simp only [List.length_cons, List.length_nil]; omega, ?_⟩
          rintro _ rfl
          refine ⟨by simp only [R64]; omega, ?_⟩
          rintro _ rfl
          refine ⟨⟨i + 1, by omega, by omega, ?_⟩, by dsimp only; omega⟩
          rw [hsuc]
          rfl
  · have hge : ¬ ((i : Int) < 20) := by rw [h1] at ht; exact of_decide_eq_false ht.symm
    obtain rfl : i = 20 := by omega
    rfl
end Go.Hw.VE

