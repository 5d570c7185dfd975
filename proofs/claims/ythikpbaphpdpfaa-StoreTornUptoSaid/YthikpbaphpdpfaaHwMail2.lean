import Derived.Test.YthikpbaphpdpfaaHwMail
set_option linter.unusedVariables false
set_option linter.unusedSimpArgs false
namespace Go.Hw.VB
open Go Go.Proofs

theorem nb_t {b : Bool} (h : (!b) = true) : ¬ b = true := by cases b <;> simp_all
theorem nb_f {b : Bool} (h : (!b) = false) : b = true := by cases b <;> simp_all

def rdL {A : Type} (g : Rd → A × Rd) : Nat → Rd → List A → List A × Rd
  | 0, r, acc => (acc, r)
  | n + 1, r, acc => if r.bad = true then (acc, r) else rdL g n (g r).2 (acc ++ [(g r).1])
theorem rdL_bad {A : Type} {g : Rd → A × Rd} : ∀ (n : Nat) (r : Rd) (acc : List A), r.bad = true → rdL g n r acc = (acc, r)
  | 0, r, acc, _ => rfl
  | n + 1, r, acc, h => by rw [rdL, if_pos h]
theorem rdL_inv {A : Type} {g : Rd → A × Rd} {Pr : A → Prop} {m : Nat} (hg : ∀ r : Rd, r.rest.length ≤ m → Pr (g r).1 ∧ (g r).2.rest.length ≤ r.rest.length) : ∀ (n : Nat) (r : Rd) (acc : List A), r.rest.length ≤ m → (∀ a ∈ acc, Pr a) →
    (∀ a ∈ (rdL g n r acc).1, Pr a) ∧ (rdL g n r acc).2.rest.length ≤ r.rest.length ∧ (rdL g n r acc).1.length ≤ acc.length + n
  | 0, r, acc, hr, h => ⟨h, Nat.le_refl _, by simp [rdL]⟩
  | n + 1, r, acc, hr, h => by
    rw [rdL]
    split
    · exact ⟨h, Nat.le_refl _, by simp⟩
    · obtain ⟨h1, h2⟩ := hg r hr
      obtain ⟨h3, h4, h5⟩ := rdL_inv hg n (g r).2 (acc ++ [(g r).1]) (by omega) (fun a ha => by
        rcases List.mem_append.1 ha with ha | ha
        · exact h a ha
        · simp at ha; subst ha; exact h1)
      exact ⟨h3, by omega, by simp at h5; omega⟩
theorem rdL_enc {A : Type} {g : Rd → A × Rd} {e : A → List UInt8} {s : List UInt8} : ∀ (l acc : List A) (left : Int), (∀ a ∈ l, ∀ (s : List UInt8) (left : Int), ∃ left', g ⟨e a ++ s, false, left⟩ = (a, ⟨s, false, left'⟩)) → ∃ left', rdL g l.length ⟨catL e l ++ s, false, left⟩ acc = (acc ++ l, ⟨s, false, left'⟩)
  | [], acc, left, _ => ⟨left, by simp [rdL, catL]⟩
  | a :: l, acc, left, h => by
    have hc : catL e (a :: l) ++ s = e a ++ (catL e l ++ s) := by simp [catL]
    obtain ⟨l1, h1⟩ := h a (by simp) (catL e l ++ s) left
    obtain ⟨l2, h2⟩ := rdL_enc (g := g) l (acc ++ [a]) l1 fun b hb => h b (by simp [hb])
    refine ⟨l2, ?_⟩
    rw [List.length_cons, rdL, if_neg (by simp), hc, h1]
    dsimp only
    rw [h2]
    simp


def valueF (r : Rd) : Vl × Rd := partF 40 ⟨r.rest, r.bad, 400⟩
def VRd (v : Vl) : Prop := VOk v ∧ AllV KindOk v
theorem valueF_ok (r : Rd) : VRd (valueF r).1 ∧ (valueF r).2.rest.length ≤ r.rest.length := by
  have h := partF_read 40 ⟨r.rest, r.bad, 400⟩
  have h1 := h.nodes
  have h2 := h.low (by (try dsimp only); omega)
  dsimp only at h1
  refine ⟨⟨⟨?_, h.num⟩, h.kind⟩, h.rest⟩
  unfold valueF B
  omega
theorem valueF_enc {v : Vl} (hv : VOk v) (hk : AllV KindOk v) (hc : checkE v = 0) (s : List UInt8) (left : Int) : ∃ left', valueF ⟨enc v ++ s, false, left⟩ = (v, ⟨s, false, left'⟩) := by
  have h0 : nodes v ≤ 400 ∧ depth v ≤ 40 ∧ long v ≤ 4000 := by
    unfold checkE at hc
    split at hc
    · cases hc
    · omega
  exact ⟨_, partF_enc v hv.2 hk h0.2.2 h0.1 40 s 400 h0.2.1 (by omega)⟩
def wr (n : Nat) : Int := IntKind.wrap .i64 n
theorem wr_ok (n : Nat) : I64 (wr n) := by
  unfold wr I64
  simp only [IntKind.wrap, IntKind.bits, IntKind.signed, Bool.true_and, decide_eq_true_eq, Nat.reduceSub, Int.reducePow, ge_iff_le]
  split <;> omega
theorem wr_of {n : Nat} (h : n ≤ 9223372036854775807) : wr n = n := wrap64_of (by omega) (by omega)
def letterF (r : Rd) : Lt × Rd :=
  let a := byteF r
  let f := natF a.2
  let t := natF f.2
  let n := natF t.2
  let x := textF n.2
  if a.1 = 1 ∧ x.2.bad = false then (⟨a.1, wr f.1, wr t.1, wr n.1, x.1, (valueF x.2).1⟩, (valueF x.2).2) else (⟨a.1, wr f.1, wr t.1, wr n.1, x.1, zeroV⟩, x.2)
theorem zero_vrd : VRd zeroV := by
  have h := zero_read 0 ⟨[], false, 0⟩
  exact ⟨⟨by have := h.nodes; dsimp only at this; unfold B; omega, h.num⟩, h.kind⟩
def LRd (x : Lt) : Prop := LOk x ∧ VRd x.Value ∧ 0 ≤ x.Kind ∧ x.Kind < 256
theorem letterF_ok (r : Rd) : LRd (letterF r).1 ∧ (letterF r).2.rest.length ≤ r.rest.length := by
  unfold letterF
  have b1 := byteF_rest r
  have b2 := byteF_lt r
  dsimp only
  generalize byteF r = a at *
  have f1 := natF_ok a.2
  generalize natF a.2 = f at *
  have t1 := natF_ok f.2
  generalize natF f.2 = t at *
  have n1 := natF_ok t.2
  generalize natF t.2 = n at *
  have x1 := textF_ok n.2
  generalize textF n.2 = x at *
  have v1 := valueF_ok x.2
  split
  · exact ⟨⟨⟨v1.1.1, (wr_ok _).2, (wr_ok _).2⟩, v1.1, by (try dsimp only); omega, by (try dsimp only); omega⟩, by (try dsimp only); omega⟩
  · exact ⟨⟨⟨zero_vrd.1, (wr_ok _).2, (wr_ok _).2⟩, zero_vrd, by (try dsimp only); omega, by (try dsimp only); omega⟩, by (try dsimp only); omega⟩
theorem value_call2 (r : Rd) (hr : r.rest.length ≤ B) : sp44 r (valueF r) := value_read r hr
theorem letterR_call (r : Rd) (hr : r.rest.length ≤ B) : sp48 r (letterF r) := by
  refine ok48 _ _ ?_
  unfold w48 letterF
  have b1 := byteF_rest r
  have b2 := byteF_lt r
  refine ⟨_, byte_call r hr, ?_⟩
  dsimp only
  generalize byteF r = a at *
  rintro _ rfl
  rw [wrap64_of (by omega) (by omega)]
  have f1 := natF_ok a.2
  have c1 := natR_call a.2 (by omega)
  refine ⟨_, c1, ?_⟩
  dsimp only
  generalize natF a.2 = f at *
  rintro _ rfl
  have t1 := natF_ok f.2
  refine ⟨_, natR_call f.2 (by omega), ?_⟩
  dsimp only
  generalize natF f.2 = t at *
  rintro _ rfl
  have n1 := natF_ok t.2
  refine ⟨_, natR_call t.2 (by omega), ?_⟩
  dsimp only
  generalize natF t.2 = n at *
  rintro _ rfl
  have x1 := textF_ok n.2
  refine ⟨_, textR_call n.2 (by omega), ?_⟩
  generalize textF n.2 = x at *
  refine ⟨fun t => t = decide (a.1 = 1 ∧ x.2.bad = false), ⟨fun h => ?_, fun h => ?_⟩, ?_⟩
  · have : a.1 = 1 := by omega
    exact dec_b (by simp [this])
  · have : ¬ a.1 = 1 := by omega
    exact dec_f (by simp [this])
  · rintro _ rfl
    refine ⟨fun h => ?_, fun h => ?_⟩
    · rw [if_pos (by simpa using h)]
      refine ⟨_, value_call2 x.2 (by omega), ?_⟩
      rw [eta]
      rfl
    · rw [if_neg (by simpa using h)]
      rfl
theorem letterF_enc {x : Lt} (hx : LOk x) (hk : AllV KindOk x.Value) (h : checkLF x = 0) (s : List UInt8) (left : Int) : ∃ left', letterF ⟨encL x ++ s, false, left⟩ = (x, ⟨s, false, left'⟩) := by
  obtain ⟨h1, h2, h3, h4, h5, h6⟩ := checkL_zero h
  have f1 := hx.from_
  have f2 := hx.to
  have h4' : 0 ≤ x.Num ∧ x.Num ≤ 2 ∧ 1 ≤ x.Kind ∧ x.Kind ≤ 5 := by unfold badL at h4; omega
  unfold letterF encL
  simp only [List.cons_append, List.append_assoc]
  have hb : ∀ q : List UInt8, byteF ⟨UInt8.ofNat (x.Kind % 256).toNat :: q, false, left⟩ = ((x.Kind % 256).toNat, ⟨q, false, left⟩) := by
    intro q
    simp only [byteF]
    rw [UInt8.toNat_ofNat', Nat.mod_eq_of_lt (by omega)]
  rw [hb]
  dsimp only
  rw [natF_leb (by omega)]
  dsimp only
  rw [natF_leb (by omega)]
  dsimp only
  rw [natF_leb (by omega)]
  dsimp only
  rw [textF_enc h1]
  dsimp only
  have e1 : (((x.Kind % 256).toNat : Nat) : Int) = x.Kind := by omega
  rw [wr_of (by omega), wr_of (by omega), wr_of (by omega), e1, Int.toNat_of_nonneg h2, Int.toNat_of_nonneg h3, Int.toNat_of_nonneg h4'.1]
  by_cases hk1 : x.Kind = 1
  · rw [if_pos ⟨by omega, rfl⟩, if_pos hk1]
    obtain ⟨left', hv⟩ := valueF_enc hx.v hk (h5 hk1) s left
    rw [hv]
    exact ⟨left', rfl⟩
  · rw [if_neg (by rintro ⟨h, _⟩; omega), if_neg hk1]
    rw [List.nil_append, ← h6 hk1]
    exact ⟨left, rfl⟩
def inputF (r : Rd) : Inp × Rd :=
  let a := byteF r
  if a.1 ≠ 3 then (⟨a.1, (valueF a.2).1⟩, (valueF a.2).2) else (⟨a.1, zeroV⟩, a.2)
def IRd (i : Inp) : Prop := VRd i.Value ∧ 0 ≤ i.Kind ∧ i.Kind < 256
theorem inputF_ok (r : Rd) : IRd (inputF r).1 ∧ (inputF r).2.rest.length ≤ r.rest.length := by
  unfold inputF
  have b1 := byteF_rest r
  have b2 := byteF_lt r
  dsimp only
  generalize byteF r = a at *
  have v1 := valueF_ok a.2
  split
  · exact ⟨⟨v1.1, by (try dsimp only); omega, by (try dsimp only); omega⟩, by (try dsimp only); omega⟩
  · exact ⟨⟨zero_vrd, by (try dsimp only); omega, by (try dsimp only); omega⟩, by (try dsimp only); omega⟩
theorem inputF_enc {i : Inp} (hv : VOk i.Value) (hk : AllV KindOk i.Value) (h : inpE i = 0) (s : List UInt8) (left : Int) : ∃ left', inputF ⟨encI i ++ s, false, left⟩ = (i, ⟨s, false, left'⟩) := by
  obtain ⟨h1, h2, h3, h4⟩ := inpE_zero h
  unfold inputF encI
  simp only [List.cons_append]
  have hb : ∀ q : List UInt8, byteF ⟨UInt8.ofNat (i.Kind % 256).toNat :: q, false, left⟩ = ((i.Kind % 256).toNat, ⟨q, false, left⟩) := by
    intro q
    simp only [byteF]
    rw [UInt8.toNat_ofNat', Nat.mod_eq_of_lt (by omega)]
  rw [hb]
  dsimp only
  have e1 : (((i.Kind % 256).toNat : Nat) : Int) = i.Kind := by omega
  rw [e1]
  by_cases hk3 : i.Kind = 3
  · rw [if_neg (by omega), if_neg (by simpa using hk3), List.nil_append, ← h3 hk3]
    exact ⟨left, rfl⟩
  · rw [if_pos (by omega), if_pos hk3]
    obtain ⟨left', hv'⟩ := valueF_enc hv hk (h4 hk3) s left
    rw [hv']
    exact ⟨left', rfl⟩
def savedF (r : Rd) : Sv × Rd :=
  let t := textF r
  let m := manyF 6 t.2
  let st := rdL valueF m.1 m.2 []
  let n := manyF 2000 st.2
  let i := rdL inputF n.1 n.2 []
  (⟨t.1, st.1, i.1⟩, i.2)
structure SRd (s : Sv) : Prop where
  st : ∀ v ∈ s.State, VRd v
  inp : ∀ i ∈ s.Inputs, IRd i
  n1 : s.State.length ≤ 6
  n2 : s.Inputs.length ≤ 2000
theorem SRd.ok {s : Sv} (h : SRd s) : SOk s := ⟨fun v hv => (h.st v hv).1, fun i hi => (h.inp i hi).1.1, by have := h.n1; unfold B; omega, by have := h.n2; unfold B; omega⟩
theorem savedF_ok (r : Rd) : SRd (savedF r).1 ∧ (savedF r).2.rest.length ≤ r.rest.length := by
  unfold savedF
  have t1 := textF_ok r
  dsimp only
  generalize textF r = t at *
  have m1 := manyF_ok 6 t.2
  generalize manyF 6 t.2 = m at *
  have s1 := rdL_inv (m := m.2.rest.length) (fun r _ => valueF_ok r) m.1 m.2 [] (Nat.le_refl _) (by simp)
  generalize rdL valueF m.1 m.2 [] = st at *
  have n1 := manyF_ok 2000 st.2
  generalize manyF 2000 st.2 = n at *
  have i1 := rdL_inv (m := n.2.rest.length) (fun r _ => inputF_ok r) n.1 n.2 [] (Nat.le_refl _) (by simp)
  generalize rdL inputF n.1 n.2 [] = i at *
  obtain ⟨s1, s2, s3⟩ := s1
  obtain ⟨i1, i2, i3⟩ := i1
  simp only [List.length_nil] at s3 i3
  exact ⟨⟨s1, i1, by (try dsimp only); omega, by (try dsimp only); omega⟩, by omega⟩
theorem savedR_call (r : Rd) (hr : r.rest.length ≤ B) : sp55 r (savedF r) := by
  refine ok55 _ _ ?_
  unfold w55 savedF
  have t1 := textF_ok r
  refine ⟨_, textR_call r hr, ?_⟩
  dsimp only
  generalize textF r = t at *
  refine ⟨fun re ba le vs k b => (vs, (⟨re, ba, le⟩ : Rd)) = rdL valueF (manyF 6 t.2).1 (manyF 6 t.2).2 [], ?_, ?_⟩
  · have m1 := manyF_ok 6 t.2
    refine ⟨_, many_call t.2 6 (by omega) (by omega), ?_⟩
    dsimp only
    generalize manyF 6 t.2 = m at *
    refine ⟨fun re ba le vs k => ∃ k' : Nat, k = k' ∧ vs.length + k' ≤ 6 ∧ re.length ≤ B ∧ rdL valueF k' ⟨re, ba, le⟩ vs = rdL valueF m.1 m.2 [], fun _ _ _ _ k => k.toNat, ⟨m.1, rfl, by simp; omega, by omega, rfl⟩, ?_⟩
    rintro re ba le vs _ ⟨k, rfl, hk, hre, he⟩
    refine ⟨fun hk0 => ⟨fun hb => ?_, fun hb => ?_⟩, fun hk0 => ?_⟩
    · obtain ⟨k, rfl⟩ : ∃ k', k = k' + 1 := ⟨k - 1, by omega⟩
      rw [rdL, if_neg (by simpa using hb)] at he
      have v1 := valueF_ok ⟨re, ba, le⟩
      have c1 := value_call2 ⟨re, ba, le⟩ hre
      generalize valueF ⟨re, ba, le⟩ = q at *
      refine ⟨fun re' ba' le' vs' => re' = q.2.rest ∧ ba' = q.2.bad ∧ le' = q.2.left ∧ vs' = vs ++ [q.1], ⟨q, c1, by simp; omega, ?_⟩, ?_⟩
      · rintro _ rfl
        exact ⟨rfl, rfl, rfl, rfl⟩
      · rintro _ _ _ _ ⟨rfl, rfl, rfl, rfl⟩
        refine ⟨by omega, ?_⟩
        rintro _ rfl
        exact ⟨⟨k, by omega, by simp; omega, by dsimp only at v1; omega, he⟩, by (try dsimp only); omega⟩
    · rw [rdL_bad _ _ _ (by simpa using hb)] at he
      exact he
    · have : k = 0 := by omega
      subst this
      exact he
  · rintro re ba le vs k b h
    have m1 := manyF_ok 6 t.2
    have s1 := rdL_inv (m := (manyF 6 t.2).2.rest.length) (fun r _ => valueF_ok r) (manyF 6 t.2).1 (manyF 6 t.2).2 [] (Nat.le_refl _) (by simp)
    rw [← h] at s1 ⊢
    dsimp only at s1 ⊢
    have n1 := manyF_ok 2000 ⟨re, ba, le⟩
    refine ⟨_, many_call ⟨re, ba, le⟩ 2000 (by omega) (by (try dsimp only); omega), ?_⟩
    dsimp only at n1 ⊢
    generalize manyF 2000 ⟨re, ba, le⟩ = n at *
    refine ⟨fun re ba le is k => ∃ k' : Nat, k = k' ∧ is.length + k' ≤ 2000 ∧ re.length ≤ B ∧ rdL inputF k' ⟨re, ba, le⟩ is = rdL inputF n.1 n.2 [], fun _ _ _ _ k => k.toNat, ⟨n.1, rfl, by simp; omega, by omega, rfl⟩, ?_⟩
    rintro re ba le is _ ⟨k, rfl, hk, hre, he⟩
    refine ⟨fun hk0 => ⟨fun hb => ?_, fun hb => ?_⟩, fun hk0 => ?_⟩
    · obtain ⟨k, rfl⟩ : ∃ k', k = k' + 1 := ⟨k - 1, by omega⟩
      rw [rdL, if_neg (by simpa using hb)] at he
      have i1 := inputF_ok ⟨re, ba, le⟩
      unfold inputF at he i1
      have b1 := byteF_rest ⟨re, ba, le⟩
      have b2 := byteF_lt ⟨re, ba, le⟩
      have c1 := byte_call ⟨re, ba, le⟩ hre
      dsimp only at he i1 b1
      generalize byteF ⟨re, ba, le⟩ = a at *
      refine ⟨_, c1, ?_⟩
      dsimp only
      rintro _ rfl
      rw [wrap64_of (by omega) (by omega)]
      have v1 := valueF_ok a.2
      have c2 := value_call2 a.2 (by omega)
      refine ⟨fun re' ba' le' k n t xs => (⟨k, n, t, xs⟩, (⟨re', ba', le'⟩ : Rd)) = (if a.1 ≠ 3 then valueF a.2 else (zeroV, a.2)), ⟨fun h3 => ⟨_, c2, ?_⟩, fun h3 => ?_⟩, ?_⟩
      · rw [if_pos (by omega)]
        show ((GaValue.mk _ _ _ _, _) : Vl × Rd) = _
        rw [eta]
      · rw [if_neg (by omega)]; rfl
      · rintro re' ba' le' k' n' t' xs' hq
        refine ⟨by simp; omega, ?_⟩
        rintro _ rfl
        refine ⟨by omega, ?_⟩
        rintro _ rfl
        have hif : (if a.1 ≠ 3 then ((⟨a.1, (valueF a.2).1⟩ : Inp), (valueF a.2).2) else (⟨a.1, zeroV⟩, a.2)) = (⟨a.1, ⟨k', n', t', xs'⟩⟩, ⟨re', ba', le'⟩) := by
          split
          · rename_i h3
            rw [if_pos h3] at hq
            rw [← hq]
          · rename_i h3
            rw [if_neg h3] at hq
            injection hq with hq1 hq2
            rw [← hq1, ← hq2]
        rw [hif] at he i1
        dsimp only at he i1
        exact ⟨⟨k, by omega, by simp; omega, by omega, he⟩, by (try dsimp only); omega⟩
    · rw [rdL_bad _ _ _ (by simpa using hb)] at he
      rw [← he]
    · have : k = 0 := by omega
      subst this
      rw [← he]
      rfl
theorem encs_app_s (l : List Vl) (s : List UInt8) : encs l ++ s = catL enc l ++ s := by rw [encs_catL]
structure SK (s : Sv) : Prop where
  st : ∀ v ∈ s.State, AllV KindOk v
  inp : ∀ i ∈ s.Inputs, AllV KindOk i.Value
theorem savedF_enc {x : Sv} (hx : SOk x) (hk : SK x) (h : checkSF x = 0) (s : List UInt8) (left : Int) : ∃ left', savedF ⟨encS x ++ s, false, left⟩ = (x, ⟨s, false, left'⟩) := by
  obtain ⟨h1, h2, h3, h4, h5⟩ := checkS_zero h
  unfold savedF encS
  simp only [List.append_assoc]
  rw [textF_enc (by omega)]
  dsimp only
  rw [manyF_leb h2 (by omega)]
  dsimp only
  rw [encs_app_s]
  obtain ⟨l1, e1⟩ := rdL_enc (g := valueF) (e := enc) (s := leb x.Inputs.length ++ (catL encI x.Inputs ++ s)) x.State [] left fun a ha s left => valueF_enc (hx.st a ha) (hk.st a ha) (h4 a ha) s left
  rw [e1]
  dsimp only
  rw [manyF_leb h3 (by omega)]
  dsimp only
  obtain ⟨l2, e2⟩ := rdL_enc (g := inputF) (e := encI) (s := s) x.Inputs [] l1 fun a ha s left => inputF_enc (hx.inp a ha) (hk.inp a ha) (h5 a ha) s left
  rw [e2]
  exact ⟨l2, rfl⟩
def nwF (r : Rd) : Int × Rd := (wr (natF r).1, (natF r).2)
theorem nwF_ok (r : Rd) : I64 (nwF r).1 ∧ (nwF r).2.rest.length ≤ r.rest.length := ⟨wr_ok _, (natF_ok r).2.1⟩
def numbersF (r : Rd) : List Int × Rd :=
  let m := manyF 1000 r
  rdL nwF m.1 m.2 []
theorem numbersF_ok (r : Rd) : (∀ n ∈ (numbersF r).1, I64 n) ∧ (numbersF r).2.rest.length ≤ r.rest.length ∧ (numbersF r).1.length ≤ 1000 := by
  unfold numbersF
  have m1 := manyF_ok 1000 r
  dsimp only
  generalize manyF 1000 r = m at *
  obtain ⟨h1, h2, h3⟩ := rdL_inv (m := m.2.rest.length) (fun r _ => nwF_ok r) m.1 m.2 [] (Nat.le_refl _) (by simp)
  simp only [List.length_nil] at h3
  exact ⟨h1, by omega, by omega⟩
theorem numbersR_call (r : Rd) (hr : r.rest.length ≤ B) : sp58 r (numbersF r) := by
  refine ok58 _ _ ?_
  unfold w58 numbersF
  have m1 := manyF_ok 1000 r
  refine ⟨_, many_call r 1000 (by omega) hr, ?_⟩
  dsimp only
  generalize manyF 1000 r = m at *
  refine ⟨fun re ba le vs k => ∃ k' : Nat, k = k' ∧ vs.length + k' ≤ 1000 ∧ re.length ≤ B ∧ rdL nwF k' ⟨re, ba, le⟩ vs = rdL nwF m.1 m.2 [], fun _ _ _ _ k => k.toNat, ⟨m.1, rfl, by simp; omega, by omega, rfl⟩, ?_⟩
  rintro re ba le vs _ ⟨k, rfl, hk, hre, he⟩
  refine ⟨fun hk0 => ⟨fun hb => ?_, fun hb => ?_⟩, fun hk0 => ?_⟩
  · obtain ⟨k, rfl⟩ : ∃ k', k = k' + 1 := ⟨k - 1, by omega⟩
    rw [rdL, if_neg (by simpa using hb)] at he
    unfold nwF at he
    have v1 := natF_ok ⟨re, ba, le⟩
    refine ⟨_, natR_call ⟨re, ba, le⟩ hre, ?_⟩
    dsimp only at he v1 ⊢
    generalize natF ⟨re, ba, le⟩ = q at *
    rintro _ rfl
    refine ⟨by simp; omega, ?_⟩
    rintro _ rfl
    refine ⟨by omega, ?_⟩
    rintro _ rfl
    exact ⟨⟨k, by omega, by simp; omega, by omega, he⟩, by (try dsimp only); omega⟩
  · rw [rdL_bad _ _ _ (by simpa using hb)] at he
    exact he
  · have : k = 0 := by omega
    subst this
    exact he
theorem nwF_enc {n : Int} (h : 0 ≤ n ∧ n ≤ 9223372036854775807) (s : List UInt8) (left : Int) : ∃ left', nwF ⟨lebI n ++ s, false, left⟩ = (n, ⟨s, false, left'⟩) := by
  unfold nwF lebI
  rw [natF_leb (by omega)]
  dsimp only
  rw [wr_of (by omega), Int.toNat_of_nonneg h.1]
  exact ⟨left, rfl⟩
theorem numbersF_enc {l : List Int} (hl : ∀ n ∈ l, 0 ≤ n ∧ n ≤ 9223372036854775807) (h : l.length ≤ 1000) (s : List UInt8) (left : Int) : ∃ left', numbersF ⟨leb l.length ++ (catL lebI l ++ s), false, left⟩ = (l, ⟨s, false, left'⟩) := by
  unfold numbersF
  rw [manyF_leb h (by omega)]
  dsimp only
  obtain ⟨l2, e2⟩ := rdL_enc (g := nwF) (e := lebI) (s := s) l [] left fun a ha s left => nwF_enc (hl a ha) s left
  rw [e2]
  exact ⟨l2, rfl⟩
def parcelF (r : Rd) : Pc × Rd :=
  match natF r with
  | (n, r1) => match savedF r1 with
    | (s, r2) => match manyF 60 r2 with
      | (m, r3) => match rdL letterF m r3 [] with
        | (x, r4) => match natF r4 with
          | (t, r5) => match numbersF r5 with
            | (w, r6) => match numbersF r6 with
              | (l, r7) => (⟨wr n, s, x, unzig t, w, l⟩, r7)
structure PRd (p : Pc) : Prop where
  sv : SRd p.Saved
  box : ∀ x ∈ p.Box, LRd x
  ref : I64 p.Ref
  ticks : I64 p.Ticks
  wa : ∀ n ∈ p.Watches, I64 n
  li : ∀ n ∈ p.Links, I64 n
theorem PRd.ok {p : Pc} (h : PRd p) : POk2 p := ⟨⟨h.sv.ok, fun x hx => (h.box x hx).1.v⟩, h.ref.2, h.ticks, fun x hx => (h.box x hx).1, fun n hn => (h.wa n hn).2, fun n hn => (h.li n hn).2⟩
theorem parcelF_ok (r : Rd) : PRd (parcelF r).1 ∧ (parcelF r).2.rest.length ≤ r.rest.length := by
  unfold parcelF
  have a1 := natF_ok r
  generalize natF r = n at *
  obtain ⟨n, r1⟩ := n
  dsimp only at a1 ⊢
  have a2 := savedF_ok r1
  generalize savedF r1 = s at *
  obtain ⟨s, r2⟩ := s
  dsimp only at a2 ⊢
  have a3 := manyF_ok 60 r2
  generalize manyF 60 r2 = m at *
  obtain ⟨m, r3⟩ := m
  dsimp only at a3 ⊢
  have a4 := rdL_inv (m := r3.rest.length) (fun r _ => letterF_ok r) m r3 [] (Nat.le_refl _) (by simp)
  generalize rdL letterF m r3 [] = x at *
  obtain ⟨x, r4⟩ := x
  dsimp only at a4 ⊢
  have a5 := natF_ok r4
  generalize natF r4 = t at *
  obtain ⟨t, r5⟩ := t
  dsimp only at a5 ⊢
  have a6 := numbersF_ok r5
  generalize numbersF r5 = w at *
  obtain ⟨w, r6⟩ := w
  dsimp only at a6 ⊢
  have a7 := numbersF_ok r6
  generalize numbersF r6 = l at *
  obtain ⟨l, r7⟩ := l
  dsimp only at a7 ⊢
  exact ⟨⟨a2.1, a4.1, wr_ok _, unzig_ok a5.1, a6.1, a7.1⟩, by omega⟩
noncomputable def readP (b : List UInt8) : Pc × Int :=
  let q := parcelF ⟨b, false, 0⟩
  if doneB q.2 b (bytesP q.1).1 (bytesP q.1).2 = true then (q.1, 0) else (⟨0, ⟨[], [], []⟩, [], 0, [], []⟩, 3)
theorem readP_call (b : List UInt8) (hb : b.length ≤ B) : sp22 b (readP b) := by
  refine ok22 _ _ ?_
  unfold w22 readP
  have hp := (parcelF_ok ⟨b, false, 0⟩).1.ok
  unfold parcelF at hp ⊢
  have a1 := natF_ok ⟨b, false, 0⟩
  have c1 := natR_call ⟨b, false, 0⟩ hb
  dsimp only at a1
  generalize natF ⟨b, false, 0⟩ = n at *
  obtain ⟨n, r1⟩ := n
  dsimp only at a1 c1 hp ⊢
  refine ⟨_, c1, ?_⟩
  dsimp only
  rintro _ rfl
  have a2 := savedF_ok r1
  have c2 := savedR_call r1 (by omega)
  generalize savedF r1 = s at *
  obtain ⟨s, r2⟩ := s
  dsimp only at a2 c2 hp ⊢
  refine ⟨_, c2, ?_⟩
  dsimp only
  have m1 := manyF_ok 60 r2
  have c3 := many_call r2 60 (by omega) (by omega)
  generalize manyF 60 r2 = m at *
  obtain ⟨m, r3⟩ := m
  dsimp only at m1 c3 hp ⊢
  have a4 := rdL_inv (m := r3.rest.length) (fun r _ => letterF_ok r) m r3 [] (Nat.le_refl _) (by simp)
  refine ⟨fun re ba le vs k b => (vs, (⟨re, ba, le⟩ : Rd)) = rdL letterF m r3 [], ?_, ?_⟩
  · refine ⟨_, c3, ?_⟩
    dsimp only
    refine ⟨fun re ba le vs k => ∃ k' : Nat, k = k' ∧ vs.length + k' ≤ 60 ∧ re.length ≤ B ∧ rdL letterF k' ⟨re, ba, le⟩ vs = rdL letterF m r3 [], fun _ _ _ _ k => k.toNat, ⟨m, rfl, by simp; omega, by omega, rfl⟩, ?_⟩
    rintro re ba le vs _ ⟨k, rfl, hk, hre, he⟩
    refine ⟨fun hk0 => ⟨fun hb => ?_, fun hb => ?_⟩, fun hk0 => ?_⟩
    · obtain ⟨k, rfl⟩ : ∃ k', k = k' + 1 := ⟨k - 1, by omega⟩
      rw [rdL, if_neg (by simpa using hb)] at he
      have v1 := letterF_ok ⟨re, ba, le⟩
      have c1 := letterR_call ⟨re, ba, le⟩ hre
      generalize letterF ⟨re, ba, le⟩ = q at *
      refine ⟨fun re' ba' le' vs' => re' = q.2.rest ∧ ba' = q.2.bad ∧ le' = q.2.left ∧ vs' = vs ++ [q.1], ⟨q, c1, by simp; omega, ?_⟩, ?_⟩
      · rintro _ rfl
        exact ⟨rfl, rfl, rfl, rfl⟩
      · rintro _ _ _ _ ⟨rfl, rfl, rfl, rfl⟩
        refine ⟨by omega, ?_⟩
        rintro _ rfl
        exact ⟨⟨k, by omega, by simp; omega, by dsimp only at v1; omega, he⟩, by (try dsimp only); omega⟩
    · rw [rdL_bad _ _ _ (by simpa using hb)] at he
      exact he
    · have : k = 0 := by omega
      subst this
      exact he
  · rintro re ba le vs k b' h
    rw [← h] at a4 hp ⊢
    dsimp only at a4 hp ⊢
    have a5 := natF_ok ⟨re, ba, le⟩
    have c5 := numR_call ⟨re, ba, le⟩ (by dsimp only; omega)
    dsimp only at a5
    generalize natF ⟨re, ba, le⟩ = t at *
    obtain ⟨t, r5⟩ := t
    dsimp only at a5 c5 hp ⊢
    refine ⟨_, c5, ?_⟩
    dsimp only
    have a6 := numbersF_ok r5
    have c6 := numbersR_call r5 (by omega)
    generalize numbersF r5 = w at *
    obtain ⟨w, r6⟩ := w
    dsimp only at a6 c6 hp ⊢
    refine ⟨_, c6, ?_⟩
    dsimp only
    have a7 := numbersF_ok r6
    have c7 := numbersR_call r6 (by omega)
    generalize numbersF r6 = l at *
    obtain ⟨l, r7⟩ := l
    dsimp only at a7 c7 hp ⊢
    refine ⟨_, c7, _, parcelB_call _ hp, _, done_call _ _ _ _, fun h => ?_, fun h => ?_⟩
    · exact (if_neg (nb_t h)).symm
    · exact (if_pos (nb_f h)).symm
structure PK (p : Pc) : Prop where
  sv : SK p.Saved
  box : ∀ x ∈ p.Box, AllV KindOk x.Value
theorem parcelF_enc {p : Pc} (hp : POk2 p) (hk : PK p) (h : checkPF p = 0) (s : List UInt8) (left : Int) : ∃ left', parcelF ⟨encP p ++ s, false, left⟩ = (p, ⟨s, false, left'⟩) := by
  obtain ⟨h1, h2, h3, h4, h5, h6, h7, h8, h9⟩ := checkP_zero h
  have r1 := hp.ref
  unfold parcelF encP
  simp only [List.append_assoc]
  rw [natF_leb (by omega)]
  dsimp only
  obtain ⟨l1, e1⟩ := savedF_enc hp.sv hk.sv h6 (leb p.Box.length ++ (catL encL p.Box ++ (leb (zig p.Ticks) ++ (leb p.Watches.length ++ (catL lebI p.Watches ++ (leb p.Links.length ++ (catL lebI p.Links ++ s))))))) left
  rw [e1]
  dsimp only
  rw [manyF_leb h3 (by omega)]
  dsimp only
  obtain ⟨l2, e2⟩ := rdL_enc (g := letterF) (e := encL) (s := leb (zig p.Ticks) ++ (leb p.Watches.length ++ (catL lebI p.Watches ++ (leb p.Links.length ++ (catL lebI p.Links ++ s))))) p.Box [] l1 fun a ha s left => letterF_enc (hp.box2 a ha) (hk.box a ha) (h7 a ha) s left
  rw [e2]
  dsimp only
  rw [natF_leb (zig_lt hp.ticks)]
  dsimp only
  obtain ⟨l3, e3⟩ := numbersF_enc (l := p.Watches) (fun n hn => ⟨by have := h8 n hn; omega, hp.wa n hn⟩) h4 (leb p.Links.length ++ (catL lebI p.Links ++ s)) l2
  rw [e3]
  dsimp only
  obtain ⟨l4, e4⟩ := numbersF_enc (l := p.Links) (fun n hn => ⟨by have := h9 n hn; omega, hp.li n hn⟩) h5 s l3
  rw [e4]
  dsimp only
  rw [unzig_zig, wr_of (by omega), Int.toNat_of_nonneg (by omega)]
  exact ⟨l4, rfl⟩
theorem readP_enc {p : Pc} (hp : POk2 p) (hk : PK p) (h : checkPF p = 0) : readP (encP p) = (p, 0) := by
  obtain ⟨l, e⟩ := parcelF_enc hp hk h [] 0
  rw [List.append_nil] at e
  unfold readP
  rw [e]
  dsimp only
  unfold bytesP
  rw [if_pos h]
  simp [doneB]
def readL (b : List UInt8) : Lt × Int :=
  if 2097152 < b.length then (⟨0, 0, 0, 0, [], zeroV⟩, 2) else
  let q := letterF ⟨b, false, 0⟩
  if doneB q.2 b (bytesL q.1).1 (bytesL q.1).2 = true then (q.1, 0) else (⟨0, 0, 0, 0, [], zeroV⟩, 3)
theorem readL_call (b : List UInt8) : sp20 b (readL b) := by
  refine ok20 _ _ ?_
  unfold w20 readL
  refine ⟨fun h => by rw [if_pos (by omega)]; rfl, fun h => ?_⟩
  rw [if_neg (by omega)]
  have a2 := letterF_ok ⟨b, false, 0⟩
  refine ⟨_, letterR_call ⟨b, false, 0⟩ (by unfold B; dsimp only; omega), ?_⟩
  dsimp only
  generalize letterF ⟨b, false, 0⟩ = s at *
  rw [leta]
  refine ⟨_, letterB_call s.1 a2.1.1, _, done_call _ _ _ _, fun h => ?_, fun h => ?_⟩
  · rw [if_neg (by simpa using h)]; rfl
  · rw [if_pos (by simpa using h)]
theorem readL_enc {x : Lt} (hx : LOk x) (hk : AllV KindOk x.Value) (h : checkLF x = 0) : readL (encL x) = (x, 0) := by
  obtain ⟨l, e⟩ := letterF_enc hx hk h [] 0
  rw [List.append_nil] at e
  have hl := encL_len hx h
  unfold readL
  rw [if_neg (by omega), e]
  dsimp only
  unfold bytesL
  rw [if_pos h]
  simp [doneB]
end Go.Hw.VB

