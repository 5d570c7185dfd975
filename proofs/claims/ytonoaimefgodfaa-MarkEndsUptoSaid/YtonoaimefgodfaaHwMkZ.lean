import Derived.Test.YtonoaimefgodfaaHwMkY
set_option linter.unusedVariables false
set_option linter.unusedSimpArgs false
namespace Go.Hw.VK
open Go Go.Proofs


def uM (m : M) (a b : Nat) : Nat := (m.wy a b).length + (1 - (m.bg a).toNat)
theorem u_say {n i a b : Nat} {wy : Nat → Nat → List Item} {bg : Nat → Bool} (h : bg i = false) (ha : a < n) (hb : b < n) (hab : a ≠ b) : (sayM n i wy a b).length + (1 - (upd bg i true a).toNat) = (wy a b).length + (1 - (bg a).toNat) := by
  unfold sayM upd
  by_cases he : a = i
  · subst he
    rw [if_pos ⟨rfl, hb, fun e => hab e.symm⟩, if_pos rfl, h, List.length_append]
    simp
  · rw [if_neg (by omega), if_neg he]
theorem u_come {n k : Nat} {m : M} (h : InvM n k m) {a b : Nat} (ha : a < n) (hb : b < n) (hab : a ≠ b) :
    (∀ c, m.bg c = true → (comeM n m a b).bg c = true) ∧
    (∀ c d, c < n → d < n → c ≠ d → ¬ (c = a ∧ d = b) → uM (comeM n m a b) c d = uM m c d) ∧
    (m.wy a b = [] ∧ uM (comeM n m a b) a b = uM m a b ∨ uM (comeM n m a b) a b + 1 = uM m a b) := by
  unfold comeM
  cases hw : m.wy a b with
  | nil => exact ⟨fun _ h => h, fun _ _ _ _ _ _ => rfl, .inl ⟨rfl, rfl⟩⟩
  | cons x r =>
    simp only
    have hmk := h.mkr a b ha hb hab
    rw [hw, marks_cons] at hmk
    have e1 : ∀ c d, ¬ (c = a ∧ d = b) → (upd2 m.wy a b r c d).length + (1 - (m.bg c).toNat) = uM m c d := fun c d he => by
      unfold upd2 uM
      rw [if_neg he]
    have e2 : (upd2 m.wy a b r a b).length + (1 - (m.bg a).toNat) + 1 = uM m a b := by
      unfold upd2 uM
      rw [if_pos ⟨rfl, rfl⟩, hw, List.length_cons]
      omega
    by_cases hm : x.marker = true
    · rw [if_pos hm]
      split
      · exact ⟨fun _ h => h, fun c d _ _ _ he => e1 c d he, .inr e2⟩
      split
      · exact ⟨fun _ h => h, fun c d _ _ _ he => e1 c d he, .inr e2⟩
      · rename_i hbg
        have hbg : m.bg b = false := by simpa using hbg
        refine ⟨fun c hc => ?_, fun c d hc hd hcd he => ?_, .inr ?_⟩
        · simp only [upd]
          split
          · rfl
          · exact hc
        · have := u_say (wy := upd2 m.wy a b r) hbg hc hd hcd
          exact this.trans (e1 c d he)
        · have := u_say (wy := upd2 m.wy a b r) hbg ha hb hab
          exact (congrArg (· + 1) this).trans e2
    · rw [if_neg hm]
      split
      · exact ⟨fun _ h => h, fun c d _ _ _ he => e1 c d he, .inr e2⟩
      · exact ⟨fun _ h => h, fun c d _ _ _ he => e1 c d he, .inr e2⟩
def cmD (a b : Nat) : GMark_Deed := ⟨2, (a : Int), (b : Int), 0⟩
theorem deed_cm {n : Nat} {m : M} {a b : Nat} (hab : a ≠ b) : deedM n m (cmD a b) = comeM n m a b := by
  show doM n m 2 (a : Int).toNat (b : Int).toNat 0 = _
  rw [Int.toNat_natCast, Int.toNat_natCast]
  unfold doM
  rw [if_neg (fun e => hab e.2), if_neg (by decide), if_pos rfl]
theorem cm_12 {n a b : Nat} (ha : a < n) (hb : b < n) : D12 n (cmD a b) :=
  ⟨.inr (.inl rfl), ⟨by show (0 : Int) ≤ a; omega, by show (a : Int) < n; omega⟩, ⟨by show (0 : Int) ≤ b; omega, by show (b : Int) < n; omega⟩, fun h => by cases h⟩
theorem cm_inj {a b c d : Nat} : cmD a b = cmD c d ↔ a = c ∧ b = d := by
  constructor
  · intro h
    injection h with _ h1 h2 _
    exact ⟨by omega, by omega⟩
  · rintro ⟨rfl, rfl⟩; rfl
theorem u_fold {n : Nat} {S : Int} : ∀ (ds : List GMark_Deed) (k : Nat) (t : Tw) (m : M), St n k S t m → (∀ d ∈ ds, ∃ a b, a < n ∧ b < n ∧ a ≠ b ∧ d = cmD a b) →
    (∀ c, m.bg c = true → (ds.foldl (deedM n) m).bg c = true) ∧
    ∀ a b, a < n → b < n → a ≠ b → uM (ds.foldl (deedM n) m) a b ≤ max (uM m a b - ds.count (cmD a b)) 1 ∧ (m.bg a = true → uM (ds.foldl (deedM n) m) a b ≤ uM m a b - ds.count (cmD a b))
  | [], k, t, m, h, _ => ⟨fun _ h => h, fun a b _ _ _ => ⟨by simp only [List.foldl_nil, List.count_nil]; omega, fun _ => by simp⟩⟩
  | d :: ds, k, t, m, h, hd => by
    obtain ⟨a, b, ha, hb, hab, rfl⟩ := hd _ (List.mem_cons_self ..)
    obtain ⟨i1, i2⟩ := u_fold ds (k + 1) _ _ (st_do h (cm_12 ha hb)) fun x hx => hd x (List.mem_cons_of_mem _ hx)
    simp only [List.foldl_cons]
    rw [deed_cm hab] at i1 i2 ⊢
    obtain ⟨c1, c2, c3⟩ := u_come h.inv ha hb hab
    refine ⟨fun c hc => i1 c (c1 c hc), fun c d hc hd' hcd => ?_⟩
    obtain ⟨j1, j2⟩ := i2 c d hc hd' hcd
    rw [List.count_cons]
    by_cases he : c = a ∧ d = b
    · obtain ⟨rfl, rfl⟩ := he
      simp only [beq_self_eq_true, if_true]
      rcases c3 with ⟨h1, h2⟩ | h2
      · refine ⟨?_, fun hbg => ?_⟩
        · rw [h2] at j1
          have : uM m c d ≤ 1 := by unfold uM; rw [h1]; simp
          omega
        · have := j2 (c1 c hbg)
          rw [h2] at this
          have h0 : uM m c d = 0 := by unfold uM; rw [h1, hbg]; simp
          omega
      · exact ⟨by omega, fun hbg => by have := j2 (c1 c hbg); omega⟩
    · have hne : ¬ (cmD a b == cmD c d) = true := by
        simp only [beq_iff_eq, cm_inj]
        exact fun e => he ⟨e.1.symm, e.2.symm⟩
      rw [if_neg hne, Nat.add_zero, ← c2 c d hc hd' hcd he]
      exact ⟨j1, fun hbg => j2 (c1 c hbg)⟩
def cellD (a b : Nat) : List GMark_Deed := if a = b then [] else List.replicate 4 (cmD a b)
def rowD (n a : Nat) : List GMark_Deed := (List.range n).flatMap (cellD a)
def roundD (n : Nat) : List GMark_Deed := (List.range n).flatMap (rowD n)
theorem round_count : ∀ n, n ≤ 5 → ∀ a, a < n → ∀ b, b < n → a ≠ b → (roundD n).count (cmD a b) = 4 := by decide +kernel
theorem round_mem {n : Nat} {d : GMark_Deed} (h : d ∈ roundD n) : ∃ a b, a < n ∧ b < n ∧ a ≠ b ∧ d = cmD a b := by
  obtain ⟨a, ha, h⟩ := List.mem_flatMap.1 h
  obtain ⟨b, hb, h⟩ := List.mem_flatMap.1 h
  unfold cellD at h
  split at h
  · simp at h
  · rename_i hab
    exact ⟨a, b, List.mem_range.1 ha, List.mem_range.1 hb, hab, (List.mem_replicate.1 h).2⟩
theorem flat_len {A B : Type} {f : A → List B} {K : Nat} : ∀ {l : List A}, (∀ x ∈ l, (f x).length ≤ K) → (l.flatMap f).length ≤ l.length * K
  | [], _ => by simp
  | a :: l, h => by
    rw [List.flatMap_cons, List.length_append, List.length_cons, Nat.add_mul]
    have := flat_len (l := l) fun x hx => h x (by simp [hx])
    have := h a (by simp)
    omega
theorem cell_len (a b : Nat) : (cellD a b).length ≤ 4 := by
  unfold cellD
  split <;> simp
theorem row_len {n : Nat} (a k : Nat) (hk : k ≤ n) (hn : n ≤ 5) : ((List.range k).flatMap (cellD a)).length ≤ 20 := by
  have := flat_len (l := List.range k) (f := cellD a) (K := 4) fun x _ => cell_len a x
  rw [List.length_range] at this
  omega
theorem round_len {n : Nat} (k : Nat) (hk : k ≤ n) (hn : n ≤ 5) : ((List.range k).flatMap (rowD n)).length ≤ 100 := by
  have := flat_len (l := List.range k) (f := rowD n) (K := 20) fun x _ => row_len x n (Nat.le_refl n) hn
  rw [List.length_range] at this
  omega
theorem round_80 : ∀ n, n ≤ 5 → (roundD n).length ≤ 80 := by decide +kernel
theorem rounds_len {n : Nat} (k : Nat) (hk : k ≤ 4) (hn : n ≤ 5) : ((List.range k).flatMap fun _ => roundD n).length ≤ 320 := by
  have := flat_len (l := List.range k) (f := fun _ => roundD n) (K := 80) fun x _ => round_80 n hn
  rw [List.length_range] at this
  omega
theorem range_step {B : Type} (k : Nat) (f : Nat → List B) : (List.range (k + 1)).flatMap f = (List.range k).flatMap f ++ f k := by
  rw [List.range_succ, List.flatMap_append]
  simp
theorem diag_do {n : Nat} {m : M} (h : ∀ a, m.wy a a = []) (kd : Int) (a b : Nat) (nn : Int) : ∀ c, (doM n m kd a b nn).wy c c = [] := by
  have hs : ∀ (i : Nat) (wy : Nat → Nat → List Item), (∀ c, wy c c = []) → ∀ c, sayM n i wy c c = [] := fun i wy hw c => by
    unfold sayM
    rw [if_neg (by omega)]
    exact hw c
  intro c
  unfold doM
  split
  · exact h c
  rename_i h0
  split
  · rename_i h1
    have hab : a ≠ b := fun e => h0 ⟨by omega, e⟩
    split
    · simp only [upd2]
      rw [if_neg (by omega)]
      exact h c
    · exact h c
  split
  · rename_i h2
    have hab : a ≠ b := fun e => h0 ⟨by omega, e⟩
    have hu : ∀ r c, upd2 m.wy a b r c c = [] := fun r c => by
      unfold upd2
      rw [if_neg (by omega)]
      exact h c
    unfold comeM
    split
    · exact h c
    · split
      · split
        · exact hu _ c
        split
        · exact hu _ c
        · exact hs _ _ (hu _) c
      · split
        · exact hu _ c
        · exact hu _ c
  · split
    · exact h c
    · exact hs _ _ h c
theorem diag_fold {n : Nat} : ∀ (ds : List GMark_Deed) (m : M), (∀ a, m.wy a a = []) → ∀ c, (ds.foldl (deedM n) m).wy c c = []
  | [], m, h => h
  | d :: ds, m, h => diag_fold ds _ (diag_do h _ _ _ _)
theorem len_pm : ∀ l : List Item, l.length = pays l + marks l
  | [] => rfl
  | x :: l => by
    rw [List.length_cons, pays_cons, marks_cons, len_pm l]
    cases x.marker <;> simp <;> omega
theorem list_sum_zero : ∀ {l : List Int}, (∀ x ∈ l, x = 0) → l.sum = 0
  | [], _ => rfl
  | a :: l, h => by
    rw [List.sum_cons, h a (by simp), list_sum_zero (l := l) fun x hx => h x (by simp [hx])]
    rfl
theorem ends {C : List Int} {P : List GMark_Deed} (h0 : C ≠ []) (h5 : C.length ≤ 5) (hc : ∀ c ∈ C, 0 ≤ c ∧ c ≤ 1000) (hp : P.length ≤ 10) (hd : ∀ d ∈ P, D12 C.length d) {ds : List GMark_Deed}
    (hds : ds = P ++ [⟨3, 0, 0, 0⟩] ++ (List.range 4).flatMap fun _ => roundD C.length) : (∀ d ∈ ds, D12 C.length d) ∧ ds.length ≤ 331 ∧ (shotF (runF C ds)).Done = true ∧ (shotF (runF C ds)).Left = 0 := by
  have hn : 0 < C.length := List.length_pos_iff.2 h0
  have hB : D12 C.length ⟨3, 0, 0, 0⟩ := ⟨.inr (.inr rfl), ⟨by decide, by show (0 : Int) < _; omega⟩, ⟨by decide, by show (0 : Int) < _; omega⟩, fun h => by cases h⟩
  have hR : ∀ d ∈ roundD C.length, D12 C.length d := fun d hd => by
    obtain ⟨a, b, ha, hb, _, rfl⟩ := round_mem hd
    exact cm_12 ha hb
  have hP1 : ∀ d ∈ P ++ [⟨3, 0, 0, 0⟩], D12 C.length d := fun d h => by
    rcases List.mem_append.1 h with h | h
    · exact hd d h
    · rw [List.mem_singleton.1 h]; exact hB
  have hlen1 : (P ++ [(⟨3, 0, 0, 0⟩ : GMark_Deed)]).length ≤ 11 := by simpa using hp
  have hall : ∀ d ∈ ds, D12 C.length d := fun d h => by
    rw [hds] at h
    rcases List.mem_append.1 h with h | h
    · exact hP1 d h
    · obtain ⟨_, _, h⟩ := List.mem_flatMap.1 h
      exact hR d h
  have hl : ds.length ≤ 331 := by
    rw [hds, List.length_append]
    have := rounds_len (n := C.length) 4 (by omega) h5
    omega
  have st1 := st_run hc hP1
  have st := st_run hc hall
  have ic := cut_fold _ 0 _ _ (st_zero hc) (cut_zero hc) (by omega) hP1
  rw [Nat.zero_add] at ic
  have ic : InvC C.length _ C.sum (runM C (P ++ [⟨3, 0, 0, 0⟩])) := ic
  have hbg0 : (runM C (P ++ [⟨3, 0, 0, 0⟩])).bg 0 = true := by
    unfold runM
    rw [List.foldl_append]
    show (doM C.length _ 3 0 0 0).bg 0 = true
    unfold doM
    rw [if_neg (fun e => e.1 rfl), if_neg (by decide), if_neg (by decide)]
    split
    · assumption
    · simp [upd]
  have hu1 : ∀ a b, a < C.length → b < C.length → a ≠ b → uM (runM C (P ++ [⟨3, 0, 0, 0⟩])) a b ≤ 12 := fun a b ha hb hab => by
    have h1 := ic.cnt a b ha hb
    have h2 := st1.inv.mkr a b ha hb hab
    have h3 : ((runM C (P ++ [⟨3, 0, 0, 0⟩])).bg a).toNat ≤ 1 := by cases (runM C (P ++ [⟨3, 0, 0, 0⟩])).bg a <;> decide
    unfold uM
    rw [len_pm]
    omega
  have hsplit : runM C ds = ((roundD C.length).foldl (deedM C.length) ((roundD C.length ++ (roundD C.length ++ roundD C.length)).foldl (deedM C.length) (runM C (P ++ [⟨3, 0, 0, 0⟩])))) := by
    rw [hds]
    unfold runM
    rw [show (List.range 4).flatMap (fun _ => roundD C.length) = (roundD C.length ++ (roundD C.length ++ roundD C.length)) ++ roundD C.length by simp [List.range_succ], List.foldl_append, List.foldl_append]
  have hmem3 : ∀ d ∈ roundD C.length ++ (roundD C.length ++ roundD C.length), ∃ a b, a < C.length ∧ b < C.length ∧ a ≠ b ∧ d = cmD a b := fun d h => by
    rcases List.mem_append.1 h with h | h
    · exact round_mem h
    rcases List.mem_append.1 h with h | h <;> exact round_mem h
  obtain ⟨g1, g2⟩ := u_fold _ _ _ _ st1 hmem3
  have st3 := st_fold (roundD C.length ++ (roundD C.length ++ roundD C.length)) _ _ _ st1 fun d h => by
    obtain ⟨a, b, ha, hb, _, rfl⟩ := hmem3 d h
    exact cm_12 ha hb
  have hcnt3 : ∀ a b, a < C.length → b < C.length → a ≠ b → (roundD C.length ++ (roundD C.length ++ roundD C.length)).count (cmD a b) = 12 := fun a b ha hb hab => by
    rw [List.count_append, List.count_append, round_count _ h5 a ha b hb hab]
  generalize hM3 : (roundD C.length ++ (roundD C.length ++ roundD C.length)).foldl (deedM C.length) (runM C (P ++ [⟨3, 0, 0, 0⟩])) = m3 at g1 g2 st3 hsplit
  have hbg3 : ∀ b, b < C.length → m3.bg b = true := fun b hb => by
    by_cases hb0 : b = 0
    · rw [hb0]; exact g1 0 hbg0
    · have hz := (g2 0 b hn hb (fun e => hb0 e.symm)).2 hbg0
      have := hu1 0 b hn hb (fun e => hb0 e.symm)
      rw [hcnt3 0 b hn hb (fun e => hb0 e.symm)] at hz
      have hz0 : uM m3 0 b = 0 := by omega
      unfold uM at hz0
      have hl0 : (m3.wy 0 b) = [] := List.eq_nil_of_length_eq_zero (by omega)
      have hmk := st3.inv.mkr 0 b hn hb (fun e => hb0 e.symm)
      rw [hl0, g1 0 hbg0] at hmk
      refine st3.inv.obg 0 b hn hb (fun e => hb0 e.symm) ?_
      cases ho : m3.ov b 0 with
      | true => rfl
      | false => rw [ho] at hmk; simp [marks] at hmk
  obtain ⟨f1, f2⟩ := u_fold _ _ _ _ st3 fun d h => round_mem h
  rw [← hsplit] at f1 f2
  have hempty : ∀ a b, a < C.length → b < C.length → (runM C ds).wy a b = [] := fun a b ha hb => by
    by_cases hab : a = b
    · subst hab
      exact diag_fold ds (m0 C) (fun _ => rfl) a
    · have h1 := (g2 a b ha hb hab).1
      have h2 := (f2 a b ha hb hab).2 (hbg3 a ha)
      have h3 := hu1 a b ha hb hab
      rw [hcnt3 a b ha hb hab] at h1
      rw [round_count _ h5 a ha b hb hab] at h2
      unfold uM at h2
      unfold uM at h1 h3
      exact List.eq_nil_of_length_eq_zero (by omega)
  have had : AllDone C.length (runM C ds) := fun i hi => ⟨f1 i (hbg3 i hi), fun j hj => by
    obtain ⟨hj, hne⟩ := mem_others.1 hj
    have hmk := st.inv.mkr j i hj hi hne
    rw [hempty j i hj hi, f1 j (hbg3 j hj)] at hmk
    cases ho : (runM C ds).ov i j with
    | true => rfl
    | false => rw [ho] at hmk; simp [marks] at hmk⟩
  refine ⟨hall, hl, (done_iff st.sim).2 had, ?_⟩
  show leftF (runF C ds).ways = 0
  unfold leftF
  refine list_sum_zero fun x hx => ?_
  obtain ⟨p, hp, rfl⟩ := List.mem_map.1 hx
  obtain ⟨a, b, ha, hb, he⟩ := st.wok.keys p hp
  have h1 := GM.mem_get st.wok.wf hp
  rw [he] at h1
  have h2 := st.sim.ways a b ha hb
  rw [h1, Option.getD_some, hempty a b ha hb] at h2
  rw [h2]
  rfl
theorem w12_gen {coins : List Int} {l : List GMark_Deed} {C : List Int} {D : List GMark_Deed} {S : Int} (h37 : sp37m coins l (C, D, S)) (h0 : C ≠ []) (h5 : C.length ≤ 5) (hc : ∀ c ∈ C, 0 ≤ c ∧ c ≤ 1000) (hdl : D.length ≤ 150) (hd : ∀ d ∈ D, D12 C.length d) : w12 coins l fun r => r = true := by
  refine ⟨_, h37, ?_⟩
  dsimp only
  rintro _ rfl
  have hmin : (min (D.length : Int) 10).toNat = min D.length 10 := by omega
  rw [hmin]
  have htk : (D.take (min D.length 10)).length ≤ 10 := by rw [List.length_take]; omega
  refine ⟨by omega, by omega, by simp only [List.length_cons, List.length_nil]; omega, ?_⟩
  rintro _ rfl
  have hdP : ∀ d ∈ D.take (min D.length 10), D12 C.length d := fun d h => hd d (List.mem_of_mem_take h)
  generalize D.take (min D.length 10) = P at htk hdP
  have hP1 : (P ++ [(⟨3, 0, 0, 0⟩ : GMark_Deed)]).length ≤ 11 := by simpa using htk
  generalize hn : C.length = n at *
  refine ⟨fun v i => ∃ k : Nat, i = k ∧ k ≤ 4 ∧ v = P ++ [⟨3, 0, 0, 0⟩] ++ (List.range k).flatMap fun _ => roundD n, fun _ i => (4 - i).toNat, ⟨0, rfl, by omega, by simp⟩, ?_⟩
  rintro v i ⟨k, rfl, hk, rfl⟩ w rfl
  refine ⟨fun h => ?_, fun h => ?_⟩
  · have hlt : k < 4 := by have := of_decide_eq_true h; omega
    have hlB := rounds_len (n := n) k (by omega) h5
    generalize hB : P ++ [(⟨3, 0, 0, 0⟩ : GMark_Deed)] ++ (List.range k).flatMap (fun _ => roundD n) = B
    have hBl : B.length ≤ 331 := by rw [← hB, List.length_append]; omega
    refine ⟨fun v i => ∃ a : Nat, i = a ∧ a ≤ n ∧ v = B ++ (List.range a).flatMap (rowD n), fun _ i => (n - i).toNat, ⟨0, rfl, by omega, by simp⟩, ?_⟩
    rintro v i ⟨a, rfl, ha, rfl⟩ w rfl
    refine ⟨fun h => ?_, fun h => ?_⟩
    · have hlta : a < n := by have := of_decide_eq_true h; omega
      have hlA := round_len (n := n) a ha h5
      generalize hA : B ++ (List.range a).flatMap (rowD n) = A
      have hAl : A.length ≤ 431 := by rw [← hA, List.length_append]; omega
      refine ⟨fun v i => ∃ b : Nat, i = b ∧ b ≤ n ∧ v = A ++ (List.range b).flatMap (cellD a), fun _ i => (n - i).toNat, ⟨0, rfl, by omega, by simp⟩, ?_⟩
      rintro v i ⟨b, rfl, hb, rfl⟩ w rfl
      refine ⟨fun h => ?_, fun h => ?_⟩
      · have hltb : b < n := by have := of_decide_eq_true h; omega
        have hlE := row_len (n := n) a b hb h5
        generalize hE : A ++ (List.range b).flatMap (cellD a) = E
        have hEl : E.length ≤ 451 := by rw [← hE, List.length_append]; omega
        refine ⟨fun hne => ?_, fun he => ?_⟩
        · have hab : a ≠ b := fun e => hne (by rw [e])
          refine ⟨fun v i => ∃ c : Nat, i = c ∧ c ≤ 4 ∧ v = E ++ List.replicate c (cmD a b), fun _ i => (4 - i).toNat, ⟨0, rfl, by omega, by simp⟩, ?_⟩
          rintro v i ⟨c, rfl, hc4, rfl⟩ w rfl
          refine ⟨fun h => ?_, fun h => ?_⟩
          · have hltc : c < 4 := by have := of_decide_eq_true h; omega
            refine ⟨by simp only [List.length_append, List.length_replicate, List.length_cons, List.length_nil]; omega, ?_⟩
            rintro _ rfl
            refine ⟨by simp only [R64]; omega, ?_⟩
            rintro _ rfl
            refine ⟨⟨c + 1, by omega, by omega, ?_⟩, by first | omega | (dsimp only; omega)⟩
            rw [List.replicate_succ', ← List.append_assoc]
            rfl
          · have : c = 4 := by have := of_decide_eq_false h; omega
            subst this
            refine ⟨by simp only [R64]; omega, ?_⟩
            rintro _ rfl
            refine ⟨⟨b + 1, by omega, by omega, ?_⟩, by first | omega | (dsimp only; omega)⟩
            rw [range_step, ← List.append_assoc, hE]
            unfold cellD
            rw [if_neg hab]
        · have hab : a = b := by omega
          refine ⟨by simp only [R64]; omega, ?_⟩
          rintro _ rfl
          refine ⟨⟨b + 1, by omega, by omega, ?_⟩, by first | omega | (dsimp only; omega)⟩
          rw [range_step, ← List.append_assoc, hE]
          unfold cellD
          rw [if_pos hab, List.append_nil]
      · have : b = n := by have := of_decide_eq_false h; omega
        subst this
        refine ⟨by simp only [R64]; omega, ?_⟩
        rintro _ rfl
        refine ⟨⟨a + 1, by omega, by omega, ?_⟩, by first | omega | (dsimp only; omega)⟩
        rw [range_step, ← List.append_assoc, hA]
        rfl
    · have : a = n := by have := of_decide_eq_false h; omega
      subst this
      refine ⟨by simp only [R64]; omega, ?_⟩
      rintro _ rfl
      refine ⟨⟨k + 1, by omega, by omega, ?_⟩, by first | omega | (dsimp only; omega)⟩
      rw [range_step, ← List.append_assoc, hB]
      rfl
  · have : k = 4 := by have := of_decide_eq_false h; omega
    subst this
    subst hn
    obtain ⟨e1, e2, e3, e4⟩ := ends h0 h5 hc htk hdP rfl
    refine ⟨_, run_sp38 h0 (by omega) hc (by omega) e1, true, s39, fun _ => ⟨fun _ => ⟨fun _ => ?_, fun hD => ?_⟩, fun hne => absurd rfl hne⟩, fun h => by cases h⟩
    · rintro _ rfl
      rw [e4]
      rfl
    · rw [e3] at hD; cases hD
theorem s12 {coins : List Int} {l : List GMark_Deed} (hc : ∀ c ∈ coins, R64 c) (hl : ∀ d ∈ l, RD d) (hcl : coins.length ≤ 9223372036854775807) (hll : l.length ≤ 9223372036854775807) : sp12 coins l true := by
  obtain ⟨t1, t2, t3, t4, t5⟩ := towns_facts coins l
  exact ok12 _ _ _ (w12_gen (s37m hc hl hcl hll) t1 t2 t3 t4 t5)
end Go.Hw.VK

