import Derived.Test.YtonoaimefgodfaaHwMoZ
set_option linter.unusedVariables false
set_option linter.unusedSimpArgs false
namespace Go.Hw.VM
open Go Go.Proofs
variable {K m k : Nat} {V : Nat → List Nat} {t : Nw} {a b : Nat} {x : It} {r : List It} {cr : Nat → Bool}

theorem hsum_nonneg (w : Nat) : 0 ≤ hsum K t w := (sumUp_ge (n := K) (f := fun i => if t.here i w then (1 : Int) else 0) fun i _ => by split <;> decide).1
theorem hsum_here {i w : Nat} (hi : i < K) (h : t.here i w = true) : 1 ≤ hsum K t w := by
  have := (sumUp_ge (n := K) (f := fun i => if t.here i w then (1 : Int) else 0) fun i _ => by split <;> decide).2 i hi
  simp only [h, if_true] at this
  exact this
theorem c_nonneg (h : Bun K m k V t) {w : Nat} (hw : w < m) : 0 ≤ ((V w).length : Int) - 2 + hsum K t w := by
  rcases transit h hw with ⟨i, hi, hh⟩ | ⟨u, d, y, _, _, _, _, _, _, _, _, h2⟩
  · have := hsum_here hi hh
    have := h.I.ne w hw
    omega
  · have := hsum_nonneg (K := K) (t := t) w
    omega
theorem c_le (h : Bun K m k V t) {w : Nat} (hw : w < m) : TI K t + 2 * (((V w).length : Int) - 2 + hsum K t w) ≤ cost K m V t := by
  have := (sumUp_ge (n := m) (f := fun w => ((V w).length : Int) - 2 + hsum K t w) fun i hi => c_nonneg h hi).2 w hw
  unfold cost
  omega
theorem TI_ge {u d : Nat} (hu : u < K) (hd : d < K) : ((WL t u d).length : Int) ≤ TI K t := S2_ge (F := fun c e => ((WL t c e).length : Int)) (fun _ _ _ _ => Int.natCast_nonneg _) hu hd
theorem TI_two {u d : Nat} (ha : a < K) (hb : b < K) (hu : u < K) (hd : d < K) (h : ¬ (u = a ∧ d = b)) : ((WL t a b).length : Int) + (WL t u d).length ≤ TI K t := by
  have e := S2_one (K := K) (a := a) (b := b) (F := fun c e => if c = a ∧ e = b then 0 else ((WL t c e).length : Int)) (G := fun c e => ((WL t c e).length : Int)) ha hb fun c e _ _ hce => by simp only [if_neg hce]
  have g := S2_ge (K := K) (F := fun c e => if c = a ∧ e = b then 0 else ((WL t c e).length : Int)) (fun c e _ _ => by split <;> omega) hu hd
  simp only [if_neg h] at g
  simp only [and_self, if_true] at e
  unfold TI
  omega
theorem TI_nonneg : 0 ≤ TI K t := S2_nonneg fun _ _ _ _ => Int.natCast_nonneg _
theorem mk_end {pre : List It} {y : It} {p : Bool × It} (hp : p ∈ mk (pre ++ [y])) (hy : y.kind = 2) (hw : y.who = p.2.who) (hk : p.2.kind = 1) : p.1 = true := by
  rw [mk_app] at hp
  rcases List.mem_append.1 hp with hp | hp
  · obtain ⟨q, hq, rfl⟩ := List.mem_map.1 hp
    simp only at hw
    simp [isA, hy, hw]
  · rw [List.mem_singleton.1 hp] at hk
    simp only at hk
    omega
theorem startG (h : Bun K m k V t) (hC : cost K m V t ≤ 8) (hcr : ∀ w, w < m → cr w = false → ¬ (3 ≤ (V w).length ∧ ∃ a b, NrA 4 w a b t)) : ∀ a b, ∀ p ∈ mk (WL t a b), p.2.kind = 1 → cr p.2.who = false → GI V t a b p := by
  intro a b p hp hk hc
  have hI := h.I.it a b p hp
  have hw := hI.who
  obtain ⟨s, h1, h2⟩ := hI.k1 hk
  have hsl := lt_of_get h1
  rcases transit h hw with ⟨i, hi, hh⟩ | ⟨u, d, y, hy, hyk, hyw, hu, hd, t1, t2, t3, t4⟩
  · exact .inl ⟨i, hh⟩
  right
  by_cases hl : (V p.2.who).length = 2
  · by_cases hs : s = 1
    · left
      exact ⟨by rw [hl, ← h1, hs], .inl (by omega)⟩
    · right
      rw [hl, ← h1, show s = 0 by omega]
  · have hfar : ¬ ∃ a b, NrA 4 p.2.who a b t := fun e => hcr _ hw hc ⟨by omega, e⟩
    obtain ⟨pre, post, e⟩ := List.append_of_mem hy
    have hpre : 5 ≤ pre.length := by
      have : ¬ pre.length ≤ 4 := fun e2 => hfar ⟨u, d, pre, y, post, e, e2, hyk, hyw⟩
      omega
    have c1 := c_le h hw
    have c2 := hsum_nonneg (K := K) (t := t) p.2.who
    have c3 := TI_ge (t := t) hu hd
    have hlen : (WL t u d).length = pre.length + post.length + 1 := by rw [e, List.length_append, List.length_cons]; omega
    have hab : a = u ∧ b = d := by
      refine Decidable.byContradiction fun hne => ?_
      obtain ⟨haK, hbK⟩ := WL_lt h.A (mk_mem' hp)
      have c4 := TI_two (t := t) hu hd haK hbK hne
      have : 1 ≤ (WL t a b).length := List.length_pos_of_mem (mk_mem' hp)
      omega
    have hpost : post = [] := List.eq_nil_of_length_eq_zero (by omega)
    have hl3 : (V p.2.who).length = 3 := by omega
    obtain ⟨rfl, rfl⟩ := hab
    left
    refine ⟨t1, .inl ?_⟩
    rw [e, hpost] at hp
    have := h2 (mk_end hp hyk hyw hk)
    omega
theorem drain {n : Nat} (h : Bun (n + 1) m k V t) (hm : 0 < m) (hn : n ≤ 3) (hC : cost (n + 1) m V t ≤ 8) : ∃ k', Bun (n + 1) m k' V (runR n 12 t) ∧ ∀ a b, WL (runR n 12 t) a b = [] := by
  classical
  let cr : Nat → Bool := fun w => decide (w < m ∧ 3 ≤ (V w).length ∧ ∃ a b, NrA 4 w a b t)
  have hcrT : ∀ w, cr w = true → w < m ∧ 3 ≤ (V w).length ∧ ∃ a b, NrA 4 w a b t := fun w e => of_decide_eq_true e
  have hG := startG (cr := cr) h hC fun w hw e e2 => by
    have := of_decide_eq_false e
    exact this ⟨hw, e2⟩
  clear_value cr
  have hD : Dr (n + 1) m V cr t := ⟨⟨k, h⟩, hG⟩
  -- the first round
  have hN : ∀ w, cr w = true → Here t w ∨ ∃ q ∈ pairs n, NrA 4 w q.1 q.2 t := fun w hw => by
    obtain ⟨_, _, a, b, hN⟩ := hcrT w hw
    refine .inr ⟨(a, b), ?_, hN⟩
    obtain ⟨pre, y, post, e, _⟩ := hN
    exact WL_pairs (x := y) h (by rw [e]; simp)
  obtain ⟨r1, r2, r3⟩ := round1 hm (pairs n) t _ (fun p hp => by
    unfold pairs at hp
    obtain ⟨a, _, hp⟩ := List.mem_flatMap.1 hp
    obtain ⟨b, _, hp⟩ := List.mem_flatMap.1 hp
    split at hp
    · simp at hp
    · rw [List.mem_singleton.1 hp]
      show a + 1 ≠ b + 1
      omega) hD (Int.le_refl _) hN
  -- what it costs from the start
  have hT0 := TI_nonneg (K := n + 1) (t := t)
  have hne := h.I.ne
  have hcl := fun w (hw : w < m) => c_le h hw
  have hcn := fun w (hw : w < m) => c_nonneg h hw
  have hhs := fun w => hsum_nonneg (K := n + 1) (t := t) w
  have key : ∃ k d : Nat, k + d ≤ 11 ∧ Ph (n + 1) V cr (chn n (pairs n)) t ≤ 5 * (k : Int) + 4 ∧ ∀ w, w < m → 1 + max 2 ((V w).length - 1) ≤ d := by
    -- one bound for each number
    have bnd : ∀ M : Nat, (∀ w, w < m → (V w).length ≤ M + 1) → Ph (n + 1) V cr (chn n (pairs n)) t ≤ (2 * (M : Int) + 4) * TI (n + 1) t - (2 * (M : Int) + 3) ∧ TI (n + 1) t ≤ 6 ∨ Ph (n + 1) V cr (chn n (pairs n)) t ≤ (1 + 2 * (max 2 M : Nat) : Int) * TI (n + 1) t := fun M hM => by
      by_cases hex : ∃ w, cr w = true
      · left
        obtain ⟨w, hw⟩ := hex
        obtain ⟨hwm, hl, u, d, pre, y, post, e, e1, e2, e3⟩ := hcrT w hw
        have hy : y ∈ WL t u d := by rw [e]; simp
        obtain ⟨f, hf⟩ := mk_mem hy
        obtain ⟨hu, hd⟩ := WL_lt h.A hy
        have := hcl w hwm
        have := hhs w
        have hM2 := hM w hwm
        refine ⟨?_, by omega⟩
        have := PS_le1 (K := n + 1) (t := t) (f := wt cr (chn n (pairs n)) V t) (B := 2 * (M : Int) + 4) (fun a b ha hb p hp => ?_) hu hd hf (by unfold wt; rw [if_neg (by simp only; omega)]; exact Int.le_refl _)
        · unfold Ph
          omega
        · have hpw := (h.I.it a b p hp).who
          have h3 := chn_bound n hn a ha b hb
          have h4 := hM _ hpw
          have h5 := hne _ hpw
          unfold wt
          split
          · rename_i hk
            split
            · omega
            · rename_i hc
              have := rk_le h hp hk (hG a b p hp hk (Bool.eq_false_iff.2 hc))
              have : max 2 ((V p.2.who).length - 1) ≤ M := Nat.max_le.2 ⟨by omega, by omega⟩
              omega
          · omega
      · right
        refine PS_le fun a b ha hb p hp => ?_
        have hpw := (h.I.it a b p hp).who
        have h4 := hM _ hpw
        have h5 := hne _ hpw
        unfold wt
        split
        · rename_i hk
          have hc : ¬ cr p.2.who = true := fun e => hex ⟨_, e⟩
          rw [if_neg hc]
          have := rk_le h hp hk (hG a b p hp hk (Bool.eq_false_iff.2 hc))
          omega
        · omega
    by_cases h5 : 5 ≤ TI (n + 1) t
    · have hM : ∀ w, w < m → (V w).length ≤ 2 + 1 := fun w hw => by
        have := hcl w hw
        have := hhs w
        omega
      refine ⟨8, 3, by omega, ?_, fun w hw => by have := hM w hw; omega⟩
      have hT8 : TI (n + 1) t ≤ 8 := by
        have := hcl 0 hm
        have := hcn 0 hm
        omega
      have := bnd 2 hM
      simp only [Nat.max_self] at this
      omega
    · by_cases h3 : 3 ≤ TI (n + 1) t
      · have hM : ∀ w, w < m → (V w).length ≤ 3 + 1 := fun w hw => by
          have := hcl w hw
          have := hhs w
          omega
        refine ⟨6, 5, by omega, ?_, fun w hw => by have := hM w hw; omega⟩
        have := bnd 3 hM
        simp only [show max 2 3 = 3 by rfl] at this
        omega
      · have hM : ∀ w, w < m → (V w).length ≤ 4 + 1 := fun w hw => by
          have := hcl w hw
          rcases transit h hw with ⟨i, hi, hh⟩ | ⟨u, d, y, hy, _, _, hu, hd, _⟩
          · have := hsum_here hi hh
            omega
          · have := hhs w
            have := TI_ge (t := t) hu hd
            have := List.length_pos_of_mem hy
            omega
        refine ⟨6, 5, by omega, ?_, fun w hw => by have := hM w hw; omega⟩
        have := bnd 4 hM
        simp only [show max 2 4 = 4 by rfl] at this
        omega
  obtain ⟨kk, d, hkd, hP, hd⟩ := key
  -- and then
  obtain ⟨k1, b1⟩ := r1.bun
  have hD1 : Dr (n + 1) m V none_ (runC (pairs n) t) := ⟨r1.bun, fun a b p hp hk _ => by
    by_cases hc : cr p.2.who = true
    · exact .inl (r3 _ hc)
    · exact r1.g a b p hp hk (Bool.eq_false_iff.2 hc)⟩
  have hP1 : Phn (n + 1) V (runC (pairs n) t) ≤ 5 * (kk : Int) + 4 := by
    refine Int.le_trans ?_ (Int.le_trans r2 hP)
    refine PS_mono fun a b p hp => ?_
    unfold wt
    by_cases hk : p.2.kind = 1
    · rw [if_pos hk, if_pos hk, if_neg (by simp)]
      by_cases hc : cr p.2.who = true
      · rw [if_pos hc]
        have := rk_here b1 hp hk (r3 _ hc)
        omega
      · rw [if_neg hc]
        exact Int.le_refl _
    · rw [if_neg hk, if_neg hk]
      exact Int.le_refl _
  have hDD : DD V d [] (runC (pairs n) t) := fun a b p hp => by
    refine ⟨?_, fun e => by simp at e⟩
    have h0 := hd _ (b1.I.it a b p hp).who
    unfold dep
    split
    · rename_i hk
      have := rk_le b1 hp hk (hD1.g a b p hp hk rfl)
      omega
    · omega
  obtain ⟨z1, z2⟩ := rounds hm 11 kk d _ hkd hD1 hDD hP1
  obtain ⟨k2, z3⟩ := z1.bun
  exact ⟨k2, z3, z2⟩

theorem run_come (K : Nat) (a b : Nat) : ∀ (j : Nat) (t : Nw), runN K t (List.replicate j (cmD a b)) = comesF j t a b
  | 0, t => rfl
  | j + 1, t => by
    rw [List.replicate_succ]
    show runN K (deedF K t (cmD a b)) (List.replicate j (cmD a b)) = _
    rw [run_come K a b j]
    have : deedF K t (cmD a b) = nextF t a b := by
      unfold deedF doF cmD
      simp
    rw [this]
    rfl
theorem run_pairs (K : Nat) : ∀ (L : List (Nat × Nat)) (t : Nw), runN K t (L.flatMap fun p => List.replicate 5 (cmD p.1 p.2)) = runC L t
  | [], t => rfl
  | p :: L, t => by
    rw [List.flatMap_cons, runN_app, run_come, run_pairs K L]
    rfl
theorem round_pairs (n : Nat) : roundD n = (pairs n).flatMap fun p => List.replicate 5 (cmD p.1 p.2) := by
  unfold roundD pairs rowD cellD
  rw [List.flatMap_assoc]
  congr 1
  funext a
  rw [List.flatMap_assoc]
  congr 1
  funext b
  by_cases h : a = b
  · rw [if_pos h, if_pos (by omega)]; rfl
  · rw [if_neg h, if_neg (by omega)]; simp
theorem run_rounds (K n : Nat) : ∀ (j : Nat) (t : Nw), runN K t ((List.range j).flatMap fun _ => roundD n) = runR n j t
  | 0, t => rfl
  | j + 1, t => by
    rw [List.range_succ_eq_map, List.flatMap_cons, List.flatMap_map, runN_app, round_pairs, run_pairs]
    have := run_rounds K n j (runC (pairs n) t)
    rw [round_pairs] at this
    rw [this]
    rfl
end Go.Hw.VM

