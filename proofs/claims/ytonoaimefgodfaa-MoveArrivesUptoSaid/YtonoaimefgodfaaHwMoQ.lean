import Derived.Test.YtonoaimefgodfaaHwMoP
set_option linter.unusedVariables false
set_option linter.unusedSimpArgs false
namespace Go.Hw.VM
open Go Go.Proofs


theorem sum_set : ∀ {l : List Int} {j : Nat} {x : Int} (v : Int), l[j]? = some x → (l.set j v).sum = l.sum - x + v
  | [], j, x, v, h => by simp at h
  | a :: l, 0, x, v, h => by
    simp at h
    subst h
    simp only [List.set_cons_zero, List.sum_cons]
    omega
  | a :: l, j + 1, x, v, h => by
    have := sum_set (l := l) (j := j) v (by simpa using h)
    simp only [List.set_cons_succ, List.sum_cons, this]
    omega
def cw (p : It → Bool) (g : GM Key (List It)) : Int := (g.es.map fun q => (q.2.2.countP p : Int)).sum
theorem cw_put (p : It → Bool) (g : GM Key (List It)) (k : Key) (v : List It) : cw p (g.put k v) = cw p g - (((g.get k).getD []).countP p : Int) + (v.countP p : Int) := by
  rw [GM.get_idx]
  unfold cw GM.put
  cases hi : g.idx k with
  | none =>
    simp only [List.map_append, List.sum_append, List.map_cons, List.map_nil, List.sum_cons, List.sum_nil, Option.getD_none]
    simp
  | some j =>
    obtain ⟨q, hq, _⟩ := GM.idx_lt hi
    simp only [hq, List.map_set, Option.map_some, Option.getD_some]
    rw [sum_set (x := (q.2.2.countP p : Int)) _ (by rw [List.getElem?_map, hq]; rfl)]
theorem cw_wadd (p : It → Bool) (g : GM Key (List It)) (k : Key) (x : It) : cw p (wadd g k x) = cw p g + if p x then 1 else 0 := by
  unfold wadd
  rw [cw_put, List.countP_append, List.countP_singleton]
  split <;> simp <;> omega
theorem cw_tail {p : It → Bool} {g : GM Key (List It)} {k : Key} {x : It} {r : List It} (h : (g.get k).getD [] = x :: r) : cw p (g.put k r) = cw p g - if p x then 1 else 0 := by
  rw [cw_put, h, List.countP_cons]
  split <;> simp <;> omega
theorem cw_nonneg (p : It → Bool) (g : GM Key (List It)) : 0 ≤ cw p g := by
  unfold cw
  generalize g.es = es
  induction es with
  | nil => simp
  | cons q es ih => simp only [List.map_cons, List.sum_cons]; omega
theorem cw_pos {p : It → Bool} {g : GM Key (List It)} {q : Nat × Key × List It} {x : It} (hq : q ∈ g.es) (hx : x ∈ q.2.2) (hp : p x = true) : 1 ≤ cw p g := by
  unfold cw
  generalize g.es = es at hq
  induction es with
  | nil => simp at hq
  | cons a es ih =>
    have hn : 0 ≤ (es.map fun q => (q.2.2.countP p : Int)).sum := cw_nonneg p ⟨es, 0⟩
    simp only [List.map_cons, List.sum_cons]
    rcases List.mem_cons.1 hq with rfl | hq
    · have : 0 < q.2.2.countP p := List.countP_pos_iff.2 ⟨x, hx, hp⟩
      omega
    · have := ih hq
      omega
theorem cw_some {p : It → Bool} {g : GM Key (List It)} (h : 1 ≤ cw p g) : ∃ q ∈ g.es, ∃ x ∈ q.2.2, p x = true := by
  unfold cw at h
  generalize g.es = es at h
  induction es with
  | nil => simp at h
  | cons a es ih =>
    simp only [List.map_cons, List.sum_cons] at h
    by_cases h0 : 0 < a.2.2.countP p
    · obtain ⟨x, hx, hp⟩ := List.countP_pos_iff.1 h0
      exact ⟨a, by simp, x, hx, hp⟩
    · obtain ⟨q, hq, r⟩ := ih (by omega)
      exact ⟨q, by simp [hq], r⟩
theorem sumUp_congr {n : Nat} {f g : Nat → Int} (h : ∀ i, i < n → f i = g i) : sumUp n f = sumUp n g := by
  unfold sumUp
  rw [List.map_congr_left fun i hi => h i (List.mem_range.1 hi)]
theorem sumUp_one {n a : Nat} {f g : Nat → Int} (ha : a < n) (h : ∀ i, i < n → i ≠ a → f i = g i) : sumUp n f = sumUp n g - g a + f a := by
  induction n with
  | zero => omega
  | succ n ih =>
    rw [sumUp_succ, sumUp_succ]
    by_cases hn : a = n
    · subst hn
      rw [sumUp_congr (f := f) (g := g) fun i hi => h i (by omega) (by omega)]
      omega
    · have := ih (by omega) fun i hi => h i (by omega)
      have := h n (by omega) (by omega)
      omega
theorem sumUp_ge {n : Nat} {f : Nat → Int} (h : ∀ i, i < n → 0 ≤ f i) : 0 ≤ sumUp n f ∧ ∀ i, i < n → f i ≤ sumUp n f := by
  induction n with
  | zero => exact ⟨Int.le_refl _, fun i hi => by omega⟩
  | succ n ih =>
    obtain ⟨h1, h2⟩ := ih fun i hi => h i (by omega)
    have h3 := h n (by omega)
    rw [sumUp_succ]
    refine ⟨by omega, fun i hi => ?_⟩
    by_cases hin : i = n
    · subst hin; omega
    · have := h2 i (by omega); omega
theorem sumUp_pos {n : Nat} {f : Nat → Int} (h : ∀ i, i < n → f i = 0 ∨ f i = 1) (h1 : 1 ≤ sumUp n f) : ∃ i, i < n ∧ f i = 1 := by
  induction n with
  | zero => simp [sumUp] at h1
  | succ n ih =>
    rw [sumUp_succ] at h1
    rcases h n (by omega) with h0 | h0
    · obtain ⟨i, hi, e⟩ := ih (fun i hi => h i (by omega)) (by omega)
      exact ⟨i, by omega, e⟩
    · exact ⟨n, by omega, h0⟩
theorem sumUp_two {n i j : Nat} {f : Nat → Int} (h : ∀ i, i < n → 0 ≤ f i) (hi : i < n) (hj : j < n) (hij : i ≠ j) : f i + f j ≤ sumUp n f := by
  have h1 := sumUp_one (f := fun k => if k = i then 0 else f k) (g := f) hi fun k _ hk => by simp [hk]
  have h2 := (sumUp_ge (n := n) (f := fun k => if k = i then 0 else f k) fun k hk => by
    split
    · exact Int.le_refl _
    · exact h k hk).2 j hj
  simp only [if_true] at h1
  simp only [if_neg (Ne.symm hij)] at h2
  omega

structure WK (K : Nat) (g : GM Key (List It)) : Prop where
  wf : g.wf
  keys : ∀ p ∈ g.es, ∃ a b : Nat, a < K ∧ b < K ∧ p.2.1 = ((a : Int), (b : Int))
theorem WK.put {K : Nat} {g : GM Key (List It)} (h : WK K g) {a b : Nat} (ha : a < K) (hb : b < K) (v : List It) : WK K (g.put ((a : Int), (b : Int)) v) := by
  refine ⟨GM.put_wf h.wf _ _, fun p hp => ?_⟩
  rcases put_key hp with hp | hp
  · exact h.keys p hp
  · exact ⟨a, b, ha, hb, hp⟩
theorem WK.len {K : Nat} {g : GM Key (List It)} (h : WK K g) : g.es.length ≤ K * K := by
  have h1 := nodup_len (l := g.es.map (·.2.1)) (m := (List.range K).flatMap fun a : Nat => (List.range K).map fun b : Nat => (((a : Int), (b : Int)) : Key)) h.wf.keys fun k hk => by
    obtain ⟨p, hp, rfl⟩ := List.mem_map.1 hk
    obtain ⟨a, b, ha, hb, e⟩ := h.keys p hp
    rw [e]
    exact List.mem_flatMap.2 ⟨a, List.mem_range.2 ha, List.mem_map.2 ⟨b, List.mem_range.2 hb, rfl⟩⟩
  have h2 : ((List.range K).flatMap fun a : Nat => (List.range K).map fun b : Nat => (((a : Int), (b : Int)) : Key)).length = K * K := fm_len fun k => by simp
  rw [h2, List.length_map] at h1
  exact h1

structure ItA (K m k : Nat) (x : It) : Prop where
  kind : x.kind = 1 ∨ x.kind = 2 ∨ x.kind = 3
  who : x.who < m
  frm : x.frm < K
  node : x.node < K
  turn : x.turn ≤ k
theorem runB_len : ∀ (k : Nat) (b : Bd) (f : Nat), (runB k b f).got.length + (runB k b f).early.es.length = b.got.length + b.early.es.length
  | 0, b, f => rfl
  | k + 1, b, f => by
    unfold runB
    split
    · rfl
    · rename_i n hg
      rw [runB_len k]
      have := del_len (g := b.early) (k := ((f : Int), (b.next f : Int))) (by rw [hg]; rfl)
      simp only [List.length_append, List.length_singleton]
      omega
theorem takeF_len (b : Bd) (x : It) : (takeF b x).got.length + (takeF b x).early.es.length ≤ b.got.length + b.early.es.length + 1 := by
  unfold takeF
  split
  · omega
  · rw [runB_len]
    have := put_len b.early ((x.frm : Int), (x.seq : Int)) x.n
    simp only
    omega
def bsz (t : Nw) (w : Nat) : Int := ((t.got w).length : Int) + ((t.early w).es.length : Int)
def isL (x : It) : Bool := decide (x.kind = 1)
structure InvA (K m k : Nat) (c : Int) (t : Nw) : Prop where
  sq : ∀ i w, t.sq i w ≤ k
  st : ∀ i w, t.st i w ≤ k
  sn : ∀ i w, t.sn i w < K
  wk : WK K t.ways
  itg : ∀ q ∈ t.ways.es, ∀ x ∈ q.2.2, ItA K m k x
  itw : ∀ i, ∀ x ∈ t.waits i, ItA K m k x ∧ x.kind = 1
  cnt : ∀ w, cw isL t.ways + sumUp K (fun i => ((t.waits i).length : Int)) + bsz t w ≤ c
  wout : ∀ i, K ≤ i → t.waits i = []
theorem ItA.le {K m k k' : Nat} {x : It} (h : ItA K m k x) (hk : k ≤ k') : ItA K m k' x := ⟨h.kind, h.who, h.frm, h.node, Nat.le_trans h.turn hk⟩
theorem InvA.le {K m k k' : Nat} {c c' : Int} {t : Nw} (h : InvA K m k c t) (hk : k ≤ k') (hc : c ≤ c') : InvA K m k' c' t :=
  ⟨fun i w => Nat.le_trans (h.sq i w) hk, fun i w => Nat.le_trans (h.st i w) hk, h.sn, h.wk, fun q hq x hx => (h.itg q hq x hx).le hk, fun i x hx => ⟨(h.itw i x hx).1.le hk, (h.itw i x hx).2⟩, fun w => Int.le_trans (h.cnt w) hc, h.wout⟩
theorem note_ok {K m k : Nat} {c : Int} {t : Nw} (h : InvA K m k c t) {a : Nat} (ha : a < K) {x : It} (hx : ItA K m k x) : ItA K m k (noteF t a x) :=
  ⟨.inr (.inr rfl), hx.who, by show 0 < K; omega, h.sn _ _, h.st _ _⟩
theorem inv_letter {K m k : Nat} {c : Int} {t : Nw} (h : InvA K m k c t) {a : Nat} (ha : a < K) {x : It} (hx : ItA K m k x) (hk : x.kind = 1) : InvA K m k (c + 1) (letterF t a x) := by
  unfold letterF
  split
  · refine ⟨h.sq, h.st, h.sn, h.wk, h.itg, h.itw, fun w => ?_, h.wout⟩
    have h1 := h.cnt w
    have h2 : bsz (setB t x.who (takeF ⟨t.got x.who, t.next x.who, t.early x.who⟩ x)) w ≤ bsz t w + 1 := by
      unfold bsz
      show ((fupd t.got x.who (takeF ⟨t.got x.who, t.next x.who, t.early x.who⟩ x).got w).length : Int) + ((fupd t.early x.who (takeF ⟨t.got x.who, t.next x.who, t.early x.who⟩ x).early w).es.length : Int) ≤ _
      by_cases hw : w = x.who
      · subst hw
        rw [fupd_eq, fupd_eq]
        have := takeF_len ⟨t.got x.who, t.next x.who, t.early x.who⟩ x
        simp only at this
        omega
      · rw [fupd_ne hw, fupd_ne hw]
        omega
    show cw isL t.ways + sumUp K (fun i => ((t.waits i).length : Int)) + _ ≤ _
    omega
  split
  · refine ⟨h.sq, h.st, h.sn, h.wk, h.itg, fun i y hy => ?_, fun w => ?_, fun i hi => ?_⟩
    · have hy : y ∈ fupd t.waits a (t.waits a ++ [x]) i := hy
      unfold fupd at hy
      split at hy
      · rcases List.mem_append.1 hy with hy | hy
        · exact h.itw a y hy
        · rw [List.mem_singleton.1 hy]; exact ⟨hx, hk⟩
      · exact h.itw i y hy
    · have h1 := sumUp_one (f := fun i => ((fupd t.waits a (t.waits a ++ [x]) i).length : Int)) (g := fun i => ((t.waits i).length : Int)) ha fun i _ hi => by simp only [fupd_ne hi]
      simp only [fupd_eq, List.length_append, List.length_singleton] at h1
      have := h.cnt w
      show cw isL t.ways + sumUp K (fun i => ((fupd t.waits a (t.waits a ++ [x]) i).length : Int)) + bsz t w ≤ _
      omega
    · show fupd t.waits a _ i = []
      rw [fupd_ne (by omega)]
      exact h.wout i hi
  · have hn := note_ok h ha hx
    unfold forwF
    refine ⟨h.sq, h.st, h.sn, ?_, ?_, h.itw, fun w => ?_, h.wout⟩
    · show WK K (wadd _ _ _)
      unfold wadd
      refine WK.put ?_ ha (h.sn _ _) _
      split
      · exact h.wk.put ha hx.frm _
      · exact h.wk
    · refine wadd_its ?_ hx
      split
      · exact wadd_its h.itg hn
      · exact h.itg
    · show cw isL (wadd _ _ _) + _ + _ ≤ _
      rw [cw_wadd, show isL x = true by simp [isL, hk], if_pos rfl]
      have := h.cnt w
      split
      · rw [cw_wadd, show isL (noteF t a x) = false from rfl]
        simp only [Bool.false_eq_true, if_false]
        show _ + sumUp K (fun i => ((t.waits i).length : Int)) + bsz t w ≤ _
        omega
      · show _ + sumUp K (fun i => ((t.waits i).length : Int)) + bsz t w ≤ _
        omega
theorem inv_fold {K m k : Nat} {a : Nat} (ha : a < K) : ∀ (l : List It) {c : Int} {t : Nw}, InvA K m k c t → (∀ y ∈ l, ItA K m k y ∧ y.kind = 1) → InvA K m k (c + l.length) (l.foldl (fun t y => letterF t a y) t)
  | [], c, t, h, _ => by simpa using h
  | y :: l, c, t, h, hl => by
    have h1 := inv_letter h ha (hl y (by simp)).1 (hl y (by simp)).2
    have h2 := inv_fold ha l h1 fun z hz => hl z (by simp [hz])
    simp only [List.foldl_cons]
    exact h2.le (Nat.le_refl _) (by simp only [List.length_cons]; omega)
theorem inv_all {K m k : Nat} {c : Int} {t : Nw} (h : InvA K m k c t) {a : Nat} (ha : a < K) : InvA K m k c (allF t a) := by
  have h1 : InvA K m k (c - (t.waits a).length) (emptyF t a) := by
    refine ⟨h.sq, h.st, h.sn, h.wk, h.itg, fun i y hy => ?_, fun w => ?_, fun i hi => ?_⟩
    · have hy : y ∈ fupd t.waits a [] i := hy
      unfold fupd at hy
      split at hy
      · simp at hy
      · exact h.itw i y hy
    · have h1 := sumUp_one (f := fun i => ((fupd t.waits a [] i).length : Int)) (g := fun i => ((t.waits i).length : Int)) ha fun i _ hi => by simp only [fupd_ne hi]
      simp only [fupd_eq, List.length_nil] at h1
      have := h.cnt w
      show cw isL t.ways + sumUp K (fun i => ((fupd t.waits a [] i).length : Int)) + bsz t w ≤ _
      omega
    · show fupd t.waits a _ i = []
      rw [fupd_ne (by omega)]
      exact h.wout i hi
  have h2 := inv_fold ha (t.waits a) h1 (h.itw a)
  exact h2.le (Nat.le_refl _) (by omega)
theorem fupd2 {A : Type} {P : A → Prop} {f : Nat → Nat → A} {a x : Nat} {v : A} (h : ∀ i w, P (f i w)) (hv : P v) : ∀ i w, P (fupd f a (fupd (f a) x v) i w) := by
  intro i w
  by_cases h1 : i = a
  · subst h1
    rw [fupd_eq]
    by_cases h2 : w = x
    · subst h2; rw [fupd_eq]; exact hv
    · rw [fupd_ne h2]; exact h _ _
  · rw [fupd_ne h1]; exact h _ _
theorem inv_learn {K m k : Nat} {c : Int} {t : Nw} (h : InvA K m k c t) {a : Nat} (ha : a < K) {x : It} (hx : ItA K m k x) : InvA K m k c (learnF t a x) := by
  unfold learnF
  split
  · exact h
  · exact inv_all (t := knowF t a x) ⟨h.sq, fupd2 (P := fun n => n ≤ k) h.st hx.turn, fupd2 (P := fun n => n < K) h.sn hx.node, h.wk, h.itg, h.itw, h.cnt, h.wout⟩ ha
theorem inv_come {K m k : Nat} {c : Int} {t : Nw} {a : Nat} (ha : a < K) {x : It} (hx : ItA K m k x) (h : InvA K m k (c - if isL x then 1 else 0) t) : InvA K m k c (comeF t a x) := by
  unfold comeF
  by_cases h1 : x.kind = 1
  · rw [if_pos h1]
    rw [show isL x = true by simp [isL, h1], if_pos rfl] at h
    exact (inv_letter h ha hx h1).le (Nat.le_refl _) (by omega)
  · rw [if_neg h1]
    rw [show isL x = false by simp [isL, h1]] at h
    simp only [Bool.false_eq_true, if_false, Int.sub_zero] at h
    split
    · exact inv_learn h ha hx
    split
    · exact inv_all (inv_learn (t := hereF t a x.who true) ⟨h.sq, h.st, h.sn, h.wk, h.itg, h.itw, h.cnt, h.wout⟩ ha hx) ha
    · exact h
theorem inv_do {K m k : Nat} {c : Int} {t : Nw} (h : InvA K m k c t) {kd : Int} {a b w : Nat} {nn : Int} (hK : 0 < K) (ha : kd = 1 → a < K) (ha3 : kd ≠ 1 → kd ≠ 2 → a < K) (hb : b < K) (hw : w < m) : InvA K m (k + 1) (c + 1) (doF K t kd a b w nn) := by
  have h' : InvA K m (k + 1) c t := h.le (by omega) (by omega)
  unfold doF
  split
  · rename_i h1
    have hak := ha h1
    unfold putF
    exact inv_letter (k := k + 1) (t := seqF t a w) (x := ⟨1, w, a, t.sq a w, nn, 0, 0⟩) ⟨fupd2 (P := fun n => n ≤ k + 1) h'.sq (by have := h.sq a w; omega), h'.st, h'.sn, h'.wk, h'.itg, h'.itw, h'.cnt, h'.wout⟩ hak ⟨.inl rfl, hw, hak, hK, Nat.zero_le _⟩ rfl
  split
  · unfold goF
    split
    · exact h'.le (Nat.le_refl _) (by omega)
    · rename_i i hf
      have hiK : i < K := List.mem_range.1 (List.mem_of_find?_eq_some hf)
      have hit : ItA K m (k + 1) ⟨2, w, 0, 0, 0, b, t.st i w + 1⟩ := ⟨.inr (.inl rfl), hw, hK, hb, by have := h.st i w; show t.st i w + 1 ≤ k + 1; omega⟩
      refine ⟨h'.sq, fupd2 (P := fun n => n ≤ k + 1) h'.st (by have := h.st i w; omega), fupd2 (P := fun n => n < K) h'.sn hb, ?_, wadd_its h'.itg hit, h'.itw, fun w => ?_, h'.wout⟩
      · show WK K (wadd _ _ _)
        unfold wadd
        exact h'.wk.put hiK hb _
      · show cw isL (wadd _ _ _) + sumUp K (fun i => ((t.waits i).length : Int)) + bsz t w ≤ _
        rw [cw_wadd]
        have := h.cnt w
        simp only [isL, show ¬ (2 : Int) = 1 by decide, decide_false, Bool.false_eq_true, if_false]
        omega
  · rename_i h1 h2
    have hak := ha3 h1 h2
    cases hg : (t.ways.get ((a : Int), (b : Int))).getD [] with
    | nil => rw [nextF_nil hg]; exact h'.le (Nat.le_refl _) (by omega)
    | cons x r =>
      rw [nextF_cons hg]
      have hmem : ∀ y ∈ x :: r, ItA K m (k + 1) y := fun y hy => by
        rw [← hg] at hy
        cases hg2 : t.ways.get ((a : Int), (b : Int)) with
        | none => rw [hg2] at hy; simp at hy
        | some l =>
          rw [hg2] at hy
          obtain ⟨n, hn⟩ := GM.get_mem hg2
          exact h'.itg _ hn y hy
      refine inv_come hb (hmem x (by simp)) ⟨h'.sq, h'.st, h'.sn, h'.wk.put hak hb _, fun q hq y hy => ?_, h'.itw, fun w => ?_, h'.wout⟩
      · rcases put_mem hq with hq | hq
        · exact h'.itg q hq y hy
        · rw [hq] at hy
          exact hmem y (by simp [hy])
      · show cw isL (t.ways.put _ r) + sumUp K (fun i => ((t.waits i).length : Int)) + bsz t w ≤ _
        rw [cw_tail hg]
        have := h.cnt w
        omega
theorem good_of {K m k : Nat} {c : Int} {t : Nw} (h : InvA K m k c t) (hK : K ≤ 9) (hk : k ≤ 1000) (hc : c ≤ 1000) : GoodM t := by
  refine ⟨fun i w => by have := h.sq i w; omega, fun i w => by have := h.st i w; omega, fun q hq x hx => (h.itg q hq x hx).kind, fun i => ?_, ?_⟩
  · rcases Nat.lt_or_ge i K with hi | hi
    · have h1 := (sumUp_ge (n := K) (f := fun i => ((t.waits i).length : Int)) fun j _ => Int.natCast_nonneg _).2 i hi
      have h2 := cw_nonneg isL t.ways
      have h3 := h.cnt 0
      have h4 : 0 ≤ bsz t 0 := by unfold bsz; omega
      omega
    · rw [h.wout i hi]; exact Nat.zero_le _
  · have := h.wk.len
    have : K * K ≤ 9 * 9 := Nat.mul_le_mul hK hK
    omega
end Go.Hw.VM

