import Derived.Test.YtonoaimefgodfaaHwMoY
set_option linter.unusedVariables false
set_option linter.unusedSimpArgs false
namespace Go.Hw.VM
open Go Go.Proofs
variable {K m k : Nat} {V : Nat → List Nat} {t : Nw} {a b : Nat} {x : It} {r : List It} {cr : Nat → Bool}


def mx : Nat → (Nat → Nat) → Nat
  | 0, f => f 0
  | n + 1, f => max (mx n f) (f (n + 1))
theorem mx_ge : ∀ (n : Nat) (f : Nat → Nat) (c : Nat), c ≤ n → f c ≤ mx n f
  | 0, f, c, h => by rw [show c = 0 by omega]; exact Nat.le_refl _
  | n + 1, f, c, h => by
    unfold mx
    by_cases e : c = n + 1
    · rw [e]; exact Nat.le_max_right _ _
    · exact Nat.le_trans (mx_ge n f c (by omega)) (Nat.le_max_left _ _)
def chn (n : Nat) : List (Nat × Nat) → Nat → Nat → Nat
  | [], _, _ => 0
  | p :: L, a, b => chn n L a b + if a = p.1 ∧ b = p.2 then 1 + mx n (fun c => chn n L b c) else 0
theorem chn_bound : ∀ n, n ≤ 3 → ∀ a, a < n + 1 → ∀ b, b < n + 1 → chn n (pairs n) a b ≤ 3 := by decide +kernel
def Here (t : Nw) (w : Nat) : Prop := ∃ i, t.here i w = true
def NrA (j w a b : Nat) (t : Nw) : Prop := ∃ pre y post, WL t a b = pre ++ y :: post ∧ pre.length ≤ j ∧ y.kind = 2 ∧ y.who = w
theorem cell1 (hm : 0 < m) (ρ : Nat → Nat → Nat) (hρ : ∀ c, c < K → ρ b c + 1 ≤ ρ a b) : ∀ (j : Nat) (t : Nw), Dr K m V cr t →
    Dr K m V cr (comesF j t a b) ∧ Ph K V cr ρ (comesF j t a b) ≤ Ph K V cr ρ t ∧ (∀ w, Here t w → Here (comesF j t a b) w) ∧ (∀ w p, NrA p w a b t → p < j → Here (comesF j t a b) w) ∧ ∀ c d, ¬ (c = a ∧ d = b) → ∃ l, WL (comesF j t a b) c d = WL t c d ++ l
  | 0, t, h => ⟨h, Int.le_refl _, fun _ h => h, fun _ _ _ e => by omega, fun c d _ => ⟨[], by simp [comesF]⟩⟩
  | j + 1, t, h => by
    cases hg : WL t a b with
    | nil =>
      rw [comes_nil _ hg]
      refine ⟨h, Int.le_refl _, fun _ h => h, fun w p hN _ => ?_, fun c d _ => ⟨[], by simp⟩⟩
      obtain ⟨pre, y, post, e, _⟩ := hN
      rw [hg] at e
      simp at e
    | cons x r =>
      obtain ⟨h1, h2, o, hab⟩ := dr_step h hg hm ρ (fun w _ => hρ)
      obtain ⟨i1, i2, i3, i4, i5⟩ := cell1 hm ρ hρ j (nextF t a b) h1
      have hs := out_self o hab
      unfold comesF
      refine ⟨i1, ?_, fun w hw => i3 w ?_, fun w p hN hp => ?_, fun c d hcd => ?_⟩
      · split at h2 <;> omega
      · obtain ⟨i, hi⟩ := hw
        exact ⟨i, o.here i w hi⟩
      · obtain ⟨pre, y, post, e, e1, e2, e3⟩ := hN
        rw [hg] at e
        cases pre with
        | nil =>
          simp only [List.nil_append, List.cons.injEq] at e
          refine i3 w ⟨b, ?_⟩
          rw [← e3, ← e.1]
          exact o.k2 (by rw [e.1]; exact e2)
        | cons z pre =>
          simp only [List.cons_append, List.cons.injEq] at e
          simp only [List.length_cons] at e1
          exact i4 w (p - 1) ⟨pre, y, post, by rw [hs]; exact e.2, by omega, e2, e3⟩ (by omega)
      · obtain ⟨l1, q1⟩ := i5 c d hcd
        obtain ⟨l2, q2, _⟩ := out_pre o c d
        rw [WL_way, if_neg hcd] at q2
        exact ⟨l2 ++ l1, by rw [q1, q2, List.append_assoc]⟩
theorem Ph_rho (hb : InvV m V t) {ρ ρ' : Nat → Nat → Nat} (h : ∀ a b, ρ a b ≤ ρ' a b) : Ph K V cr ρ t ≤ Ph K V cr ρ' t := PS_mono fun c d p hp => by
  have := h c d
  unfold wt
  split
  · split <;> omega
  · omega
theorem round1 {n : Nat} (hm : 0 < m) : ∀ (L : List (Nat × Nat)) (t : Nw) (B : Int), (∀ p ∈ L, p.1 ≠ p.2) → Dr (n + 1) m V cr t → Ph (n + 1) V cr (chn n L) t ≤ B → (∀ w, cr w = true → Here t w ∨ ∃ q ∈ L, NrA 4 w q.1 q.2 t) →
    Dr (n + 1) m V cr (runC L t) ∧ Ph (n + 1) V cr (fun _ _ => 0) (runC L t) ≤ B ∧ ∀ w, cr w = true → Here (runC L t) w
  | [], t, B, hL, h, hB, hN => ⟨h, hB, fun w hw => by
      rcases hN w hw with h | ⟨q, hq, _⟩
      · exact h
      · simp at hq⟩
  | p :: L, t, B, hL, h, hB, hN => by
    have hp := hL p (by simp)
    have hρ : ∀ c, c < n + 1 → chn n (p :: L) p.2 c + 1 ≤ chn n (p :: L) p.1 p.2 := fun c hc => by
      unfold chn
      rw [if_neg (fun e => hp e.1.symm), if_pos ⟨rfl, rfl⟩]
      have := mx_ge n (fun c => chn n L p.2 c) c (by omega)
      omega
    obtain ⟨i1, i2, i3, i4, i5⟩ := cell1 hm (chn n (p :: L)) hρ 5 t h
    refine round1 hm L (comesF 5 t p.1 p.2) B (fun q hq => hL q (by simp [hq])) i1 ?_ fun w hw => ?_
    · obtain ⟨k, hb⟩ := i1.bun
      have := Ph_rho (K := n + 1) (cr := cr) hb.I (ρ := chn n L) (ρ' := chn n (p :: L)) fun a b => by
        conv => rhs; unfold chn
        omega
      omega
    · rcases hN w hw with h | ⟨q, hq, hq2⟩
      · exact .inl (i3 w h)
      · by_cases e : q.1 = p.1 ∧ q.2 = p.2
        · left
          rw [e.1, e.2] at hq2
          exact i4 w 4 hq2 (by omega)
        · right
          rcases List.mem_cons.1 hq with rfl | hq
          · exact absurd ⟨rfl, rfl⟩ e
          · obtain ⟨pre, y, post, e1, e2⟩ := hq2
            obtain ⟨l, e3⟩ := i5 q.1 q.2 e
            exact ⟨q, hq, pre, y, post ++ l, by rw [e3, e1]; simp, e2⟩

theorem rk_here (h : Bun K m k V t) {p : Bool × It} (hp : p ∈ mk (WL t a b)) (hk : p.2.kind = 1) (hh : Here t p.2.who) : rk V t a b p + 1 ≤ (V p.2.who).length := by
  have hi := h.I.it a b p hp
  obtain ⟨s, h1, _⟩ := hi.k1 hk
  obtain ⟨i, hi2⟩ := hh
  obtain ⟨g1, g2⟩ := h.I.hr i _ hi.who hi2
  have hl := lt_of_get h1
  unfold rk
  by_cases hs : s + 1 < (V p.2.who).length
  · have := h.I.up _ s b hi.who h1 hs
    split <;> omega
  · have e : s = (V p.2.who).length - 1 := by omega
    have tp := h.I.top hi.who g2
    rw [e, tp] at h1
    injection h1 with h1
    rw [if_pos]
    · omega
    · refine ⟨by rw [tp, h1], .inl ?_⟩
      rw [← h1, g1]
      exact g2
theorem rk_le (h : Bun K m k V t) {p : Bool × It} (hp : p ∈ mk (WL t a b)) (hk : p.2.kind = 1) (hG : GI V t a b p) : rk V t a b p ≤ max 2 ((V p.2.who).length - 1) := by
  have hi := h.I.it a b p hp
  by_cases hh : Here t p.2.who
  · have := rk_here h hp hk hh
    omega
  · rcases transit h hi.who with ⟨i, _, hhi⟩ | ⟨u, d, y, hy, hyk, hyw, hu, hd, t1, t2, t3, t4⟩
    · exact absurd ⟨i, hhi⟩ hh
    · rcases hG with hG | ⟨h1, h2 | h2⟩ | h1
      · exact absurd hG hh
      · unfold rk
        split <;> omega
      · unfold rk
        rw [if_pos ⟨h1, .inr h2⟩]
        omega
      · have : u = b := by rw [t2] at h1; injection h1
        rw [this] at t3
        unfold rk
        split <;> omega
theorem sumUp_mul (B : Int) (n : Nat) (f : Nat → Int) : sumUp n (fun i => B * f i) = B * sumUp n f := by
  induction n with
  | zero => simp [sumUp]
  | succ n ih => rw [sumUp_succ, sumUp_succ, ih, Int.mul_add]
theorem S2_mul (B : Int) (F : Nat → Nat → Int) : S2 K (fun a b => B * F a b) = B * S2 K F := by
  unfold S2
  rw [← sumUp_mul]
  exact sumUp_congr fun i _ => sumUp_mul B K (F i)
theorem lsum_le {A : Type} {f : A → Int} {B : Int} : ∀ {l : List A}, (∀ p ∈ l, f p ≤ B) → (l.map f).sum ≤ B * (l.length : Int)
  | [], _ => by simp
  | p :: l, h => by
    have h1 := lsum_le (l := l) fun q hq => h q (by simp [hq])
    have h2 := h p (by simp)
    simp only [List.map_cons, List.sum_cons, List.length_cons]
    rw [show B * ((l.length + 1 : Nat) : Int) = B * (l.length : Int) + B by rw [Int.natCast_add, Int.mul_add]; simp]
    omega
theorem lsum_le1 {A : Type} {f : A → Int} {B : Int} {q : A} : ∀ {l : List A}, (∀ p ∈ l, f p ≤ B) → q ∈ l → f q ≤ 1 → (l.map f).sum ≤ B * (l.length : Int) - (B - 1)
  | [], _, h, _ => by simp at h
  | p :: l, h, hq, h1 => by
    have e : B * ((l.length + 1 : Nat) : Int) = B * (l.length : Int) + B := by rw [Int.natCast_add, Int.mul_add]; simp
    simp only [List.map_cons, List.sum_cons, List.length_cons]
    rw [e]
    rcases List.mem_cons.1 hq with rfl | hq
    · have := lsum_le (l := l) fun q hq => h q (by simp [hq])
      omega
    · have := lsum_le1 (l := l) (fun q hq => h q (by simp [hq])) hq h1
      have := h p (by simp)
      omega
theorem PS_le {f : Nat → Nat → Bool × It → Int} {B : Int} (h : ∀ a b, a < K → b < K → ∀ p ∈ mk (WL t a b), f a b p ≤ B) : PS K f t ≤ B * TI K t := by
  unfold PS TI
  rw [← S2_mul]
  refine S2_mono fun c d hc hd => ?_
  have := lsum_le (h c d hc hd)
  rwa [mk_len] at this
theorem PS_le1 {f : Nat → Nat → Bool × It → Int} {B : Int} (h : ∀ a b, a < K → b < K → ∀ p ∈ mk (WL t a b), f a b p ≤ B) {u d : Nat} (hu : u < K) (hd : d < K) {q : Bool × It} (hq : q ∈ mk (WL t u d)) (h1 : f u d q ≤ 1) : PS K f t ≤ B * TI K t - (B - 1) := by
  have e := S2_one (K := K) (a := u) (b := d) (F := fun c e => if c = u ∧ e = d then B * ((WL t c e).length : Int) - (B - 1) else B * ((WL t c e).length : Int)) (G := fun c e => B * ((WL t c e).length : Int)) hu hd fun c e _ _ hce => by simp only [if_neg hce]
  simp only [and_self, if_true] at e
  have e2 : S2 K (fun c e => B * ((WL t c e).length : Int)) = B * TI K t := S2_mul B _
  have e3 : PS K f t ≤ S2 K (fun c e => if c = u ∧ e = d then B * ((WL t c e).length : Int) - (B - 1) else B * ((WL t c e).length : Int)) := by
    refine S2_mono fun c z hc he => ?_
    by_cases hce : c = u ∧ z = d
    · rw [if_pos hce]
      obtain ⟨rfl, rfl⟩ := hce
      have := lsum_le1 (h c z hc he) hq h1
      rwa [mk_len] at this
    · rw [if_neg hce]
      have := lsum_le (h c z hc he)
      rwa [mk_len] at this
  omega
end Go.Hw.VM

