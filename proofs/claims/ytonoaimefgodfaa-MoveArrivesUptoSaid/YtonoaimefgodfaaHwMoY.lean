import Derived.Test.YtonoaimefgodfaaHwMoX
set_option linter.unusedVariables false
set_option linter.unusedSimpArgs false
namespace Go.Hw.VM
open Go Go.Proofs
variable {K m k : Nat} {V : Nat → List Nat} {t : Nw} {a b : Nat} {x : It} {r : List It} {cr : Nat → Bool}

theorem WL_lt {c : Int} (h : InvA K m k c t) (hx : x ∈ WL t a b) : a < K ∧ b < K := by
  unfold WL at hx
  cases hg : t.ways.get ((a : Int), (b : Int)) with
  | none => rw [hg] at hx; simp at hx
  | some l =>
    obtain ⟨n, hn⟩ := GM.get_mem hg
    obtain ⟨a', b', h1, h2, e⟩ := h.wk.keys _ hn
    obtain ⟨e1, e2⟩ := key_eq.1 e
    omega
def wt (cr : Nat → Bool) (ρ : Nat → Nat → Nat) (V : Nat → List Nat) (t : Nw) (a b : Nat) (p : Bool × It) : Int :=
  if p.2.kind = 1 then (if cr p.2.who then 2 * ((V p.2.who).length : Int) - 1 + ρ a b else 1 + 2 * (rk V t a b p : Int)) else 1
structure Dr (K m : Nat) (V : Nat → List Nat) (cr : Nat → Bool) (t : Nw) : Prop where
  bun : ∃ k, Bun K m k V t
  g : ∀ a b, ∀ p ∈ mk (WL t a b), p.2.kind = 1 → cr p.2.who = false → GI V t a b p
def Ph (K : Nat) (V : Nat → List Nat) (cr : Nat → Bool) (ρ : Nat → Nat → Nat) (t : Nw) : Int := PS K (wt cr ρ V t) t
theorem wt_pos (h : InvV m V t) {ρ : Nat → Nat → Nat} {p : Bool × It} (hp : p.2.who < m) : 1 ≤ wt cr ρ V t a b p := by
  have := h.ne _ hp
  unfold wt
  split
  · split <;> omega
  · omega
theorem way_mem {p : Bool × It} (hg : WL t a b = x :: r) {c d : Nat} (hp : p ∈ mk (WL (wayF t a b r) c d)) : p ∈ mk (WL t c d) := by
  rw [WL_way] at hp
  split at hp
  · rename_i h
    rw [h.1, h.2, hg]
    simp [mk, hp]
  · exact hp
theorem head_mem (hg : WL t a b = x :: r) : (r.any (isA x.who), x) ∈ mk (WL t a b) := by rw [hg]; simp [mk]
theorem dr_step (h : Dr K m V cr t) (hg : WL t a b = x :: r) (hm : 0 < m) (ρ : Nat → Nat → Nat) (hρ : ∀ w, cr w = true → ∀ c, c < K → ρ b c + 1 ≤ ρ a b) :
    Dr K m V cr (nextF t a b) ∧ Ph K V cr ρ (nextF t a b) + (if x.kind = 1 ∧ cr x.who = true then 0 else 1) ≤ Ph K V cr ρ t ∧ Out m t a b x r (nextF t a b) ∧ a ≠ b := by
  obtain ⟨k, hb⟩ := h.bun
  have hxm : x ∈ WL t a b := by rw [hg]; simp
  obtain ⟨haK, hbK⟩ := WL_lt hb.A hxm
  obtain ⟨o, q, hq, hxq⟩ := come_out hb hg
  have hA := hb.A.itg q hq x hxq
  have hb' := bun_come hb (by omega) haK hbK hm
  have hab : a ≠ b := fun e => by
    rw [e] at hxm
    rw [hb.I.loop b] at hxm
    simp at hxm
  have hxI := hb.I.it a b _ (head_mem hg)
  have hxw : x.who < m := hxI.who
  have hlt : ∀ i w, w < m → (nextF t a b).st i w < (V w).length := fun i w hw => hb'.I.stl hw i
  generalize nextF t a b = t' at *
  have hstep := fun (hc : cr x.who = false) (hf : Fw t b x) => rk_step hb hg hxw (h.g a b _ (head_mem hg) hf.1 hc) hf
  refine ⟨⟨⟨_, hb'⟩, fun c d p hp hk hc => ?_⟩, ?_, o, hab⟩
  · have hpw : p.2.who < m := (hb'.I.it c d p hp).who
    rcases out_mem o hp with hp | ⟨hf, rfl, ⟨rfl, hp3⟩ | ⟨rfl, rfl⟩⟩
    · exact GI_mono o.st o.here hpw (h.g c d p (way_mem hg hp) hk hc)
    · rw [hk] at hp3; simp at hp3
    · exact GI_mono o.st o.here hpw (hstep hc hf).2
  · have e1 : Ph K V cr ρ t' ≤ PS K (wt cr ρ V t) t' := PS_mono fun c d p hp => by
      have := rk_mono o.st hlt (hb'.I.it c d p hp).who c d
      unfold wt
      split
      · split <;> omega
      · omega
    have e2 := PS_way (wt cr ρ V t) haK hbK hg
    have hpos := wt_pos (cr := cr) (a := a) (b := b) hb.I (ρ := ρ) (p := (r.any (isA x.who), x)) hxw
    have hne := hb.I.ne _ hxw
    unfold Ph at e1 ⊢
    rcases out_sum o (wt cr ρ V t) hbK hA.frm (hb.A.sn _ _) (fun c d p hp => by unfold wt; rw [if_neg (by rw [hp]; decide)]; omega) with e3 | ⟨hf, e3⟩
    · split <;> omega
    · by_cases hc : cr x.who = true
      · rw [if_pos ⟨hf.1, hc⟩]
        have hr := hρ _ hc (t.sn b x.who) (hb.A.sn _ _)
        have f1 : wt cr ρ V t a b (r.any (isA x.who), x) = 2 * ((V x.who).length : Int) - 1 + ρ a b := by unfold wt; rw [if_pos hf.1, if_pos hc]
        have f2 : wt cr ρ V t b (t.sn b x.who) (false, x) = 2 * ((V x.who).length : Int) - 1 + ρ b (t.sn b x.who) := by unfold wt; rw [if_pos hf.1, if_pos hc]
        omega
      · rw [if_neg (fun e => hc e.2)]
        have hr := (hstep (Bool.eq_false_iff.2 hc) hf).1
        have f1 : wt cr ρ V t a b (r.any (isA x.who), x) = 1 + 2 * (rk V t a b (r.any (isA x.who), x) : Int) := by unfold wt; rw [if_pos hf.1, if_neg hc]
        have f2 : wt cr ρ V t b (t.sn b x.who) (false, x) = 1 + 2 * (rk V t b (t.sn b x.who) (false, x) : Int) := by unfold wt; rw [if_pos hf.1, if_neg hc]
        omega

def dep (V : Nat → List Nat) (t : Nw) (a b : Nat) (p : Bool × It) : Nat := if p.2.kind = 1 then 1 + rk V t a b p else 1
def DD (V : Nat → List Nat) (d : Nat) (S : List (Nat × Nat)) (t : Nw) : Prop := ∀ a b, ∀ p ∈ mk (WL t a b), dep V t a b p ≤ d ∧ ((a, b) ∈ S → dep V t a b p + 1 ≤ d)
abbrev none_ : Nat → Bool := fun _ => false
theorem dd_step {d : Nat} {S : List (Nat × Nat)} (h : Dr K m V none_ t) (hg : WL t a b = x :: r) (hm : 0 < m) (hD : DD V d S t) : DD V d S (nextF t a b) := by
  obtain ⟨h', _, o, hab⟩ := dr_step h hg hm (fun _ _ => 0) (fun w hw => by simp at hw)
  obtain ⟨k, hb⟩ := h.bun
  obtain ⟨k', hb'⟩ := h'.bun
  have hlt : ∀ i w, w < m → (nextF t a b).st i w < (V w).length := fun i w hw => hb'.I.stl hw i
  have hxw : x.who < m := (hb.I.it a b _ (head_mem hg)).who
  generalize nextF t a b = t' at *
  intro c e p hp
  have hpw : p.2.who < m := (hb'.I.it c e p hp).who
  have hr := rk_mono o.st hlt hpw c e
  have hd : dep V t' c e p ≤ dep V t c e p := by
    unfold dep
    split <;> omega
  rcases out_mem o hp with hp | ⟨hf, rfl, hp3⟩
  · obtain ⟨h1, h2⟩ := hD c e p (way_mem hg hp)
    refine ⟨by omega, fun hS => ?_⟩
    have := h2 hS
    omega
  · have hs := (rk_step hb hg hxw (h.g a c _ (head_mem hg) hf.1 rfl) hf).1
    have h0 := (hD a c _ (head_mem hg)).1
    have f1 : dep V t a c (r.any (isA x.who), x) = 1 + rk V t a c (r.any (isA x.who), x) := by unfold dep; rw [if_pos hf.1]
    rcases hp3 with ⟨rfl, hp3⟩ | ⟨rfl, rfl⟩
    · have f2 : dep V t' c x.frm p = 1 := by unfold dep; rw [if_neg (by rw [hp3]; decide)]
      exact ⟨by omega, fun _ => by omega⟩
    · have f2 : dep V t c (t.sn c x.who) (false, x) = 1 + rk V t c (t.sn c x.who) (false, x) := by unfold dep; rw [if_pos hf.1]
      exact ⟨by omega, fun _ => by omega⟩
def comesF : Nat → Nw → Nat → Nat → Nw
  | 0, t, _, _ => t
  | j + 1, t, a, b => comesF j (nextF t a b) a b
theorem comes_nil (j : Nat) (h : WL t a b = []) : comesF j t a b = t := by
  induction j with
  | zero => rfl
  | succ j ih => unfold comesF; rw [nextF_nil h]; exact ih
def Phn (K : Nat) (V : Nat → List Nat) (t : Nw) : Int := Ph K V none_ (fun _ _ => 0) t
theorem cell {d : Nat} {S : List (Nat × Nat)} (hm : 0 < m) : ∀ (j : Nat) (t : Nw), Dr K m V none_ t → DD V d S t →
    Dr K m V none_ (comesF j t a b) ∧ DD V d S (comesF j t a b) ∧ Phn K V (comesF j t a b) ≤ Phn K V t ∧ ((WL t a b).length ≤ j → WL (comesF j t a b) a b = []) ∧ (j ≤ (WL t a b).length → Phn K V (comesF j t a b) + j ≤ Phn K V t)
  | 0, t, h, hD => ⟨h, hD, Int.le_refl _, fun e => (List.eq_nil_of_length_eq_zero (Nat.le_zero.1 e) : WL t a b = []), fun _ => by show Phn K V t + ((0 : Nat) : Int) ≤ _; omega⟩
  | j + 1, t, h, hD => by
    cases hg : WL t a b with
    | nil =>
      rw [comes_nil _ hg]
      exact ⟨h, hD, Int.le_refl _, fun _ => hg, fun e => by simp at e⟩
    | cons x r =>
      obtain ⟨h1, h2, o, hab⟩ := dr_step h hg hm (fun _ _ => 0) (fun w hw => by simp at hw)
      obtain ⟨i1, i2, i3, i4, i5⟩ := cell hm j (nextF t a b) h1 (dd_step h hg hm hD)
      rw [if_neg (by simp)] at h2
      have hs := out_self o hab
      rw [hs] at i4 i5
      unfold comesF
      unfold Phn at *
      refine ⟨i1, i2, by omega, fun e => i4 (by simp only [List.length_cons] at e; omega), fun e => ?_⟩
      have := i5 (by simp only [List.length_cons] at e; omega)
      omega
def runC (L : List (Nat × Nat)) (t : Nw) : Nw := L.foldl (fun t p => comesF 5 t p.1 p.2) t
theorem weak {d : Nat} {S : List (Nat × Nat)} (hm : 0 < m) : ∀ (L : List (Nat × Nat)) (t : Nw), Dr K m V none_ t → DD V d S t → Dr K m V none_ (runC L t) ∧ DD V d S (runC L t) ∧ Phn K V (runC L t) ≤ Phn K V t
  | [], t, h, hD => ⟨h, hD, Int.le_refl _⟩
  | p :: L, t, h, hD => by
    obtain ⟨i1, i2, i3, _⟩ := cell (a := p.1) (b := p.2) hm 5 t h hD
    obtain ⟨j1, j2, j3⟩ := weak hm L _ i1 i2
    exact ⟨j1, j2, Int.le_trans j3 i3⟩
theorem round {d : Nat} (hm : 0 < m) : ∀ (L S : List (Nat × Nat)) (t : Nw), Dr K m V none_ t → DD V d S t →
    Dr K m V none_ (runC L t) ∧ DD V d [] (runC L t) ∧ Phn K V (runC L t) ≤ Phn K V t ∧ (Phn K V (runC L t) + 5 ≤ Phn K V t ∨ ∃ S', DD V d S' (runC L t) ∧ (∀ p ∈ L, p ∈ S') ∧ ∀ p ∈ S, p ∈ S')
  | [], S, t, h, hD => ⟨h, fun a b p hp => ⟨(hD a b p hp).1, fun e => by simp at e⟩, Int.le_refl _, .inr ⟨S, hD, fun p hp => by simp at hp, fun p hp => hp⟩⟩
  | p :: L, S, t, h, hD => by
    obtain ⟨i1, i2, i3, i4, i5⟩ := cell (a := p.1) (b := p.2) hm 5 t h hD
    by_cases hl : (WL t p.1 p.2).length ≤ 5
    · have hn := i4 hl
      have hD2 : DD V d (p :: S) (comesF 5 t p.1 p.2) := fun a b q hq => by
        refine ⟨(i2 a b q hq).1, fun e => ?_⟩
        rcases List.mem_cons.1 e with e | e
        · rw [← e] at hn
          simp only at hn
          rw [← e] at hq
          simp only at hq
          rw [hn] at hq
          simp [mk] at hq
        · exact (i2 a b q hq).2 e
      obtain ⟨j1, j2, j3, j4⟩ := round hm L (p :: S) _ i1 hD2
      refine ⟨j1, j2, Int.le_trans j3 i3, ?_⟩
      rcases j4 with j4 | ⟨S', j5, j6, j7⟩
      · left; exact Int.le_trans j4 i3
      · refine .inr ⟨S', j5, fun q hq => ?_, fun q hq => j7 q (by simp [hq])⟩
        rcases List.mem_cons.1 hq with rfl | hq
        · exact j7 _ (by simp)
        · exact j6 q hq
    · obtain ⟨j1, j2, j3⟩ := weak hm L _ i1 i2
      have := i5 (by omega)
      refine ⟨j1, fun a b p hp => ⟨(j2 a b p hp).1, fun e => by simp at e⟩, Int.le_trans j3 i3, .inl ?_⟩
      show Phn K V (runC L (comesF 5 t p.1 p.2)) + 5 ≤ Phn K V t
      omega
def pairs (n : Nat) : List (Nat × Nat) := (List.range n).flatMap fun a => (List.range n).flatMap fun b => if a = b then [] else [(a + 1, b + 1)]
theorem pairs_mem {n a b : Nat} (ha : 1 ≤ a) (hb : 1 ≤ b) (ha2 : a < n + 1) (hb2 : b < n + 1) (hab : a ≠ b) : (a, b) ∈ pairs n := by
  unfold pairs
  refine List.mem_flatMap.2 ⟨a - 1, List.mem_range.2 (by omega), List.mem_flatMap.2 ⟨b - 1, List.mem_range.2 (by omega), ?_⟩⟩
  rw [if_neg (by omega)]
  rw [show a - 1 + 1 = a by omega, show b - 1 + 1 = b by omega]
  simp
theorem WL_pairs {n : Nat} (h : Bun (n + 1) m k V t) (hx : x ∈ WL t a b) : (a, b) ∈ pairs n := by
  obtain ⟨h1, h2⟩ := WL_lt h.A hx
  obtain ⟨h3, h4, _⟩ := h.Q2 a b x hx
  refine pairs_mem h3 h4 h1 h2 fun e => ?_
  rw [e, h.I.loop b] at hx
  simp at hx
def runR (n : Nat) : Nat → Nw → Nw
  | 0, t => t
  | j + 1, t => runR n j (runC (pairs n) t)
theorem runC_nil : ∀ (L : List (Nat × Nat)) {t : Nw}, (∀ a b, WL t a b = []) → runC L t = t
  | [], t, h => rfl
  | p :: L, t, h => by
    show runC L (comesF 5 t p.1 p.2) = t
    rw [comes_nil 5 (h p.1 p.2)]
    exact runC_nil L h
theorem runR_nil (n : Nat) : ∀ (j : Nat) {t : Nw}, (∀ a b, WL t a b = []) → runR n j t = t
  | 0, t, h => rfl
  | j + 1, t, h => by
    unfold runR
    rw [runC_nil _ h]
    exact runR_nil n j h
theorem rounds {n : Nat} (hm : 0 < m) : ∀ (N k d : Nat) (t : Nw), k + d ≤ N → Dr (n + 1) m V none_ t → DD V d [] t → Phn (n + 1) V t ≤ 5 * (k : Int) + 4 → Dr (n + 1) m V none_ (runR n N t) ∧ ∀ a b, WL (runR n N t) a b = [] := by
  have empty : ∀ t, DD V 0 [] t → ∀ a b, WL t a b = [] := fun t hD a b => by
    cases hg : WL t a b with
    | nil => rfl
    | cons x r =>
      have := (hD a b _ (head_mem hg)).1
      unfold dep at this
      split at this <;> omega
  intro N
  induction N with
  | zero =>
    intro k d t hN h hD hP
    have : d = 0 := by omega
    subst this
    exact ⟨h, empty t hD⟩
  | succ N ih =>
    intro k d t hN h hD hP
    unfold runR
    by_cases hd : d = 0
    · subst hd
      have he := empty t hD
      rw [runC_nil _ he, runR_nil n N he]
      exact ⟨h, he⟩
    · obtain ⟨j1, j2, j3, j4⟩ := round hm (pairs n) [] t h hD
      have hnn : 0 ≤ Phn (n + 1) V (runC (pairs n) t) := by
        obtain ⟨k1, hb⟩ := j1.bun
        refine S2_nonneg fun c e _ _ => ?_
        have : ((mk (WL (runC (pairs n) t) c e)).map fun _ => (0 : Int)).sum ≤ ((mk (WL (runC (pairs n) t) c e)).map (wt none_ (fun _ _ => 0) V (runC (pairs n) t) c e)).sum := lsum_mono fun p hp => by
          have := wt_pos (cr := none_) (a := c) (b := e) (ρ := fun _ _ => 0) hb.I (hb.I.it c e p hp).who
          omega
        have h0 : ∀ l : List (Bool × It), (l.map fun _ => (0 : Int)).sum = 0 := fun l => by
          induction l with
          | nil => rfl
          | cons q l ihl => simp only [List.map_cons, List.sum_cons, ihl]; rfl
        rw [h0] at this
        exact this
      rcases j4 with j4 | ⟨S', j5, j6, _⟩
      · exact ih (k - 1) d _ (by omega) j1 j2 (by omega)
      · refine ih k (d - 1) _ (by omega) j1 (fun a b p hp => ⟨?_, fun e => by simp at e⟩) (by omega)
        obtain ⟨k1, hb⟩ := j1.bun
        have := (j5 a b p hp).2 (j6 _ (WL_pairs hb (mk_mem' hp)))
        omega
end Go.Hw.VM

