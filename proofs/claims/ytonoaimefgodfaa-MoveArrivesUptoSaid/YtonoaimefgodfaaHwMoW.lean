import Derived.Test.YtonoaimefgodfaaHwMoV
set_option linter.unusedVariables false
set_option linter.unusedSimpArgs false
namespace Go.Hw.VM
open Go Go.Proofs
variable {m : Nat} {V : Nat → List Nat}

def S2 (K : Nat) (F : Nat → Nat → Int) : Int := sumUp K fun a => sumUp K (F a)
theorem S2_one {K a b : Nat} {F G : Nat → Nat → Int} (ha : a < K) (hb : b < K) (h : ∀ c d, c < K → d < K → ¬ (c = a ∧ d = b) → F c d = G c d) : S2 K F = S2 K G - G a b + F a b := by
  unfold S2
  have h1 := sumUp_one (n := K) (a := a) (f := fun c => sumUp K (F c)) (g := fun c => sumUp K (G c)) ha fun c hc hca => sumUp_congr fun d hd => h c d hc hd fun e => hca e.1
  have h2 := sumUp_one (n := K) (a := b) (f := F a) (g := G a) hb fun d hd hdb => h a d ha hd fun e => hdb e.2
  rw [h1, h2]
  omega
theorem sumUp_mono {n : Nat} {f g : Nat → Int} (h : ∀ i, i < n → f i ≤ g i) : sumUp n f ≤ sumUp n g := by
  induction n with
  | zero => exact Int.le_refl _
  | succ n ih =>
    rw [sumUp_succ, sumUp_succ]
    have := ih fun i hi => h i (by omega)
    have := h n (by omega)
    omega
theorem S2_mono {K : Nat} {F G : Nat → Nat → Int} (h : ∀ c d, c < K → d < K → F c d ≤ G c d) : S2 K F ≤ S2 K G :=
  sumUp_mono fun c hc => sumUp_mono fun d hd => h c d hc hd
theorem S2_ge {K : Nat} {F : Nat → Nat → Int} (h : ∀ c d, c < K → d < K → 0 ≤ F c d) {a b : Nat} (ha : a < K) (hb : b < K) : F a b ≤ S2 K F := by
  have h1 := fun c hc => sumUp_ge (n := K) (f := F c) fun d hd => h c d hc hd
  have h2 := (sumUp_ge (n := K) (f := fun c => sumUp K (F c)) fun c hc => (h1 c hc).1).2 a ha
  have h3 := (h1 a ha).2 b hb
  unfold S2
  omega
theorem S2_nonneg {K : Nat} {F : Nat → Nat → Int} (h : ∀ c d, c < K → d < K → 0 ≤ F c d) : 0 ≤ S2 K F :=
  (sumUp_ge (n := K) (f := fun c => sumUp K (F c)) fun c hc => (sumUp_ge (n := K) (f := F c) fun d hd => h c d hc hd).1).1
def TI (K : Nat) (t : Nw) : Int := S2 K fun a b => ((WL t a b).length : Int)
def hsum (K : Nat) (t : Nw) (w : Nat) : Int := sumUp K fun i => if t.here i w then 1 else 0
def cost (K m : Nat) (V : Nat → List Nat) (t : Nw) : Int := TI K t + 2 * sumUp m fun w => ((V w).length : Int) - 2 + hsum K t w
theorem TI_way {K : Nat} {t : Nw} {a b : Nat} {x : It} {r : List It} (ha : a < K) (hb : b < K) (h : WL t a b = x :: r) : TI K (wayF t a b r) = TI K t - 1 := by
  unfold TI
  rw [S2_one (F := fun c d => ((WL (wayF t a b r) c d).length : Int)) (G := fun c d => ((WL t c d).length : Int)) ha hb fun c d _ _ hcd => by simp only [WL_way, if_neg hcd]]
  simp only [WL_way, h, and_self, if_true, List.length_cons]
  omega
theorem TI_add {K : Nat} {t t' : Nw} {a b : Nat} {y : It} (ha : a < K) (hb : b < K) (h : t'.ways = wadd t.ways ((a : Int), (b : Int)) y) : TI K t' = TI K t + 1 := by
  unfold TI
  rw [S2_one (F := fun c d => ((WL t' c d).length : Int)) (G := fun c d => ((WL t c d).length : Int)) ha hb fun c d _ _ hcd => by simp only [WL_add h, if_neg hcd]]
  simp only [WL_add h, and_self, if_true, List.length_append, List.length_singleton]
  omega
theorem TI_same {K : Nat} {t t' : Nw} (h : t'.ways = t.ways) : TI K t' = TI K t := by
  unfold TI; simp only [WL_same h]
theorem letter_shape (t : Nw) (a : Nat) (x : It) : (letterF t a x).here = t.here ∧ (letterF t a x).sn = t.sn ∧ (letterF t a x).st = t.st ∧ ((letterF t a x).ways = t.ways ∧ (t.here a x.who = true ∨ t.sn a x.who = a) ∨ t.here a x.who = false ∧ t.sn a x.who ≠ a ∧ (letterF t a x).ways = wadd (if x.frm ≠ a then wadd t.ways ((a : Int), (x.frm : Int)) (noteF t a x) else t.ways) ((a : Int), (t.sn a x.who : Int)) x) := by
  unfold letterF
  split
  · rename_i h; exact ⟨rfl, rfl, rfl, .inl ⟨rfl, .inl h⟩⟩
  · rename_i h
    split
    · rename_i h2; exact ⟨rfl, rfl, rfl, .inl ⟨rfl, .inr h2⟩⟩
    · rename_i h2; exact ⟨rfl, rfl, rfl, .inr ⟨Bool.eq_false_iff.2 h, h2, rfl⟩⟩
theorem TI_letter {K : Nat} {t : Nw} {a : Nat} {x : It} (ha : a < K) (hf : x.frm < K) (hs : t.sn a x.who < K) : TI K (letterF t a x) ≤ TI K t + if x.frm = a then 1 else 2 := by
  obtain ⟨_, _, _, h⟩ := letter_shape t a x
  rcases h with ⟨h, _⟩ | ⟨_, _, h⟩
  · rw [TI_same h]
    split <;> omega
  · by_cases hfr : x.frm = a
    · rw [if_neg (by omega)] at h
      rw [TI_add ha hs h, if_pos hfr]
      exact Int.le_refl _
    · rw [if_pos hfr] at h
      rw [TI_add (t := { t with ways := wadd t.ways ((a : Int), (x.frm : Int)) (noteF t a x) }) ha hs h, TI_add (t := t) (a := a) (b := x.frm) ha hf rfl, if_neg hfr]
      omega
theorem hsum_same {K : Nat} {t t' : Nw} (h : t'.here = t.here) (w : Nat) : hsum K t' w = hsum K t w := by
  unfold hsum; rw [h]
theorem cost_same {K m : Nat} {V : Nat → List Nat} {t t' : Nw} (h : t'.here = t.here) : cost K m V t' = cost K m V t + (TI K t' - TI K t) := by
  unfold cost; simp only [hsum_same h]; omega
theorem WL_es {t : Nw} {a b : Nat} {x : It} (h : x ∈ WL t a b) : ∃ q ∈ t.ways.es, x ∈ q.2.2 := by
  unfold WL at h
  cases hg : t.ways.get ((a : Int), (b : Int)) with
  | none => rw [hg] at h; simp at h
  | some l =>
    rw [hg] at h
    obtain ⟨n, hn⟩ := GM.get_mem hg
    exact ⟨_, hn, h⟩
theorem letter_mem {t : Nw} {a : Nat} {x y : It} {c d : Nat} (hy : y ∈ WL (letterF t a x) c d) : y ∈ WL t c d ∨ (c = a ∧ ((d = x.frm ∧ y.kind = 3) ∨ (d = t.sn a x.who ∧ y = x))) := by
  obtain ⟨_, _, _, h⟩ := letter_shape t a x
  have e1 : ∀ {t1 t2 : Nw} {b : Nat} {z : It}, t2.ways = wadd t1.ways ((a : Int), (b : Int)) z → y ∈ WL t2 c d → y ∈ WL t1 c d ∨ (c = a ∧ d = b ∧ y = z) := fun e hy => by
    rw [WL_add e] at hy
    split at hy
    · rename_i hcd
      rcases List.mem_append.1 hy with hy | hy
      · exact .inl hy
      · exact .inr ⟨hcd.1, hcd.2, List.mem_singleton.1 hy⟩
    · exact .inl hy
  rcases h with ⟨h, _⟩ | ⟨_, _, h⟩
  · rw [WL_same h] at hy; exact .inl hy
  · by_cases hfr : x.frm = a
    · rw [if_neg (by omega)] at h
      rcases e1 h hy with h | ⟨h1, h2, h3⟩
      · exact .inl h
      · exact .inr ⟨h1, .inr ⟨h2, h3⟩⟩
    · rw [if_pos hfr] at h
      rcases e1 (t1 := { t with ways := wadd t.ways ((a : Int), (x.frm : Int)) (noteF t a x) }) h hy with h | ⟨h1, h2, h3⟩
      · rcases e1 (t1 := t) (t2 := { t with ways := wadd t.ways ((a : Int), (x.frm : Int)) (noteF t a x) }) rfl h with h | ⟨h1, h2, h3⟩
        · exact .inl h
        · exact .inr ⟨h1, .inl ⟨h2, by rw [h3]; rfl⟩⟩
      · exact .inr ⟨h1, .inr ⟨h2, h3⟩⟩
structure Bun (K m k : Nat) (V : Nat → List Nat) (t : Nw) : Prop where
  A : InvA K m k k t
  P : ∀ w, w < m → pc K t w = 1
  I : InvV m V t
  C : cost K m V t ≤ k
  Q1 : ∀ w, w < m → ∀ v ∈ V w, 1 ≤ v
  Q2 : ∀ a b, ∀ x ∈ WL t a b, 1 ≤ a ∧ 1 ≤ b ∧ (x.kind = 1 → 1 ≤ x.frm)
theorem bun_come {K k : Nat} {t : Nw} (h : Bun K m k V t) {a b : Nat} (hK : 0 < K) (ha : a < K) (hb : b < K) (hm : 0 < m) : Bun K m (k + 1) V (nextF t a b) := by
  have e : nextF t a b = doF K t 3 a b 0 0 := by unfold doF; rfl
  have iA := inv_do h.A (kd := 3) (w := 0) (nn := 0) hK (fun e => by simp at e) (fun _ _ => ha) hb hm
  have iP := pc_do h.A h.P (kd := 3) (w := 0) (nn := 0) hK (fun e => by simp at e) (fun _ _ => ha) hb hm
  rw [← e] at iA iP
  have hvc : InvV m V (nextF t a b) ∧ cost K m V (nextF t a b) ≤ cost K m V t + 1 ∧ ∀ c d, ∀ x ∈ WL (nextF t a b) c d, 1 ≤ c ∧ 1 ≤ d ∧ (x.kind = 1 → 1 ≤ x.frm) := by
    cases hg : WL t a b with
    | nil => rw [nextF_nil hg]; exact ⟨h.I, by omega, h.Q2⟩
    | cons x r =>
      rw [nextF_cons hg]
      obtain ⟨v1, v2⟩ := v_way h.I hg
      obtain ⟨q, hq, hxq⟩ := WL_es (t := t) (a := a) (b := b) (x := x) (by rw [hg]; simp)
      have hA := h.A.itg q hq x hxq
      have t1 := TI_way ha hb hg
      have hq2 : ∀ c d, ∀ y ∈ WL (wayF t a b r) c d, 1 ≤ c ∧ 1 ≤ d ∧ (y.kind = 1 → 1 ≤ y.frm) := fun c d y hy => by
        rw [WL_way] at hy
        split at hy
        · rename_i hcd
          exact h.Q2 c d y (by rw [hcd.1, hcd.2, hg]; simp [hy])
        · exact h.Q2 c d y hy
      have hqx := h.Q2 a b x (by rw [hg]; simp)
      have c1 : cost K m V (wayF t a b r) = cost K m V t - 1 := by rw [cost_same (t := t) (t' := wayF t a b r) rfl, t1]; omega
      rcases v2.kind with hk | hk | hk
      · have e1 : comeF (wayF t a b r) b x = letterF (wayF t a b r) b x := by unfold comeF; rw [if_pos hk]
        rw [e1]
        have hl := letter_shape (wayF t a b r) b x
        have t2 := TI_letter (K := K) (t := wayF t a b r) (a := b) (x := x) hb hA.frm (h.A.sn _ _)
        refine ⟨v_letter v1 hk v2.who (by omega), ?_, fun c d y hy => ?_⟩
        · rw [cost_same hl.1, c1]
          split at t2 <;> omega
        · rcases letter_mem hy with hy | ⟨rfl, ⟨rfl, hy3⟩ | ⟨rfl, rfl⟩⟩
          · exact hq2 c d y hy
          · exact ⟨hqx.2.1, hqx.2.2 hk, fun e => by rw [hy3] at e; simp at e⟩
          · exact ⟨hqx.2.1, h.Q1 _ v2.who _ (List.mem_of_getElem? (h.I.sn _ _ v2.who)), hqx.2.2⟩
      · obtain ⟨w1, w2, w3, w4⟩ := v_come2 v1 v2 hk
        refine ⟨w1, ?_, fun c d y hy => hq2 c d y (by rwa [WL_same w2] at hy)⟩
        have hh : hsum K (comeF (wayF t a b r) b x) = fun w => hsum K t w + if w = x.who then 1 - (if t.here b x.who then 1 else 0) else 0 := by
          funext w
          unfold hsum
          rw [w3]
          have := pc_here (K := K) (t := wayF t a b r) hb (t.here b x.who) true rfl w
          rw [this]
          rfl
        have h1 := sumUp_one (n := m) (a := x.who) (f := fun w => ((V w).length : Int) - 2 + hsum K (comeF (wayF t a b r) b x) w) (g := fun w => ((V w).length : Int) - 2 + hsum K t w) v2.who fun i _ hi => by rw [hh]; simp only [if_neg hi]; omega
        unfold cost
        rw [h1, TI_same w2, t1, hh]
        simp only [if_true]
        split <;> omega
      · obtain ⟨w1, w2, w3, w4⟩ := v_come3 v1 v2 hk
        refine ⟨w1, ?_, fun c d y hy => hq2 c d y (by rwa [WL_same w2] at hy)⟩
        rw [cost_same (t := wayF t a b r) w3, TI_same w2, c1]
        omega
  exact ⟨iA, iP, hvc.1, by have := h.C; omega, h.Q1, hvc.2.2⟩
theorem bun_do {K k : Nat} {t : Nw} (h : Bun K m k V t) {d : GMove_Deed} (hd : DdR K m d) : ∃ V', Bun K m (k + 1) V' (deedF K t d) := by
  have c1 : d.Kind = 1 → d.From.toNat < K := fun _ => by have := hd.frl; have := hd.frm; omega
  have c2 : d.Kind ≠ 1 → d.Kind ≠ 2 → d.From.toNat < K := fun _ _ => by have := hd.frl; have := hd.frm; omega
  have c3 : d.To.toNat < K := by have := hd.to_; omega
  have c4 : d.Who.toNat < m := by have := hd.who; omega
  have iA := inv_do h.A (kd := d.Kind) (nn := d.N) (by omega) c1 c2 c3 c4
  have iP := pc_do h.A h.P (kd := d.Kind) (nn := d.N) (by omega) c1 c2 c3 c4
  have hC := h.C
  by_cases h1 : d.Kind = 1
  · have e : deedF K t d = putF t d.From.toNat d.Who.toNat d.N := by unfold deedF doF; rw [if_pos h1]
    rw [show doF K t d.Kind d.From.toNat d.To.toNat d.Who.toNat d.N = putF t d.From.toNat d.Who.toNat d.N from e] at iA iP
    rw [e]
    have v0 : InvV m V (seqF t d.From.toNat d.Who.toNat) := ⟨h.I.ne, h.I.sn, h.I.up, h.I.hr, fun c d p hp => (h.I.it c d p hp).cg (by rfl), h.I.wt, h.I.loop⟩
    refine ⟨V, iA, iP, v_letter v0 rfl c4 (by omega), ?_, h.Q1, fun c2 d2 y hy => ?_⟩
    rotate_left
    · have hp := hd.put h1
      rcases letter_mem hy with hy | ⟨rfl, ⟨rfl, hy3⟩ | ⟨rfl, rfl⟩⟩
      · exact h.Q2 c2 d2 y hy
      · refine ⟨by omega, ?_, fun e => by rw [hy3] at e; simp at e⟩
        show 1 ≤ d.From.toNat
        omega
      · refine ⟨by omega, h.Q1 _ c4 _ (List.mem_of_getElem? (h.I.sn _ _ c4)), fun _ => ?_⟩
        show 1 ≤ d.From.toNat
        omega
    unfold putF
    have t2 := TI_letter (K := K) (t := seqF t d.From.toNat d.Who.toNat) (a := d.From.toNat) (x := ⟨1, d.Who.toNat, d.From.toNat, t.sq d.From.toNat d.Who.toNat, d.N, 0, 0⟩) (c1 h1) (c1 h1) (h.A.sn _ _)
    rw [if_pos rfl, TI_same (t := t) (t' := seqF t d.From.toNat d.Who.toNat) rfl] at t2
    have t3 := cost_same (K := K) (m := m) (V := V) (t := t) (letter_shape (seqF t d.From.toNat d.Who.toNat) d.From.toNat ⟨1, d.Who.toNat, d.From.toNat, t.sq d.From.toNat d.Who.toNat, d.N, 0, 0⟩).1
    omega
  by_cases h2 : d.Kind = 2
  · have e : deedF K t d = goF K t d.To.toNat d.Who.toNat := by unfold deedF doF; rw [if_neg h1, if_pos h2]
    rw [show doF K t d.Kind d.From.toNat d.To.toNat d.Who.toNat d.N = goF K t d.To.toNat d.Who.toNat from e] at iA iP
    rw [e]
    cases hf : (List.range K).find? fun i => decide (i ≠ d.To.toNat) && t.here i d.Who.toNat with
    | none =>
      have e2 : goF K t d.To.toNat d.Who.toNat = t := by unfold goF; rw [hf]
      rw [e2] at iA iP ⊢
      exact ⟨V, iA, iP, h.I, by omega, h.Q1, h.Q2⟩
    | some i =>
      have e2 : goF K t d.To.toNat d.Who.toNat = moveF t i d.Who.toNat d.To.toNat := by unfold goF; rw [hf]
      rw [e2] at iA iP ⊢
      have hiK : i < K := List.mem_range.1 (List.mem_of_find?_eq_some hf)
      have hh : (decide (i ≠ d.To.toNat) && t.here i d.Who.toNat) = true := List.find?_some (p := fun i => decide (i ≠ d.To.toNat) && t.here i d.Who.toNat) hf
      rw [Bool.and_eq_true] at hh
      have hib := of_decide_eq_true hh.1
      have hb1 : 1 ≤ d.To.toNat := by have := hd.shift h2; omega
      generalize d.Who.toNat = w at *
      generalize d.To.toNat = b at *
      have hno : ∀ c d, ∀ x ∈ WL t c d, x.kind = 2 → x.who ≠ w := fun c d x hx hk hw => by
        obtain ⟨q, hq, hxq⟩ := WL_es hx
        have g1 := cw_pos (p := isA w) hq hxq (by simp [isA, hk, hw])
        have g2 := h.P w c4
        have g3 := (sumUp_ge (n := K) (f := fun i => if t.here i w then (1 : Int) else 0) fun i _ => by split <;> decide).2 i hiK
        simp only [hh.2, if_true] at g3
        unfold pc at g2
        omega
      refine ⟨_, iA, iP, v_move h.I c4 hh.2 hib hno, ?_, fun v hv u hu => ?_, fun c d x hx => ?_⟩
      rotate_left
      · by_cases e : v = w
        · rw [e, fupd_eq] at hu
          rcases List.mem_append.1 hu with hu | hu
          · exact h.Q1 w c4 u hu
          · rw [List.mem_singleton.1 hu]; exact hb1
        · rw [fupd_ne e] at hu
          exact h.Q1 v hv u hu
      · rw [WL_add (t := t) (t' := moveF t i w b) rfl] at hx
        split at hx
        · rename_i hcd
          obtain ⟨rfl, rfl⟩ := hcd
          rcases List.mem_append.1 hx with hx | hx
          · exact h.Q2 _ _ x hx
          · refine ⟨?_, hb1, fun e => by rw [List.mem_singleton.1 hx] at e; simp at e⟩
            obtain ⟨h1, h2⟩ := h.I.hr c w c4 hh.2
            have := h.I.sn c w c4
            rw [h1] at this
            exact h.Q1 w c4 _ (List.mem_of_getElem? this)
        · exact h.Q2 c d x hx
      have hs : ∀ v, hsum K (moveF t i w b) v = hsum K t v + if v = w then -1 else 0 := fun v => by
        unfold hsum
        have := pc_here (K := K) (t := t) hiK true false hh.2 v
        show sumUp K (fun j => if (fupd t.here i (fupd (t.here i) w false)) j v then 1 else 0) = _
        rw [this]
        rfl
      have g1 := sumUp_one (n := m) (a := w) (f := fun v => ((fupd V w (V w ++ [b]) v).length : Int) - 2 + hsum K (moveF t i w b) v) (g := fun v => ((V v).length : Int) - 2 + hsum K t v) c4 fun v _ hv => by
        rw [hs, fupd_ne hv, if_neg hv]; omega
      unfold cost at hC ⊢
      rw [g1, TI_add (t := t) (a := i) (b := b) hiK c3 rfl, hs, fupd_eq, if_pos rfl, List.length_append, List.length_singleton]
      omega
  · have e : deedF K t d = nextF t d.From.toNat d.To.toNat := by unfold deedF doF; rw [if_neg h1, if_neg h2]
    rw [e]
    exact ⟨V, bun_come h (by omega) (c2 h1 h2) c3 (by omega)⟩
theorem bun_run {K : Nat} : ∀ (ds : List GMove_Deed) (k : Nat) (V : Nat → List Nat) (t : Nw), Bun K m k V t → (∀ d ∈ ds, DdR K m d) → ∃ V', Bun K m (k + ds.length) V' (runN K t ds)
  | [], k, V, t, h, _ => ⟨V, h⟩
  | d :: ds, k, V, t, h, hd => by
    obtain ⟨V1, h1⟩ := bun_do h (hd d (by simp))
    obtain ⟨V2, h2⟩ := bun_run ds (k + 1) V1 _ h1 fun x hx => hd x (by simp [hx])
    refine ⟨V2, ?_⟩
    rw [show k + (d :: ds).length = k + 1 + ds.length by simp only [List.length_cons]; omega]
    exact h2
theorem bun_start {n : Nat} {at_ : List Int} (h : AtOk n at_) : Bun (n + 1) at_.length 0 (fun w => [whF at_ w]) (startF at_) := by
  obtain ⟨i0, p0⟩ := start_inv h
  have hw : ∀ a b, WL (startF at_) a b = [] := fun a b => by simp [WL, startF, ct0, Ct.abs, gmap, GM.nil, GM.get]
  refine ⟨i0, p0, ⟨fun w hw => by simp, fun i w hw => ?_, fun w s v hw hs hl => ?_, fun i w hw hh => ?_, fun a b p hp => by rw [hw] at hp; simp [mk] at hp, fun i y hy => by simp [startF, ct0, Ct.abs, RW.nil] at hy, fun a => hw a a⟩, ?_, fun w hw2 v hv => ?_, fun a b x hx => by rw [hw] at hx; simp at hx⟩
  · show [whF at_ w][0]? = some (if w < at_.length then whF at_ w else 0)
    rw [if_pos hw]; rfl
  · simp at hl
  · have hh : (decide (w < at_.length) && decide (whF at_ w = i)) = true := hh
    rw [Bool.and_eq_true] at hh
    refine ⟨?_, rfl⟩
    show (if w < at_.length then whF at_ w else 0) = i
    rw [if_pos hw]
    exact of_decide_eq_true hh.2
  · have hT : TI (n + 1) (startF at_) = 0 := by
      unfold TI
      simp only [hw]
      have : ∀ k, sumUp k (fun _ => sumUp (n + 1) fun _ => ((([] : List It).length : Nat) : Int)) = 0 := fun k => by
        have h0 : ∀ j, sumUp j (fun _ => ((([] : List It).length : Nat) : Int)) = 0 := fun j => by
          have := sumUp_bound (n := j) (f := fun _ => ((([] : List It).length : Nat) : Int)) (B := 0) fun _ _ => ⟨by simp, by simp⟩
          omega
        have := sumUp_bound (n := k) (f := fun _ => sumUp (n + 1) fun _ => ((([] : List It).length : Nat) : Int)) (B := 0) fun _ _ => by rw [h0]; exact ⟨Int.le_refl _, Int.le_refl _⟩
        omega
      exact this (n + 1)
    have hs : ∀ w, w < at_.length → hsum (n + 1) (startF at_) w = 1 := fun w hw2 => by
      have g1 := p0 w hw2
      have g2 : cw (isA w) (startF at_).ways = 0 := rfl
      unfold pc at g1
      unfold hsum
      omega
    have := sumUp_bound (n := at_.length) (f := fun w => (([whF at_ w].length : Nat) : Int) - 2 + hsum (n + 1) (startF at_) w) (B := 0) fun w hw2 => by
      rw [hs w hw2]; simp
    unfold cost
    rw [hT]
    show (0 : Int) + 2 * sumUp at_.length (fun w => (([whF at_ w].length : Nat) : Int) - 2 + hsum (n + 1) (startF at_) w) ≤ ((0 : Nat) : Int)
    omega
  · rw [List.mem_singleton.1 hv]
    exact (at_get h hw2).2.1
end Go.Hw.VM

