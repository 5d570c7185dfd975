import Derived.Test.YtonoaimefgodfaaHwMoW
set_option linter.unusedVariables false
set_option linter.unusedSimpArgs false
namespace Go.Hw.VM
open Go Go.Proofs
variable {K m k : Nat} {V : Nat → List Nat} {t : Nw} {a b : Nat} {x : It} {r : List It}

def Fw (t : Nw) (b : Nat) (x : It) : Prop := x.kind = 1 ∧ t.here b x.who = false ∧ t.sn b x.who ≠ b
structure Out (m : Nat) (t : Nw) (a b : Nat) (x : It) (r : List It) (t' : Nw) : Prop where
  st : ∀ i w, w < m → t.st i w ≤ t'.st i w
  here : ∀ i w, t.here i w = true → t'.here i w = true
  k2 : x.kind = 2 → t'.here b x.who = true
  ways : t'.ways = (wayF t a b r).ways ∨ Fw t b x ∧ ∃ t1 : Nw, (t1.ways = (wayF t a b r).ways ∨ ∃ y, y.kind = 3 ∧ t1.ways = wadd (wayF t a b r).ways ((b : Int), (x.frm : Int)) y) ∧ t'.ways = wadd t1.ways ((b : Int), (t.sn b x.who : Int)) x
theorem come_out (h : Bun K m k V t) (hg : WL t a b = x :: r) : Out m t a b x r (nextF t a b) ∧ ∃ q ∈ t.ways.es, x ∈ q.2.2 := by
  refine ⟨?_, WL_es (t := t) (a := a) (b := b) (x := x) (by rw [hg]; simp)⟩
  rw [nextF_cons hg]
  obtain ⟨v1, v2⟩ := v_way h.I hg
  rcases v2.kind with hk | hk | hk
  · have e1 : comeF (wayF t a b r) b x = letterF (wayF t a b r) b x := by unfold comeF; rw [if_pos hk]
    rw [e1]
    obtain ⟨h1, h2, h3, h4⟩ := letter_shape (wayF t a b r) b x
    refine ⟨fun i w _ => by rw [h3]; exact Nat.le_refl _, fun i w hh => by rw [h1]; exact hh, fun e => by rw [hk] at e; simp at e, ?_⟩
    rcases h4 with ⟨h4, _⟩ | ⟨h5, h6, h4⟩
    · exact .inl h4
    · refine .inr ⟨⟨hk, h5, h6⟩, ?_⟩
      by_cases hf : x.frm = b
      · rw [if_neg (by omega)] at h4
        exact ⟨wayF t a b r, .inl rfl, h4⟩
      · rw [if_pos hf] at h4
        exact ⟨{ t with ways := wadd (wayF t a b r).ways ((b : Int), (x.frm : Int)) (noteF (wayF t a b r) b x) }, .inr ⟨_, rfl, rfl⟩, h4⟩
  · obtain ⟨w1, w2, w3, w4⟩ := v_come2 v1 v2 hk
    refine ⟨w4, fun i w hh => ?_, fun _ => ?_, .inl w2⟩
    · rw [w3, eq_stB]
      split
      · rfl
      · exact hh
    · rw [w3, eq_stB, if_pos ⟨rfl, rfl⟩]
  · obtain ⟨w1, w2, w3, w4⟩ := v_come3 v1 v2 hk
    exact ⟨w4, fun i w hh => by rw [w3]; exact hh, fun e => by rw [hk] at e; simp at e, .inl w2⟩
theorem out_mem {t' : Nw} (o : Out m t a b x r t') {c d : Nat} {p : Bool × It} (hp : p ∈ mk (WL t' c d)) :
    p ∈ mk (WL (wayF t a b r) c d) ∨ (Fw t b x ∧ c = b ∧ ((d = x.frm ∧ p.2.kind = 3) ∨ (d = t.sn b x.who ∧ p = (false, x)))) := by
  have e1 : ∀ {t1 t2 : Nw} {d0 : Nat} {z : It}, z.kind ≠ 2 → t2.ways = wadd t1.ways ((b : Int), (d0 : Int)) z → p ∈ mk (WL t2 c d) → p ∈ mk (WL t1 c d) ∨ (c = b ∧ d = d0 ∧ p = (false, z)) := fun hz e hy => by
    rw [WL_add e] at hy
    split at hy
    · rename_i hcd
      rw [mk_app' hz] at hy
      rcases List.mem_append.1 hy with hy | hy
      · exact .inl hy
      · exact .inr ⟨hcd.1, hcd.2, List.mem_singleton.1 hy⟩
    · exact .inl hy
  rcases o.ways with h | ⟨hf, t1, h1, h2⟩
  · rw [WL_same h] at hp; exact .inl hp
  · rcases e1 (by rw [hf.1]; decide) h2 hp with hp | ⟨q1, q2, q3⟩
    · rcases h1 with h1 | ⟨y, hy, h1⟩
      · rw [WL_same h1] at hp; exact .inl hp
      · rcases e1 (by rw [hy]; decide) h1 hp with hp | ⟨q1, q2, q3⟩
        · exact .inl hp
        · exact .inr ⟨hf, q1, .inl ⟨q2, by rw [q3]; exact hy⟩⟩
    · exact .inr ⟨hf, q1, .inr ⟨q2, q3⟩⟩
theorem out_pre {t' : Nw} (o : Out m t a b x r t') (c d : Nat) : ∃ l, WL t' c d = WL (wayF t a b r) c d ++ l ∧ (c ≠ b → l = []) := by
  have e1 : ∀ {t1 t2 : Nw} {d0 : Nat} {z : It}, t2.ways = wadd t1.ways ((b : Int), (d0 : Int)) z → ∃ l, WL t2 c d = WL t1 c d ++ l ∧ (c ≠ b → l = []) := fun {t1 t2 d0 z} e => by
    rw [WL_add e]
    split
    · rename_i hcd
      exact ⟨[z], rfl, fun e => absurd hcd.1 e⟩
    · exact ⟨[], by simp, fun _ => rfl⟩
  rcases o.ways with h | ⟨hf, t1, h1, h2⟩
  · exact ⟨[], by rw [WL_same h]; simp, fun _ => rfl⟩
  · obtain ⟨l2, q2, p2⟩ := e1 h2
    rcases h1 with h1 | ⟨y, hy, h1⟩
    · rw [WL_same h1] at q2; exact ⟨l2, q2, p2⟩
    · obtain ⟨l1, q1, p1⟩ := e1 h1
      exact ⟨l1 ++ l2, by rw [q2, q1, List.append_assoc], fun e => by rw [p1 e, p2 e]; rfl⟩
theorem out_self {t' : Nw} (o : Out m t a b x r t') (hab : a ≠ b) : WL t' a b = r := by
  obtain ⟨l, h1, h2⟩ := out_pre o a b
  rw [h1, h2 hab, WL_way, if_pos ⟨rfl, rfl⟩, List.append_nil]

def PS (K : Nat) (f : Nat → Nat → Bool × It → Int) (t : Nw) : Int := S2 K fun a b => ((mk (WL t a b)).map (f a b)).sum
theorem PS_way (f : Nat → Nat → Bool × It → Int) (ha : a < K) (hb : b < K) (hg : WL t a b = x :: r) : PS K f (wayF t a b r) = PS K f t - f a b (r.any (isA x.who), x) := by
  unfold PS
  rw [S2_one (F := fun c d => ((mk (WL (wayF t a b r) c d)).map (f c d)).sum) (G := fun c d => ((mk (WL t c d)).map (f c d)).sum) ha hb fun c d _ _ hcd => by simp only [WL_way, if_neg hcd]]
  simp only [WL_way, hg, and_self, if_true, mk, List.map_cons, List.sum_cons]
  omega
theorem PS_add (f : Nat → Nat → Bool × It → Int) {t' : Nw} {y : It} (ha : a < K) (hb : b < K) (hy : y.kind ≠ 2) (h : t'.ways = wadd t.ways ((a : Int), (b : Int)) y) : PS K f t' = PS K f t + f a b (false, y) := by
  unfold PS
  rw [S2_one (F := fun c d => ((mk (WL t' c d)).map (f c d)).sum) (G := fun c d => ((mk (WL t c d)).map (f c d)).sum) ha hb fun c d _ _ hcd => by simp only [WL_add h, if_neg hcd]]
  simp only [WL_add h, and_self, if_true, mk_app' hy, List.map_append, List.sum_append, List.map_cons, List.map_nil, List.sum_cons, List.sum_nil]
  omega
theorem PS_same (f : Nat → Nat → Bool × It → Int) {t' : Nw} (h : t'.ways = t.ways) : PS K f t' = PS K f t := by
  unfold PS; simp only [WL_same h]
theorem lsum_mono {A : Type} {f g : A → Int} : ∀ {l : List A}, (∀ p ∈ l, f p ≤ g p) → (l.map f).sum ≤ (l.map g).sum
  | [], _ => Int.le_refl _
  | p :: l, h => by
    have := lsum_mono (l := l) fun q hq => h q (by simp [hq])
    have := h p (by simp)
    simp only [List.map_cons, List.sum_cons]
    omega
theorem PS_mono {f g : Nat → Nat → Bool × It → Int} (h : ∀ a b, ∀ p ∈ mk (WL t a b), f a b p ≤ g a b p) : PS K f t ≤ PS K g t :=
  S2_mono fun c d _ _ => lsum_mono (h c d)
theorem out_sum {t' : Nw} (o : Out m t a b x r t') (f : Nat → Nat → Bool × It → Int) (hb : b < K) (hf : x.frm < K) (hs : t.sn b x.who < K) (h3 : ∀ c d (p : Bool × It), p.2.kind = 3 → 0 ≤ f c d p ∧ f c d p ≤ 1) :
    PS K f t' ≤ PS K f (wayF t a b r) ∨ (Fw t b x ∧ PS K f t' ≤ PS K f (wayF t a b r) + 1 + f b (t.sn b x.who) (false, x)) := by
  rcases o.ways with h | ⟨hfw, t1, h1, h2⟩
  · left; rw [PS_same f h]; exact Int.le_refl _
  · right
    refine ⟨hfw, ?_⟩
    rw [PS_add f hb hs (by rw [hfw.1]; decide) h2]
    rcases h1 with h1 | ⟨y, hy, h1⟩
    · rw [PS_same f h1]; omega
    · rw [PS_add (t := wayF t a b r) f hb hf (by rw [hy]; decide) h1]
      have := (h3 b x.frm (false, y) hy).2
      omega

def rk (V : Nat → List Nat) (t : Nw) (a b : Nat) (p : Bool × It) : Nat :=
  if (V p.2.who)[(V p.2.who).length - 1]? = some b ∧ (t.st b p.2.who + 1 = (V p.2.who).length ∨ (p.1 = false ∧ (V p.2.who)[(V p.2.who).length - 2]? = some a)) then 0 else (V p.2.who).length - t.st b p.2.who
def GI (V : Nat → List Nat) (t : Nw) (a b : Nat) (p : Bool × It) : Prop :=
  (∃ i, t.here i p.2.who = true) ∨ ((V p.2.who)[(V p.2.who).length - 1]? = some b ∧ ((V p.2.who).length ≤ t.st b p.2.who + 2 ∨ (p.1 = false ∧ (V p.2.who)[(V p.2.who).length - 2]? = some a))) ∨ (V p.2.who)[(V p.2.who).length - 2]? = some b
theorem rk_mono {t' : Nw} (h1 : ∀ i w, w < m → t.st i w ≤ t'.st i w) (h2 : ∀ i w, w < m → t'.st i w < (V w).length) {p : Bool × It} (hp : p.2.who < m) (a b : Nat) : rk V t' a b p ≤ rk V t a b p := by
  have g1 := h1 b _ hp
  have g2 := h2 b _ hp
  unfold rk
  by_cases c : (V p.2.who)[(V p.2.who).length - 1]? = some b ∧ (t.st b p.2.who + 1 = (V p.2.who).length ∨ (p.1 = false ∧ (V p.2.who)[(V p.2.who).length - 2]? = some a))
  · rw [if_pos c, if_pos]
    · exact Nat.le_refl _
    · refine ⟨c.1, ?_⟩
      rcases c.2 with c | c
      · left; omega
      · exact .inr c
  · rw [if_neg c]
    split <;> omega
theorem GI_mono {t' : Nw} (h1 : ∀ i w, w < m → t.st i w ≤ t'.st i w) (h2 : ∀ i w, t.here i w = true → t'.here i w = true) {p : Bool × It} (hp : p.2.who < m) (h : GI V t a b p) : GI V t' a b p := by
  rcases h with ⟨i, h⟩ | ⟨h, g⟩ | h
  · exact .inl ⟨i, h2 _ _ h⟩
  · refine .inr (.inl ⟨h, ?_⟩)
    rcases g with g | g
    · left
      have := h1 b _ hp
      omega
    · exact .inr g
  · exact .inr (.inr h)
theorem es_WL {K m k : Nat} {c : Int} (h : InvA K m k c t) {q : Nat × Key × List It} (hq : q ∈ t.ways.es) : ∃ a b : Nat, a < K ∧ b < K ∧ q.2.1 = ((a : Int), (b : Int)) ∧ WL t a b = q.2.2 := by
  obtain ⟨a, b, ha, hb, e⟩ := h.wk.keys q hq
  refine ⟨a, b, ha, hb, e, ?_⟩
  have := GM.mem_get h.wk.wf hq
  unfold WL
  rw [← e, this]
  rfl
theorem transit (h : Bun K m k V t) {w : Nat} (hw : w < m) : (∃ i, i < K ∧ t.here i w = true) ∨ ∃ u d y, y ∈ WL t u d ∧ y.kind = 2 ∧ y.who = w ∧ u < K ∧ d < K ∧ (V w)[(V w).length - 1]? = some d ∧ (V w)[(V w).length - 2]? = some u ∧ t.st u w + 1 = (V w).length ∧ 2 ≤ (V w).length := by
  rcases (pl_of h.A h.P).some_ w hw with ⟨i, h1, h2⟩ | ⟨q, hq, y, hy, hk, hyw⟩
  · exact .inl ⟨i, h1, h2⟩
  · right
    obtain ⟨u, d, hu, hd, e, hWL⟩ := es_WL h.A hq
    rw [← hWL] at hy
    obtain ⟨f, hf⟩ := mk_mem hy
    subst hyw
    obtain ⟨p1, p2, p3, p4, p5, p6⟩ := (h.I.it u d _ hf).k2 hk
    dsimp only at p1 p3 p4 p5 p6
    refine ⟨u, d, y, hy, hk, rfl, hu, hd, ?_, ?_, by omega, by omega⟩
    · rw [show (V y.who).length - 1 = y.turn by omega]; exact p3
    · rw [show (V y.who).length - 2 = y.turn - 1 by omega]; exact p5
theorem rk_step (h : Bun K m k V t) (hg : WL t a b = x :: r) (hx : x.who < m) (hG : GI V t a b (r.any (isA x.who), x)) (hf : Fw t b x) :
    rk V t b (t.sn b x.who) (false, x) + 1 ≤ rk V t a b (r.any (isA x.who), x) ∧ GI V t b (t.sn b x.who) (false, x) := by
  obtain ⟨hk, hh, hs⟩ := hf
  have hsn := h.I.sn b x.who hx
  have hsl := h.I.stl hx b
  have sc := h.I.sn (t.sn b x.who) x.who hx
  have scl := h.I.stl hx (t.sn b x.who)
  -- the newest belief leads to the newest node
  have tp : ∀ i, t.st i x.who + 1 = (V x.who).length → (V x.who)[(V x.who).length - 1]? = some (t.sn i x.who) := fun i hi => h.I.top hx hi
  rcases transit h hx with ⟨i, hi, hhi⟩ | ⟨u, d, y, hy, hyk, hyw, hu, hd, t1, t2, t3, t4⟩
  · obtain ⟨g1, g2⟩ := h.I.hr i _ hx hhi
    have g3 := tp i g2
    rw [g1] at g3
    have hbi : b ≠ i := fun e => by rw [e, hhi] at hh; simp at hh
    refine ⟨?_, .inl ⟨i, hhi⟩⟩
    have e1 : rk V t a b (r.any (isA x.who), x) = (V x.who).length - t.st b x.who := by
      unfold rk
      rw [if_neg]
      rintro ⟨e, _⟩
      simp only [g3] at e
      injection e with e
      exact hbi e.symm
    rw [e1]
    by_cases hlt : t.st b x.who + 1 < (V x.who).length
    · have := h.I.next hx hlt
      unfold rk
      simp only
      split <;> omega
    · have h1 := tp b (by omega)
      rw [g3] at h1
      injection h1 with h1
      have : rk V t b (t.sn b x.who) (false, x) = 0 := by
        unfold rk
        rw [if_pos ⟨by simp only; rw [g3, h1], .inl (by simp only; rw [← h1]; exact g2)⟩]
      omega
  · -- on its way
    have hdead : (r.any (isA x.who)) = false → (V x.who)[(V x.who).length - 1]? = some b → (V x.who)[(V x.who).length - 2]? = some a → False := fun e1 e2 e3 => by
      rw [t1] at e2
      rw [t2] at e3
      injection e2 with e2
      injection e3 with e3
      rw [e2, e3, hg] at hy
      rcases List.mem_cons.1 hy with hy | hy
      · rw [hy, hk] at hyk; simp at hyk
      · have : r.any (isA x.who) = true := List.any_eq_true.2 ⟨y, hy, by simp [isA, hyk, hyw]⟩
        rw [this] at e1; simp at e1
    have hbh : ∀ i, t.st i x.who + 1 = (V x.who).length → t.sn i x.who = d := fun i hi => by
      have := tp i hi
      rw [t1] at this
      injection this with this
      exact this.symm
    rcases hG with ⟨i, hhi⟩ | ⟨hb, hG⟩ | hb
    · have hhi : t.here i x.who = true := hhi
      obtain ⟨g1, g2⟩ := h.I.hr i _ hx hhi
      have e1 := hbh i g2
      -- here and on its way: not so
      obtain ⟨q, hq, hyq⟩ := WL_es hy
      have z1 := h.P _ hx
      have z2 := cw_pos (p := isA x.who) hq hyq (by simp [isA, hyk, hyw])
      obtain ⟨f, hf⟩ := mk_mem hy
      by_cases hiK : i < K
      · have z3 := (sumUp_ge (n := K) (f := fun i => if t.here i x.who then (1 : Int) else 0) fun i _ => by split <;> decide).2 i hiK
        simp only [hhi, if_true] at z3
        unfold pc at z1
        omega
      · exact absurd (by rw [← g1]; exact h.A.sn _ _) hiK
    · simp only at hb hG
      rcases hG with hG | ⟨hG, hG2⟩
      · have hbd : d = b := by rw [t1] at hb; injection hb
        have hne : t.st b x.who + 1 ≠ (V x.who).length := fun e => hs (by rw [hbh b e]; exact hbd)
        have hsu : t.sn b x.who = u := by
          rw [show t.st b x.who = (V x.who).length - 2 by omega, t2] at hsn
          injection hsn with hsn
          exact hsn.symm
        have e1 : rk V t a b (r.any (isA x.who), x) = 2 := by
          unfold rk
          rw [if_neg]
          · simp only; omega
          · rintro ⟨_, e | ⟨e2, e3⟩⟩
            · exact hne e
            · exact hdead e2 hb e3
        have e2 : rk V t b (t.sn b x.who) (false, x) = 1 ∨ rk V t b (t.sn b x.who) (false, x) = 0 := by
          unfold rk
          rw [hsu]
          split
          · exact .inr rfl
          · left; simp only; omega
        refine ⟨by omega, .inr (.inr ?_)⟩
        simp only [hsu]
        exact t2
      · exact (hdead hG hb hG2).elim
    · simp only at hb
      have hub : u = b := by rw [t2] at hb; injection hb
      have e0 := hbh b (by rw [← hub]; exact t3)
      have e1 : rk V t a b (r.any (isA x.who), x) = 1 := by
        unfold rk
        rw [if_neg]
        · simp only; rw [← hub]; omega
        · rintro ⟨e, _⟩
          simp only [t1] at e
          injection e with e
          exact hs (by rw [e0]; exact e)
      have e2 : rk V t b (t.sn b x.who) (false, x) = 0 := by
        unfold rk
        rw [if_pos]
        refine ⟨?_, .inr ⟨rfl, ?_⟩⟩
        · simp only [e0]; exact t1
        · exact hb
      refine ⟨by omega, .inr (.inl ⟨?_, .inr ⟨rfl, hb⟩⟩)⟩
      simp only [e0]
      exact t1
end Go.Hw.VM

