import Derived.Test.YtonoaimefgodfaaHwMoU
set_option linter.unusedVariables false
set_option linter.unusedSimpArgs false
namespace Go.Hw.VM
open Go Go.Proofs
variable {m : Nat} {V : Nat → List Nat}

theorem InvV.chg {t t' : Nw} (h : InvV m V t) (hst : ∀ i w, w < m → t.st i w ≤ t'.st i w) (hsn : ∀ i w : Nat, w < m → (V w)[t'.st i w]? = some (t'.sn i w))
    (hhr : ∀ i w, w < m → t'.here i w = true → t'.sn i w = i ∧ t'.st i w + 1 = (V w).length) (hes : t'.ways = t.ways)
    (hwt : ∀ i, ∀ y ∈ t'.waits i, y.who < m ∧ y.kind = 1 ∧ t'.st i y.who + 1 = (V y.who).length ∧ t'.sn i y.who = i ∧ t'.here i y.who = false) : InvV m V t' :=
  ⟨h.ne, hsn, fun w s v hw hs hl => Nat.lt_of_lt_of_le (h.up w s v hw hs hl) (hst v w hw), hhr, fun a b p hp => (h.it a b p (by rw [WL_same hes] at hp; exact hp)).mono hst (fun i w hw => lt_of_get (hsn i w hw)), hwt, fun a => by rw [WL_same hes]; exact h.loop a⟩
theorem v_way {t : Nw} (h : InvV m V t) {a b : Nat} {x : It} {r : List It} (hg : WL t a b = x :: r) : InvV m V (wayF t a b r) ∧ ItV m V (wayF t a b r) a b (r.any (isA x.who)) x := by
  have h0 := fun p hp => h.it a b p (hg ▸ hp)
  refine ⟨⟨h.ne, h.sn, h.up, h.hr, fun c d p hp => ?_, h.wt, fun c => ?_⟩, (h0 (r.any (isA x.who), x) (by simp [mk])).cg (by rfl)⟩
  · rw [WL_way] at hp
    split at hp
    · rename_i hcd
      obtain ⟨rfl, rfl⟩ := hcd
      exact (h0 p (by simp [mk, hp])).cg (by rfl)
    · exact (h.it c d p hp).cg (by rfl)
  · rw [WL_way]
    split
    · rename_i hcd
      have := h.loop c
      rw [hcd.1] at hcd
      have : WL t a b = [] := by rw [← hcd.1, ← hcd.2] at *; rw [← hcd.1]; exact h.loop _
      rw [hg] at this
      simp at this
    · exact h.loop c
theorem eq_st {f : Nat → Nat → Nat} {a w v i u : Nat} : fupd f a (fupd (f a) w v) i u = if i = a ∧ u = w then v else f i u := by
  by_cases h1 : i = a
  · subst h1
    rw [fupd_eq]
    by_cases h2 : u = w
    · subst h2; rw [fupd_eq, if_pos ⟨rfl, rfl⟩]
    · rw [fupd_ne h2, if_neg (fun e => h2 e.2)]
  · rw [fupd_ne h1, if_neg (fun e => h1 e.1)]
theorem eq_stB {f : Nat → Nat → Bool} {a w i u : Nat} {v : Bool} : fupd f a (fupd (f a) w v) i u = if i = a ∧ u = w then v else f i u := by
  by_cases h1 : i = a
  · subst h1
    rw [fupd_eq]
    by_cases h2 : u = w
    · subst h2; rw [fupd_eq, if_pos ⟨rfl, rfl⟩]
    · rw [fupd_ne h2, if_neg (fun e => h2 e.2)]
  · rw [fupd_ne h1, if_neg (fun e => h1 e.1)]
theorem v_come3 {t : Nw} (h : InvV m V t) {c a : Nat} {e : Bool} {x : It} (hx : ItV m V t c a e x) (hk : x.kind = 3) :
    InvV m V (comeF t a x) ∧ (comeF t a x).ways = t.ways ∧ (comeF t a x).here = t.here ∧ ∀ i w, w < m → t.st i w ≤ (comeF t a x).st i w := by
  have e0 : comeF t a x = learnF t a x := by unfold comeF; rw [if_neg (by rw [hk]; decide), if_pos hk]
  rw [e0]
  unfold learnF
  split
  · exact ⟨h, rfl, rfl, fun _ _ _ => Nat.le_refl _⟩
  rename_i hn
  have hV := hx.k3 hk
  have hlt := lt_of_get hV
  have hw : ∀ y ∈ t.waits a, y.who ≠ x.who := fun y hy e => by
    have := (h.wt a y hy).2.2.1
    rw [e] at this
    omega
  obtain ⟨s, w⟩ := all_sv (t := knowF t a x) (a := a) fun y hy => .inr (by
    show fupd t.sn a (fupd (t.sn a) x.who x.node) a y.who = a
    rw [eq_st, if_neg (fun e => hw y hy e.2)]
    exact (h.wt a y hy).2.2.2.1)
  have hst : (allF (knowF t a x) a).st = fupd t.st a (fupd (t.st a) x.who x.turn) := s.st
  have hsn : (allF (knowF t a x) a).sn = fupd t.sn a (fupd (t.sn a) x.who x.node) := s.sn
  have hhr : (allF (knowF t a x) a).here = t.here := s.here
  have hws : ∀ i, ∀ y ∈ (allF (knowF t a x) a).waits i, y ∈ t.waits i := fun i y hy => by
    rw [w] at hy
    unfold fupd at hy
    split at hy
    · rename_i hi
      subst hi
      exact (List.mem_filter.1 hy).1
    · exact hy
  have hmono : ∀ i w, w < m → t.st i w ≤ (allF (knowF t a x) a).st i w := fun i w _ => by
    rw [hst, eq_st]
    split
    · rename_i e; rw [e.1, e.2]; omega
    · exact Nat.le_refl _
  refine ⟨h.chg hmono (fun i w hw2 => ?_) (fun i w hw2 hh => ?_) s.ways (fun i y hy => ?_), s.ways, hhr, hmono⟩
  · rw [hst, hsn, eq_st, eq_st]
    by_cases e : i = a ∧ w = x.who
    · rw [if_pos e, if_pos e, e.2]; exact hV
    · rw [if_neg e, if_neg e]; exact h.sn i w hw2
  · rw [hhr] at hh
    obtain ⟨h1, h2⟩ := h.hr i w hw2 hh
    rw [hst, hsn, eq_st, eq_st]
    by_cases e : i = a ∧ w = x.who
    · rw [e.1, e.2] at h2
      have := hx.who
      omega
    · rw [if_neg e, if_neg e]; exact ⟨h1, h2⟩
  · obtain ⟨p1, p2, p3, p4, p5⟩ := h.wt i y (hws i y hy)
    have e : ¬ (i = a ∧ y.who = x.who) := fun e => by
      obtain ⟨rfl, e⟩ := e
      exact hw y (hws _ y hy) e
    rw [hst, hsn, hhr, eq_st, eq_st, if_neg e, if_neg e]
    exact ⟨p1, p2, p3, p4, p5⟩
theorem v_come2 {t : Nw} (h : InvV m V t) {c a : Nat} {e : Bool} {x : It} (hx : ItV m V t c a e x) (hk : x.kind = 2) :
    InvV m V (comeF t a x) ∧ (comeF t a x).ways = t.ways ∧ (comeF t a x).here = fupd t.here a (fupd (t.here a) x.who true) ∧ ∀ i w, w < m → t.st i w ≤ (comeF t a x).st i w := by
  have e0 : comeF t a x = allF (learnF (hereF t a x.who true) a x) a := by unfold comeF; rw [if_neg (by rw [hk]; decide), if_neg (by rw [hk]; decide), if_pos hk]
  rw [e0]
  obtain ⟨q1, q2, q3, q4, q5, q6⟩ := hx.k2 hk
  have hwho := hx.who
  have hsl := h.stl hwho a
  -- what is learnt
  have key : (learnF (hereF t a x.who true) a x).here = fupd t.here a (fupd (t.here a) x.who true) ∧ (learnF (hereF t a x.who true) a x).ways = t.ways ∧ (learnF (hereF t a x.who true) a x).st = fupd t.st a (fupd (t.st a) x.who x.turn) ∧ (learnF (hereF t a x.who true) a x).sn = fupd t.sn a (fupd (t.sn a) x.who a) ∧ ∀ i, ∀ y ∈ (learnF (hereF t a x.who true) a x).waits i, y ∈ t.waits i := by
    unfold learnF
    split
    · rename_i hle
      have hle : x.turn ≤ t.st a x.who := hle
      have h1 : t.st a x.who = x.turn := by omega
      have h2 : t.sn a x.who = a := by
        have := h.sn a x.who hwho
        rw [h1, q3] at this
        injection this with this
        exact this.symm
      refine ⟨rfl, rfl, ?_, ?_, fun i y hy => hy⟩
      · have : fupd (t.st a) x.who x.turn = t.st a := by rw [← h1, fupd_self]
        rw [this, fupd_self]; rfl
      · have : fupd (t.sn a) x.who (t.sn a x.who) = t.sn a := fupd_self _ _
        rw [h2] at this
        rw [this, fupd_self]; rfl
    · rename_i hn
      have hn : ¬ x.turn ≤ t.st a x.who := hn
      have hw : ∀ y ∈ t.waits a, y.who ≠ x.who := fun y hy e => by
        have := (h.wt a y hy).2.2.1
        rw [e] at this
        omega
      obtain ⟨s, w⟩ := all_sv (t := knowF (hereF t a x.who true) a x) (a := a) fun y hy => .inr (by
        show fupd t.sn a (fupd (t.sn a) x.who x.node) a y.who = a
        rw [eq_st, if_neg (fun e => hw y hy e.2)]
        exact (h.wt a y hy).2.2.2.1)
      refine ⟨s.here, s.ways, s.st, by rw [s.sn, ← q2]; rfl, fun i y hy => ?_⟩
      rw [w] at hy
      unfold fupd at hy
      split at hy
      · rename_i hi
        subst hi
        exact (List.mem_filter.1 hy).1
      · exact hy
  generalize learnF (hereF t a x.who true) a x = t2 at key
  obtain ⟨k1, k2, k3, k4, k5⟩ := key
  obtain ⟨s, w⟩ := all_sv (t := t2) (a := a) fun y hy => by
    by_cases e : y.who = x.who
    · left; rw [k1, eq_stB, if_pos ⟨rfl, e⟩]
    · right; rw [k4, eq_st, if_neg (fun e2 => e e2.2)]; exact (h.wt a y (k5 a y hy)).2.2.2.1
  have hst : (allF t2 a).st = fupd t.st a (fupd (t.st a) x.who x.turn) := s.st.trans k3
  have hsn : (allF t2 a).sn = fupd t.sn a (fupd (t.sn a) x.who a) := s.sn.trans k4
  have hhr : (allF t2 a).here = fupd t.here a (fupd (t.here a) x.who true) := s.here.trans k1
  have hmono : ∀ i w, w < m → t.st i w ≤ (allF t2 a).st i w := fun i w _ => by
    rw [hst, eq_st]
    split
    · rename_i e; rw [e.1, e.2]; omega
    · exact Nat.le_refl _
  have hwy : ∀ i, ∀ y ∈ (allF t2 a).waits i, y ∈ t.waits i ∧ y.who ≠ x.who := fun i y hy => by
    rw [w] at hy
    by_cases hi : i = a
    · subst hi
      rw [fupd_eq] at hy
      obtain ⟨p1, p2⟩ := List.mem_filter.1 hy
      refine ⟨k5 _ y p1, fun e => ?_⟩
      rw [k1, eq_stB, if_pos ⟨rfl, e⟩] at p2
      simp at p2
    · rw [fupd_ne hi] at hy
      refine ⟨k5 i y hy, fun e => ?_⟩
      obtain ⟨p1, p2, p3, p4, p5⟩ := h.wt i y (k5 i y hy)
      rw [e] at p3 p4
      have := h.sn i x.who hwho
      rw [p4, show t.st i x.who = x.turn by omega, q3] at this
      injection this with this
      exact hi this.symm
  refine ⟨h.chg hmono (fun i w hw2 => ?_) (fun i w hw2 hh => ?_) (s.ways.trans k2) (fun i y hy => ?_), s.ways.trans k2, hhr, hmono⟩
  · rw [hst, hsn, eq_st, eq_st]
    by_cases e : i = a ∧ w = x.who
    · rw [if_pos e, if_pos e, e.2]; exact q3
    · rw [if_neg e, if_neg e]; exact h.sn i w hw2
  · rw [hhr, eq_stB] at hh
    rw [hst, hsn, eq_st, eq_st]
    by_cases e : i = a ∧ w = x.who
    · rw [if_pos e, if_pos e, e.2, e.1]; exact ⟨rfl, q1⟩
    · rw [if_neg e, if_neg e]
      rw [if_neg e] at hh
      exact h.hr i w hw2 hh
  · obtain ⟨h1, h2⟩ := hwy i y hy
    obtain ⟨p1, p2, p3, p4, p5⟩ := h.wt i y h1
    have e : ¬ (i = a ∧ y.who = x.who) := fun e => h2 e.2
    rw [hst, hsn, hhr, eq_st, eq_st, eq_stB, if_neg e, if_neg e, if_neg e]
    exact ⟨p1, p2, p3, p4, p5⟩
theorem v_move {t : Nw} (h : InvV m V t) {i w b : Nat} (hw : w < m) (hi : t.here i w = true) (hib : i ≠ b) (hno : ∀ c d, ∀ x ∈ WL t c d, x.kind = 2 → x.who ≠ w) : InvV m (fupd V w (V w ++ [b])) (moveF t i w b) := by
  obtain ⟨hs1, hs2⟩ := h.hr i w hw hi
  have hVt : (V w)[t.st i w]? = some i := by have := h.sn i w hw; rwa [hs1] at this
  have hst : ∀ j v, (moveF t i w b).st j v = if j = i ∧ v = w then t.st i w + 1 else t.st j v := fun j v => eq_st
  have hsn : ∀ j v, (moveF t i w b).sn j v = if j = i ∧ v = w then b else t.sn j v := fun j v => eq_st
  have hhr : ∀ j v, (moveF t i w b).here j v = if j = i ∧ v = w then false else t.here j v := fun j v => eq_stB
  have hV : ∀ v, v ≠ w → fupd V w (V w ++ [b]) v = V v := fun v hv => fupd_ne hv
  have hVw : fupd V w (V w ++ [b]) w = V w ++ [b] := fupd_eq
  have ext : ∀ (v s u : Nat), (V v)[s]? = some u → (fupd V w (V w ++ [b]) v)[s]? = some u := fun v s u e => by
    by_cases hv : v = w
    · rw [hv] at e ⊢
      rw [hVw, List.getElem?_append_left (lt_of_get e)]; exact e
    · rw [hV v hv]; exact e
  have mono : ∀ j v, t.st j v ≤ (moveF t i w b).st j v := fun j v => by
    rw [hst]
    split
    · rename_i e; rw [e.1, e.2]; omega
    · exact Nat.le_refl _
  have top : ∀ j, t.st j w + 1 = (V w).length → t.sn j w = i := fun j e => by
    have := h.sn j w hw
    rw [show t.st j w = t.st i w by omega, hVt] at this
    injection this with this
    exact this.symm
  have itm : ∀ {c d : Nat} {e e' : Bool} {x : It}, ItV m V t c d e x → (x.kind = 2 → x.who ≠ w) → (e' = true → e = true ∨ (x.who = w ∧ d ≠ i)) → ItV m (fupd V w (V w ++ [b])) (moveF t i w b) c d e' x := by
    intro c d e e' x hx h2 he
    refine ⟨hx.who, hx.kind, fun hk => ?_, fun hk => ?_, fun hk => ext _ _ _ (hx.k3 hk)⟩
    · obtain ⟨s, q1, q2⟩ := hx.k1 hk
      refine ⟨s, ext _ _ _ q1, fun e1 => ?_⟩
      rcases he e1 with e2 | ⟨e2, e3⟩
      · exact Nat.le_trans (q2 e2) (mono _ _)
      · rw [e2] at q1 ⊢
        have hl := lt_of_get q1
        by_cases hls : s + 1 < (V w).length
        · have := h.up w s d hw q1 hls
          have := mono d w
          omega
        · have : s = t.st i w := by omega
          rw [this, hVt] at q1
          injection q1 with q1
          exact absurd q1.symm e3
    · have hne := h2 hk
      obtain ⟨p1, p2, p3, p4, p5, p6⟩ := hx.k2 hk
      rw [hV _ hne, hst, if_neg (fun e => hne e.2)]
      exact ⟨p1, p2, p3, p4, p5, p6⟩
  refine ⟨fun v hv => ?_, fun j v hv => ?_, fun v s u hv hs hl => ?_, fun j v hv hh => ?_, fun c d p hp => ?_, fun j y hy => ?_, fun c => ?_⟩
  · by_cases e : v = w
    · rw [e, hVw, List.length_append]; simp
    · rw [hV v e]; exact h.ne v hv
  · rw [hst, hsn]
    by_cases e : j = i ∧ v = w
    · rw [if_pos e, if_pos e, e.2, hVw, List.getElem?_append_right (by omega), show t.st i w + 1 - (V w).length = 0 by omega]; rfl
    · rw [if_neg e, if_neg e]
      exact ext _ _ _ (h.sn j v hv)
  · by_cases e : v = w
    · rw [e] at hs hl ⊢
      rw [hVw] at hs hl
      rw [List.length_append, List.length_singleton] at hl
      rw [List.getElem?_append_left (by omega)] at hs
      by_cases hls : s + 1 < (V w).length
      · exact Nat.lt_of_lt_of_le (h.up w s u hw hs hls) (mono _ _)
      · have : s = t.st i w := by omega
        rw [this, hVt] at hs
        injection hs with hs
        rw [hst, if_pos ⟨hs.symm, rfl⟩]
        omega
    · rw [hV v e] at hs hl
      exact Nat.lt_of_lt_of_le (h.up v s u hv hs hl) (mono _ _)
  · rw [hhr] at hh
    by_cases e : j = i ∧ v = w
    · rw [if_pos e] at hh; simp at hh
    · rw [if_neg e] at hh
      obtain ⟨p1, p2⟩ := h.hr j v hv hh
      rw [hst, hsn, if_neg e, if_neg e]
      by_cases e2 : v = w
      · rw [e2] at p1 p2
        have := top j p2
        exact absurd ⟨by omega, e2⟩ e
      · rw [hV v e2]; exact ⟨p1, p2⟩
  · rw [WL_add (t := t) (t' := moveF t i w b) rfl] at hp
    split at hp
    · rename_i hcd
      obtain ⟨rfl, rfl⟩ := hcd
      rw [mk_app] at hp
      rcases List.mem_append.1 hp with hp | hp
      · obtain ⟨p0, hp0, rfl⟩ := List.mem_map.1 hp
        refine itm (h.it _ _ p0 hp0) (hno _ _ p0.2 (mk_mem' hp0)) fun e => ?_
        simp only [Bool.or_eq_true] at e
        rcases e with e | e
        · exact .inl e
        · exact .inr ⟨(of_decide_eq_true e).2.symm, fun e => hib e.symm⟩
      · rw [List.mem_singleton.1 hp]
        refine ⟨hw, .inr (.inl rfl), fun hk => by simp at hk, fun _ => ?_, fun hk => by simp at hk⟩
        refine ⟨?_, rfl, ?_, by show 1 ≤ t.st c w + 1; omega, ?_, ?_⟩
        · show t.st c w + 1 + 1 = (fupd V w (V w ++ [d]) w).length
          rw [hVw, List.length_append, List.length_singleton]; omega
        · show (fupd V w (V w ++ [d]) w)[t.st c w + 1]? = _
          rw [hVw, List.getElem?_append_right (by omega), show t.st c w + 1 - (V w).length = 0 by omega]; rfl
        · exact ext _ _ _ hVt
        · show (moveF t c w d).st c w = t.st c w + 1
          rw [hst, if_pos ⟨rfl, rfl⟩]
    · exact itm (h.it c d p hp) (hno _ _ p.2 (mk_mem' hp)) fun e => .inl e
  · obtain ⟨p1, p2, p3, p4, p5⟩ := h.wt j y hy
    have e2 : y.who ≠ w := fun e => by
      rw [e] at p3 p4 p5
      have := top j p3
      rw [show j = i by omega, hi] at p5
      simp at p5
    have e : ¬ (j = i ∧ y.who = w) := fun e => e2 e.2
    rw [hst, hsn, hhr, if_neg e, if_neg e, if_neg e, hV _ e2]
    exact ⟨p1, p2, p3, p4, p5⟩
  · rw [WL_add (t := t) (t' := moveF t i w b) rfl, if_neg (by omega)]
    exact h.loop c
end Go.Hw.VM

