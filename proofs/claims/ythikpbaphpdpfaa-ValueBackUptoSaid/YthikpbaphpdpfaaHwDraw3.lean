/- Regions whose order is drawn, by a few orders that stand for all. -/
import Derived.Test.YthikpbaphpdpfaaHwDraw
set_option linter.unusedVariables false
set_option linter.unusedSimpArgs false
namespace Go.Hw
open Go

variable {P : Program}

/-- Calls of functions that act, and of those that compute. -/
def MCalls (P : Program) (acts : List FuncId) : CallP := fun f args h R => if acts.contains f then HCalls P f args h R else DCalls P f args h R
theorem MCalls.sub {acts : List FuncId} {f : FuncId} {args : List HV} {h : Heap} {R : HV → Heap → Prop} (hd : MCalls P acts f args h R) : HCalls P f args h R := by
  unfold MCalls at hd
  split at hd
  · exact hd
  · exact DCalls.sub hd
theorem DCalls.mono {f : FuncId} {args : List HV} {h : Heap} {R R' : HV → Heap → Prop} (hc : DCalls P f args h R) (hr : ∀ x h', R x h' → R' x h') : DCalls P f args h R' := by
  obtain ⟨r, h1, h2⟩ := hc
  exact ⟨r, h1, hr _ _ h2⟩
theorem MCalls.mono {acts : List FuncId} {f : FuncId} {args : List HV} {h : Heap} {R R' : HV → Heap → Prop} (hd : MCalls P acts f args h R) (hr : ∀ x h', R x h' → R' x h') : MCalls P acts f args h R' := by
  unfold MCalls at hd ⊢
  split
  · rename_i hc; rw [if_pos hc] at hd; exact HCalls.mono hd hr
  · rename_i hc; rw [if_neg hc] at hd; exact DCalls.mono hd hr

section
variable {base : Nat} {e : Env} {h : Heap} {k k' : HV → Heap → Prop}
theorem hnew_mono {r : Option Nat} {ob : HObj} {j j' : Nat → Heap → Prop} (hk : ∀ i h, j i h → j' i h) (hs : hnew base r h ob j) : hnew base r h ob j' := by
  cases r with
  | none => exact hk _ _ hs
  | some i => exact ⟨hs.1, hk _ _ hs.2⟩
theorem hstep_mono {o : O} (hk : ∀ v h, k v h → k' v h) (hs : hstep base o e h k) : hstep base o e h k' := by
  cases hef : efO o with
  | pure =>
    by_cases hq : ∃ b x y, o = .eqv b .slice x y
    · obtain ⟨b, x, y, rfl⟩ := hq
      simp only [hstep] at hs ⊢
      split at hs
      · exact ⟨hs.1, fun t ht => hk _ _ (hs.2 t ht)⟩
      · exact hs.elim
    · obtain ⟨v, h1, h2⟩ := pure_det hef (fun b x y he => hq ⟨b, x, y, he⟩) hs
      exact h2 k' (hk _ _ h1)
  | read =>
    obtain ⟨v, h1, h2⟩ := read_dat (.inl hef) hs
    exact h2 h k' (fun _ _ h _ => h) (hk _ _ h1)
  | rdmap =>
    obtain ⟨v, h1, h2⟩ := read_dat (.inr hef) hs
    exact h2 h k' (fun _ _ h _ => h) (hk _ _ h1)
  | alloc =>
    cases o <;> simp only [efO, reduceCtorEq] at hef
    · simp only [hstep] at hs ⊢
      exact hnew_mono (fun _ _ => hk _ _) hs
    · simp only [hstep] at hs ⊢
      split at hs
      · exact ⟨hs.1, hnew_mono (fun _ _ => hk _ _) hs.2⟩
      · exact hs.elim
    · rename_i c _; cases c <;> simp only [efO, reduceCtorEq] at hef
    · simp only [hstep] at hs ⊢
      exact hnew_mono (fun _ _ => hk _ _) hs
    · simp only [hstep] at hs ⊢
      split at hs
      · exact ⟨hs.1, hnew_mono (fun _ _ => hk _ _) hs.2⟩
      · exact hs.elim
  | tok =>
    obtain ⟨v, d, h1, h2, h3, h4⟩ := tok_dat (base := base) hef hs
    exact h4 h k' h2 (hk _ _ h3)
  | pcall => exact absurd hef (by cases o <;> first | (simp [efO]; done) | (rename_i c _; cases c <;> simp [efO]))
  | act =>
    by_cases hq : ∃ x, o = .next false x
    · obtain ⟨x, rfl⟩ := hq
      simp only [hstep] at hs ⊢
      split at hs
      · split at hs
        · rename_i hst _; cases hst
        · exact hk _ _ hs
        · split at hs
          · exact ⟨hs.1, fun j p h1 h2 => hk _ _ (hs.2.1 j p h1 h2), fun hh => hk _ _ (hs.2.2 hh)⟩
          · exact hs.elim
        · exact hs.elim
      · exact hs.elim
    · obtain ⟨v, h', h1, h2⟩ := act_det hef (fun x he => hq ⟨x, he⟩) hs
      exact h2 k' (hk _ _ h1)
variable {acts : List FuncId}
theorem hcall_mono {o : OC} (hk : ∀ v h, k v h → k' v h) (hs : hcall (MCalls P acts) base o e h k) : hcall (MCalls P acts) base o e h k' := by
  cases o with
  | op o => exact hstep_mono hk hs
  | call f xs =>
    simp only [hcall] at hs ⊢
    split at hs
    · exact hs.mono hk
    · exact hs.elim
  | callv f xs =>
    simp only [hcall] at hs ⊢
    split at hs
    · exact hs.mono hk
    · exact hs.elim
theorem hop1_mono {o : Op} (hk : ∀ v h, k v h → k' v h) (hs : hop1 (MCalls P acts) base o e h k) : hop1 (MCalls P acts) base o e h k' := by
  unfold hop1 at hs ⊢
  split at hs
  · exact hcall_mono hk hs
  · split at hs
    · exact ⟨fun hc => hcall_mono hk (hs.1 hc), fun hc => hk _ _ (hs.2 hc)⟩
    · exact hk _ _ hs
    · exact hs.elim
theorem hops_monoM : ∀ {ops : List Op} {e : Env} {h : Heap} {Q R : Env → Heap → Prop}, (∀ e h, Q e h → R e h) → hops (MCalls P acts) base ops e h Q → hops (MCalls P acts) base ops e h R
  | [], e, h, Q, R, hQR, hq => hQR e h hq
  | o :: r, e, h, Q, R, hQR, hq => by
    rw [hops_cons] at hq ⊢
    exact hop1_mono (fun v h' hx => hops_monoM hQR hx) hq
theorem hcall_agree {S : CallP} {e' : Env} {o : OC} (h' : ∀ t ∈ usesOC o, e.get t = e'.get t) : hcall S base o e' h k = hcall S base o e h k := by
  cases o with
  | op o => exact step_agree h'
  | call f xs => simp only [hcall, evs_agree (e := e) (e' := e') (xs := xs) h']
  | callv f xs =>
    simp only [usesOC, List.mem_append] at h'
    simp only [hcall, evs_agree (e := e) (e' := e') (xs := xs) (fun t ht => h' t (.inr ht)), ev_agree (e := e) (e' := e') (x := f) (fun t ht => h' t (.inl ht))]
theorem hop1_agree {S : CallP} {e' : Env} {o : Op} (h' : ∀ t ∈ usesOp o, e.get t = e'.get t) : hop1 S base o e' h k = hop1 S base o e h k := by
  unfold hop1
  cases hg : o.guard with
  | none => simp only; exact hcall_agree fun t ht => h' t (by simp [usesOp, ht])
  | some p =>
    obtain ⟨t, b⟩ := p
    simp only
    rw [h' t (by simp [usesOp, hg])]
    rw [hcall_agree (e := e) (e' := e') fun t ht => h' t (by simp [usesOp, ht])]
theorem hops_envM : ∀ {ops : List Op} {e e' : Env} {h : Heap} {Q : Env → Heap → Prop}, EE e e' → hops (MCalls P acts) base ops e h Q → hops (MCalls P acts) base ops e' h (Upto Q)
  | [], e, e', h, Q, he, hq => ⟨e, he, hq⟩
  | o :: r, e, e', h, Q, he, hq => by
    rw [hops_cons] at hq ⊢
    rw [hop1_agree (e := e) (e' := e') fun t _ => he t]
    exact hop1_mono (fun v h' hx => hops_envM (he.put o.dst v) hx) hq
theorem hop1_quiet {o : Op} (hq : isAct acts o.o = false) : hop1 (MCalls P acts) base o e h k = hop1 (DCalls P) base o e h k := by
  have : hcall (MCalls P acts) base o.o e h k = hcall (DCalls P) base o.o e h k := by
    cases ho : o.o with
    | op x => rfl
    | callv f xs =>
      rw [ho] at hq
      have hn : acts = [] := by simpa [isAct] using hq
      subst hn
      have : MCalls P [] = DCalls P := by
        funext f args h R
        simp [MCalls]
      rw [this]
    | call f xs =>
      rw [ho] at hq
      have hn : ¬ (acts.contains f = true) := by simpa [isAct] using hq
      simp only [hcall, MCalls, if_neg hn]
  unfold hop1
  rw [this]
theorem pureQ_op {o : Op} (hp : pureQ o = true) : ∃ x, o.o = .op x ∧ efO x = .pure ∧ ∀ b u v, x ≠ .eqv b .slice u v := by
  obtain ⟨d, oc, g⟩ := o
  cases oc with
  | call f xs => simp [pureQ] at hp
  | callv f xs => simp [pureQ] at hp
  | op x =>
    simp only [pureQ, Bool.and_eq_true, beq_iff_eq] at hp
    exact ⟨x, rfl, hp.1, fun b u v hx => by subst hx; simp at hp⟩
theorem pure_op {o : Op} (hp : pureQ o = true) (hs : hop1 (MCalls P acts) base o e h k) : ∃ v, k v h ∧ ∀ (e' : Env) (g : Heap) (k' : HV → Heap → Prop), (∀ t ∈ usesOp o, e.get t = e'.get t) → k' v g → hop1 (MCalls P acts) base o e' g k' := by
  obtain ⟨x, hx, h1, h2⟩ := pureQ_op hp
  have core : ∀ {k : HV → Heap → Prop}, hcall (MCalls P acts) base o.o e h k → ∃ v, k v h ∧ ∀ (g : Heap) (k' : HV → Heap → Prop), k' v g → hcall (MCalls P acts) base o.o e g k' := by
    intro k hs
    rw [hx] at hs ⊢
    obtain ⟨v, g1, g2⟩ := pure_det h1 h2 hs
    refine ⟨v, g1, fun g k' hk' => ?_⟩
    show hstep base x e g k'
    rw [pure_any (base := base) (e := e) (h := g) (k := k') h1 (h2 true) (h2 false) h]
    exact g2 (fun v _ => k' v g) hk'
  unfold hop1 at hs
  cases hg : o.guard with
  | none =>
    simp only [hg] at hs
    obtain ⟨v, g1, g2⟩ := core hs
    refine ⟨v, g1, fun e' g k' he hk' => ?_⟩
    rw [hop1_agree (e := e) (e' := e') he]
    unfold hop1
    simp only [hg]
    exact g2 g k' hk'
  | some p =>
    obtain ⟨t, b⟩ := p
    simp only [hg] at hs
    cases hgt : e.get t with
    | none => simp only [hgt] at hs
    | some z =>
      simp only [hgt] at hs
      split at hs
      · rename_i c hz
        injection hz with hz
        subst hz
        by_cases hcb : c = b
        · obtain ⟨v, g1, g2⟩ := core (hs.1 hcb)
          refine ⟨v, g1, fun e' g k' he hk' => ?_⟩
          rw [hop1_agree (e := e) (e' := e') he]
          unfold hop1
          simp only [hg, hgt]
          exact ⟨fun _ => g2 g k' hk', fun hn => absurd hcb hn⟩
        · refine ⟨.tuple [], hs.2 hcb, fun e' g k' he hk' => ?_⟩
          rw [hop1_agree (e := e) (e' := e') he]
          unfold hop1
          simp only [hg, hgt]
          exact ⟨fun hn => absurd hn hcb, fun _ => hk'⟩
      · rename_i hz
        injection hz with hz
        subst hz
        refine ⟨.tuple [], hs, fun e' g k' he hk' => ?_⟩
        rw [hop1_agree (e := e) (e' := e') he]
        unfold hop1
        simp only [hg, hgt]
        exact hk'
      · exact hs.elim
theorem ee_swap {x y : Op} {u v : HV} (h : x.dst = none ∨ y.dst ≠ x.dst) : EE ((e.put x.dst v).put y.dst u) ((e.put y.dst u).put x.dst v) := by
  intro t
  cases hx : x.dst with
  | none => rfl
  | some a =>
    cases hy : y.dst with
    | none => rfl
    | some b =>
      have hab : a ≠ b := by
        intro hab
        rcases h with h | h
        · rw [hx] at h; cases h
        · exact h (by rw [hx, hy, hab])
      simp only [Env.put, Env.get]
      by_cases ha : a = t
      · subst ha; simp [Ne.symm hab]
      · by_cases hb : b = t
        · subst hb; simp [hab]
        · simp [ha, hb]
theorem indep_get {x y : Op} (hi : indep x y = true) : (∀ d, x.dst = some d → d ∉ usesOp y) ∧ (∀ d, y.dst = some d → d ∉ usesOp x) ∧ (x.dst = none ∨ y.dst ≠ x.dst) := by
  simp only [indep, Bool.and_eq_true] at hi
  refine ⟨fun d hd hm => ?_, fun d hd hm => ?_, ?_⟩
  · have := hi.1
    rw [hd] at this
    simp at this
    exact this.1 hm
  · have := hi.2
    rw [hd] at this
    simp at this
    exact this hm
  · cases hx : x.dst with
    | none => exact .inl rfl
    | some a =>
      refine .inr fun hy => ?_
      have := hi.1
      rw [hx] at this
      simp [hy] at this
theorem hops_front3 : ∀ {pre post : List Op} {y : Op} {e : Env} {h : Heap} {Q : Env → Heap → Prop}, (∀ x ∈ pre, swap3 acts x y = true) → hops (MCalls P acts) base (pre ++ y :: post) e h Q → hops (MCalls P acts) base (y :: (pre ++ post)) e h (Upto Q)
  | [], post, y, e, h, Q, _, hq => hops_envM (fun _ => rfl) hq
  | x :: pre, post, y, e, h, Q, hsw, hq => by
    rw [List.cons_append, hops_cons] at hq
    have hxy := hsw x (by simp)
    simp only [swap3, Bool.and_eq_true, Bool.or_eq_true] at hxy
    obtain ⟨hind, hsw2⟩ := hxy
    obtain ⟨i1, i2, i3⟩ := indep_get hind
    have ih : ∀ {e h}, hops (MCalls P acts) base (pre ++ y :: post) e h Q → hops (MCalls P acts) base (y :: (pre ++ post)) e h (Upto Q) := fun hq => hops_front3 (fun o ho => hsw o (by simp [ho])) hq
    have gx : ∀ (u : HV), ∀ t ∈ usesOp x, e.get t = (e.put y.dst u).get t := fun u t ht => (get_put fun hd => i2 t hd ht).symm
    have gy : ∀ (v : HV), ∀ t ∈ usesOp y, (e.put x.dst v).get t = e.get t := fun v t ht => get_put fun hd => i1 t hd ht
    have fin : ∀ {u v : HV} {g : Heap}, hops (MCalls P acts) base (pre ++ post) ((e.put x.dst v).put y.dst u) g (Upto Q) → hops (MCalls P acts) base (pre ++ post) ((e.put y.dst u).put x.dst v) g (Upto Q) := fun hx => hops_monoM (fun _ _ hx => Upto.idem hx) (hops_envM (ee_swap i3) hx)
    rcases hsw2 with hp | ⟨⟨⟨⟨q1, q2⟩, p1⟩, p2⟩, hs⟩
    · obtain ⟨v, h1, h2⟩ := pure_op hp hq
      have h3 := ih h1
      rw [hops_cons] at h3
      rw [hops_cons, ← hop1_agree (e := e) (e' := e.put x.dst v) (fun t ht => (gy v t ht).symm)]
      refine hop1_mono (fun u g hk => ?_) h3
      rw [List.cons_append, hops_cons]
      exact h2 _ _ _ (gx u) (fin hk)
    · have hqx : quiet x.o := quiet_of (acts := acts) (by simpa using q1) p1
      have hqy : quiet y.o := quiet_of (acts := acts) (by simpa using q2) p2
      rw [hop1_quiet (by simpa using q1)] at hq
      obtain ⟨v, c, h1, h2, h3, h4⟩ := op_dat hqx hq
      have h5 := ih h3
      rw [hops_cons, hop1_quiet (by simpa using q2)] at h5
      obtain ⟨u, d, k1, k2, k3, k4⟩ := op_dat hqy h5
      obtain ⟨s1, s2, s3⟩ := dat_swap hs h1 k1 h2 k2
      rw [hops_cons, hop1_quiet (by simpa using q2)]
      refine k4 e h _ (gy v) s1 ?_
      rw [List.cons_append, hops_cons, hop1_quiet (by simpa using q1)]
      refine h4 (e.put y.dst u) (d.app base h) _ (gx u) s2 ?_
      rw [← s3]
      exact fin k3
end

/-! ### orders -/
theorem prec_total {l : List Nat} {x y : Nat} (hx : x ∈ l) (hy : y ∈ l) (hn : x ≠ y) : [x, y].Sublist l ∨ [y, x].Sublist l := by
  induction l with
  | nil => simp at hx
  | cons a l ih =>
    rcases List.mem_cons.1 hx with rfl | hx'
    · rcases List.mem_cons.1 hy with rfl | hy'
      · exact absurd rfl hn
      · exact .inl (List.Sublist.cons_cons _ (List.singleton_sublist.2 hy'))
    · rcases List.mem_cons.1 hy with rfl | hy'
      · exact .inr (List.Sublist.cons_cons _ (List.singleton_sublist.2 hx'))
      · exact (ih hx' hy').imp (·.cons _) (·.cons _)
theorem prec_anti {l : List Nat} {x y : Nat} (hn : l.Nodup) (h1 : [x, y].Sublist l) (h2 : [y, x].Sublist l) : False := by
  induction l with
  | nil => cases h1
  | cons a l ih =>
    obtain ⟨ha, hl⟩ := List.nodup_cons.1 hn
    cases h1 with
    | cons _ h1 =>
      cases h2 with
      | cons _ h2 => exact ih hl h1 h2
      | cons_cons _ h2 => exact ha (h1.subset (by simp))
    | cons_cons _ h1 =>
      cases h2 with
      | cons _ h2 => exact ha (h2.subset (by simp))
      | cons_cons _ h2 => exact ha (List.singleton_sublist.1 h1)
theorem prec_trans {l : List Nat} {x y z : Nat} (hn : l.Nodup) (h1 : [x, y].Sublist l) (h2 : [y, z].Sublist l) : [x, z].Sublist l := by
  induction l with
  | nil => cases h1
  | cons a l ih =>
    obtain ⟨ha, hl⟩ := List.nodup_cons.1 hn
    cases h1 with
    | cons _ h1 =>
      cases h2 with
      | cons _ h2 => exact (ih hl h1 h2).cons _
      | cons_cons _ h2 => exact absurd (h1.subset (by simp)) ha
    | cons_cons _ h1 =>
      cases h2 with
      | cons _ h2 => exact List.Sublist.cons_cons _ (List.singleton_sublist.2 (h2.subset (by simp)))
      | cons_cons _ h2 => exact List.Sublist.cons_cons _ h2
theorem pairs3_get {ok : Nat → Nat → Bool} : ∀ {p : List Nat}, pairs3 ok p = true → ∀ x y, [x, y].Sublist p → ok x y = true
  | [], _, x, y, h => by cases h
  | a :: r, hp, x, y, h => by
    simp only [pairs3, Bool.and_eq_true, List.all_eq_true] at hp
    cases h with
    | cons _ h => exact pairs3_get hp.2 x y h
    | cons_cons _ h => exact hp.1 y (List.singleton_sublist.1 h)
theorem vr_before {ops : Array Oper} : ∀ {acc : List Nat} {i j : Nat}, VR ops acc → j ∈ acc → ((Region.before ops).getD j 0).testBit i = true → [i, j].Sublist acc.reverse
  | [], i, j, _, hj, _ => by simp at hj
  | p :: acc, i, j, hv, hj, hb => by
    rw [List.reverse_cons]
    rcases List.mem_cons.1 hj with rfl | hj
    · have := VR.before j hv hb
      have h1 : [i].Sublist acc.reverse := List.singleton_sublist.2 (by simpa using this)
      simpa using h1.append (List.Sublist.refl [j])
    · exact (vr_before hv.2 hj hb).trans (List.sublist_append_left _ _)
theorem cover3_get {b : Array Nat} {ps : List (List Nat)} {s : List Nat} (hs : s.Nodup) (hb : ∀ i j, j ∈ s → (b.getD j 0).testBit i = true → [i, j].Sublist s) : ∀ (us dec : List (Nat × Nat)), cover3 b ps us dec = true → (∀ u ∈ us, u.1 ∈ s ∧ u.2 ∈ s ∧ u.1 ≠ u.2) → (∀ u ∈ dec, [u.1, u.2].Sublist s) →
    ∃ p ∈ ps, (∀ u ∈ us, [u.1, u.2].Sublist p ∧ [u.1, u.2].Sublist s ∨ [u.2, u.1].Sublist p ∧ [u.2, u.1].Sublist s) ∧ ∀ u ∈ dec, [u.1, u.2].Sublist p
  | [], dec, hc, hu, hd => by
    simp only [cover3, Bool.or_eq_true] at hc
    rcases hc with hc | hc
    · exfalso
      rw [List.any_eq_true] at hc
      obtain ⟨p, hp, hc⟩ := hc
      rw [List.any_eq_true] at hc
      obtain ⟨q, hq, hc⟩ := hc
      simp only [Bool.and_eq_true, Bool.or_eq_true, beq_iff_eq] at hc
      have h1 := hd p hp
      have h2 := hd q hq
      have m1 : ∀ {x y : Nat}, [x, y].Sublist s → x ∈ s := fun h => h.subset (by simp)
      have h3 : [p.1, q.1].Sublist s := by
        rcases hc.1 with he | he
        · rw [← he]; exact h1
        · exact prec_trans hs h1 (hb _ _ (m1 h2) he)
      have h4 : [q.1, p.1].Sublist s := by
        rcases hc.2 with he | he
        · rw [← he]; exact h2
        · exact prec_trans hs h2 (hb _ _ (m1 h1) he)
      exact prec_anti hs h3 h4
    · rw [List.any_eq_true] at hc
      obtain ⟨p, hp, hc⟩ := hc
      rw [List.all_eq_true] at hc
      exact ⟨p, hp, by simp, fun u hu => List.isSublist_iff_sublist.1 (hc u hu)⟩
  | (x, y) :: r, dec, hc, hu, hd => by
    simp only [cover3, Bool.and_eq_true] at hc
    obtain ⟨hx, hy, hn⟩ := hu (x, y) (by simp)
    rcases prec_total hx hy hn with h | h
    · obtain ⟨p, hp, h1, h2⟩ := cover3_get hs hb r ((x, y) :: dec) hc.1 (fun u hu' => hu u (by simp [hu'])) (fun u hu' => by
        rcases List.mem_cons.1 hu' with rfl | hu'
        · exact h
        · exact hd u hu')
      refine ⟨p, hp, fun u hu' => ?_, fun u hu' => h2 u (by simp [hu'])⟩
      rcases List.mem_cons.1 hu' with rfl | hu'
      · exact .inl ⟨h2 _ (by simp), h⟩
      · exact h1 u hu'
    · obtain ⟨p, hp, h1, h2⟩ := cover3_get hs hb r ((y, x) :: dec) hc.2 (fun u hu' => hu u (by simp [hu'])) (fun u hu' => by
        rcases List.mem_cons.1 hu' with rfl | hu'
        · exact h
        · exact hd u hu')
      refine ⟨p, hp, fun u hu' => ?_, fun u hu' => h2 u (by simp [hu'])⟩
      rcases List.mem_cons.1 hu' with rfl | hu'
      · exact .inr ⟨h2 (y, x) (by simp), h⟩
      · exact h1 u hu'
theorem hops_perm {acts : List FuncId} {base : Nat} {op : Nat → Op} : ∀ {s p : List Nat} {e : Env} {h : Heap} {Q : Env → Heap → Prop}, s.Nodup → p.Nodup → (∀ x, x ∈ s ↔ x ∈ p) → (∀ x y, [x, y].Sublist p → [y, x].Sublist s → swap3 acts (op x) (op y) = true) →
    hops (MCalls P acts) base (p.map op) e h Q → hops (MCalls P acts) base (s.map op) e h (Upto Q)
  | [], p, e, h, Q, _, _, hm, _, hq => by
    have : p = [] := List.eq_nil_iff_forall_not_mem.2 fun x hx => by simpa using (hm x).2 hx
    subst this
    exact ⟨e, fun _ => rfl, hq⟩
  | y :: s, p, e, h, Q, hs, hp, hm, hsw, hq => by
    obtain ⟨p1, p2, rfl⟩ := List.append_of_mem ((hm y).1 (by simp))
    obtain ⟨hy, hs'⟩ := List.nodup_cons.1 hs
    have hsub : (p1 ++ p2).Sublist (p1 ++ y :: p2) := List.Sublist.append (List.Sublist.refl _) (List.sublist_cons_self _ _)
    have hyp : y ∉ p1 ++ p2 := by
      intro hm'
      rw [List.nodup_append] at hp
      rcases List.mem_append.1 hm' with h | h
      · exact hp.2.2 y h y (by simp) rfl
      · exact (List.nodup_cons.1 hp.2.1).1 h
    rw [List.map_append, List.map_cons] at hq
    have hfr := hops_front3 (acts := acts) (fun x hx => by
      obtain ⟨i, hi, rfl⟩ := List.mem_map.1 hx
      refine hsw i y ?_ ?_
      · have h1 : [i].Sublist p1 := List.singleton_sublist.2 hi
        have h2 : [y].Sublist (y :: p2) := List.singleton_sublist.2 (by simp)
        exact h1.append h2
      · refine List.Sublist.cons_cons _ (List.singleton_sublist.2 ?_)
        have : i ∈ y :: s := (hm i).2 (by simp [hi])
        rcases List.mem_cons.1 this with rfl | h
        · exact absurd (by simp [hi]) hyp
        · exact h) hq
    rw [List.map_cons, hops_cons]
    rw [hops_cons] at hfr
    refine hop1_mono (fun v g hx => ?_) hfr
    rw [← List.map_append] at hx
    refine hops_monoM (fun _ _ hx => Upto.idem hx) (hops_perm hs' (hp.sublist hsub) (fun x => ?_) (fun a b h1 h2 => hsw a b (h1.trans hsub) (h2.cons _)) hx)
    constructor
    · intro hxs
      have h1 := (hm x).1 (by simp [hxs])
      simp only [List.mem_append, List.mem_cons] at h1 ⊢
      rcases h1 with h1 | h1 | h1
      · exact .inl h1
      · exact absurd (h1 ▸ hxs) hy
      · exact .inr h1
    · intro hxp
      have h1 := (hm x).2 (hsub.subset hxp)
      rcases List.mem_cons.1 h1 with h1 | h1
      · exact absurd (h1 ▸ hxp) hyp
      · exact h1
theorem prune_ee {e1 e2 : Env} (he : EE e1 e2) : ∀ {keep : List Nat}, prune e1 keep = prune e2 keep
  | [] => rfl
  | t :: r => by simp only [prune, he t, prune_ee he (keep := r)]

theorem draw3_sound {ann : Ann} {N id : Nat} {ops : Array Oper} {l : List Op} {r : Nat} {acts : List FuncId} {us : List (Nat × Nat)} {ps : List (List Nat)} (hmix : P.follows .mixedOrders = true) (hc : cOps P ann N id ops true ops.toList 0 0 = some (l, r)) (hok : drawOk3 ops acts l us ps = true) {Q : Env → Heap → Prop} {Q' : Exit → Act → World → Prop} {e : Env} {h : Heap} {K : GK} {w : World} {a : Act}
    (hq : ∀ p ∈ ps, hops (MCalls P acts) h.length (p.map (opOf l)) e (h ++ List.replicate r .res) Q) (hr : Rel N K w e h a) (t : Nat) (hQ : ∀ e1 e2 h, EE e1 e2 → Q e1 h → Q e2 h)
    (hfin : ∀ K' w' e' h' a', Step K w K' w' → Rel N K' w' e' h' a' → Q e' h' → Q' .normal a' w') : wpOps P ops Q' (Region.schedule (P.follows .mixedOrders) ops t) a { w with drawn := w.drawn + 1 } := by
  simp only [drawOk3, Bool.and_eq_true, decide_eq_true_eq, List.all_eq_true] at hok
  obtain ⟨⟨⟨⟨hlen, hed⟩, hps⟩, hus⟩, hcov⟩ := hok
  have hsch : Region.schedule (P.follows .mixedOrders) ops t = Region.linearise .any ops t := by simp [Region.schedule, hmix]
  rw [hsch]
  have hb : ∀ j o, ops[j]? = some o → ∀ ed ∈ o.after, Region.binds .any ed = true → ed.on < j := by
    intro j o ho ed hd hbd
    have hj : j < ops.size := by
      rcases Nat.lt_or_ge j ops.size with h | h
      · exact h
      · rw [Array.getElem?_eq_none h] at ho; cases ho
    have := hed j (by simp; omega)
    rw [Array.getD_eq_getD_getElem?, ho, Option.getD_some, Array.all_eq_true'] at this
    have := this ed hd
    rw [hbd] at this
    simpa using this
  obtain ⟨acc, h1, h2, h3⟩ := lin_go hb ops.size t (Array.replicate ops.size false) [] (by simp) (fun i hi => by simp [hi]) trivial (by simp)
  have hlin : Region.linearise .any ops t = acc.reverse := h1
  rw [hlin]
  obtain ⟨hnd, hlt⟩ := h2.nodup
  have st : Step K w K { w with drawn := w.drawn + 1 } := ⟨rfl, rfl, rfl, Nat.le_refl _, fun _ => Nat.le_refl _, fun _ => Nat.le_refl _, fun _ _ => ⟨rfl, fun _ _ => rfl⟩, fun _ _ h => h, fun _ _ _ _ h => h, fun _ _ h => h, fun _ _ h => h, fun _ _ _ => ⟨rfl, rfl⟩⟩
  have hr1 : Rel N K { w with drawn := w.drawn + 1 } e h a := by
    refine ⟨⟨fun id b hid => ?_, hr.heap.inj, hr.heap.wm, hr.heap.tok, hr.heap.tinj, hr.heap.limb⟩, hr.env.step st, hr.size, hr.defers⟩
    obtain ⟨k1, o, k2, k3, k4⟩ := hr.heap.obj id b hid
    exact ⟨k1, o, k2, k3.keep st rfl, k4⟩
  obtain ⟨K1, s1, r1⟩ := places_rel r hr1
  have hsnd : acc.reverse.Nodup := List.pairwise_reverse.2 (hnd.imp Ne.symm)
  obtain ⟨p, hp, hpu, _⟩ := cover3_get (b := Region.before ops) (ps := ps) (s := acc.reverse) hsnd (fun i j hj hbit => vr_before h2 (by simpa using hj) hbit) us [] hcov (fun u hu => by
    have := hus u hu
    simp only [Bool.and_eq_true, decide_eq_true_eq, bne_iff_ne, ne_eq] at this
    exact ⟨by simpa using h3 _ this.1.1, by simpa using h3 _ this.1.2, this.2⟩) (by simp)
  obtain ⟨⟨⟨hpl, hpn⟩, hplt⟩, hpp⟩ := hps p hp
  have hpall : ∀ i, i < ops.size → i ∈ p := by
    intro i hi
    refine Classical.byContradiction fun hm => ?_
    have := pigeon ops.size (i :: p) (List.nodup_cons.2 ⟨hm, hpn⟩) (fun j hj => by
      rcases List.mem_cons.1 hj with rfl | hj
      · exact hi
      · exact hplt j hj)
    simp at this
    omega
  have hperm := hops_perm (P := P) (acts := acts) (base := h.length) (op := opOf l) (s := acc.reverse) (p := p) hsnd hpn (fun x => ⟨fun hx => hpall x (hlt x (by simpa using hx)), fun hx => by simpa using h3 x (hplt x hx)⟩) (fun x y hxy hyx => by
    have := pairs3_get hpp x y hxy
    simp only [Bool.or_eq_true] at this
    have hyp : ∀ {z : Nat}, z ∈ p → z ∈ acc := fun {z} hz => h3 z (hplt z hz)
    rcases this with ((h4 | h4) | h4) | h4
    · exact absurd (vr_before h2 (hyp (hxy.subset (by simp))) h4) (fun hc => prec_anti hsnd hc hyx)
    · exact h4
    · rcases hpu (x, y) (by simpa using h4) with ⟨g1, g2⟩ | ⟨g1, g2⟩
      · exact (prec_anti hsnd g2 hyx).elim
      · exact (prec_anti hpn g1 hxy).elim
    · rcases hpu (y, x) (by simpa using h4) with ⟨g1, g2⟩ | ⟨g1, g2⟩
      · exact (prec_anti hpn g1 hxy).elim
      · exact (prec_anti hsnd g2 hyx).elim) (hq p hp)
  obtain ⟨_, hget⟩ := allFor_get (cOps_all hc)
  have hall : AllFor P N ops acc.reverse (acc.reverse.map (opOf l)) := allFor_of (by simp) fun j i x hi hx => by
    rw [List.getElem?_map, hi] at hx
    injection hx with hx
    subst hx
    have hi2 : i < ops.size := hlt i (by simpa using List.mem_of_getElem? hi)
    refine hget i i _ (by simp [hi2]) ?_
    simp [opOf, List.getD_eq_getElem?_getD, show i < l.length by omega]
  have := hops_sound (P := P) (N := N) (ops := ops) (base := h.length) (S := MCalls P acts) (Q' := Q') (js := []) (fun _ _ _ _ h => MCalls.sub h) _ _ hall e _ K1 _ a hperm r1 (fun K' w' e' h' a' s' r' q' => by
    obtain ⟨e2, he2, hq2⟩ := q'
    exact hfin K' w' e' h' a' (st.trans (s1.trans s')) r' (hQ _ _ _ he2 hq2))
  rwa [List.append_nil] at this
end Go.Hw
