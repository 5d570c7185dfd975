/- Code and functions. -/
import Derived.Test.YthikpbaphpdpfaaHwDraw
set_option linter.unusedVariables false
set_option linter.unusedSimpArgs false
namespace Go.Hw
open Go

variable {P : Program}

def Ex.up : Ex → Exit
  | .normal => .normal
  | .exit i => .exit i
  | .ret => .ret

/-- Behind the code: some way out, and Hw's state. -/
def Lift (N : Nat) (K : GK) (w : World) (Q : Ex → Env → Heap → Prop) : Exit → Act → World → Prop := fun x a' w' =>
  ∃ q K' e' h', x = Ex.up q ∧ Step K w K' w' ∧ Rel N K' w' e' h' a' ∧ Q q e' h'
theorem Lift.of_step {N : Nat} {K K1 : GK} {w w1 : World} (s : Step K w K1 w1) {Q : Ex → Env → Heap → Prop} {x : Exit} {a : Act} {w' : World} (h : Lift N K1 w1 Q x a w') : Lift N K w Q x a w' :=
  let ⟨q, K', e', h', h1, h2, h3, h4⟩ := h
  ⟨q, K', e', h', h1, s.trans h2, h3, h4⟩
theorem Lift.imp {N : Nat} {K : GK} {w : World} {Q Q' : Ex → Env → Heap → Prop} (hq : ∀ q e h, Q q e h → Q' q e h) {x : Exit} {a : Act} {w' : World} (h : Lift N K w Q x a w') : Lift N K w Q' x a w' :=
  let ⟨q, K', e', h', h1, h2, h3, h4⟩ := h
  ⟨q, K', e', h', h1, h2, h3, hq q e' h' h4⟩

/-- What is meant: wherever the state holds, the code comes to Q. -/
def HW (P : Program) (N : Nat) (code : Code) (Q : Ex → Env → Heap → Prop) (e : Env) (h : Heap) : Prop :=
  ∀ (K : GK) (w : World) (a : Act), Rel N K w e h a → code.wp P (Lift N K w Q) a w
/-- A loop, spoken of by its body's small code. -/
def HLoop (P : Program) (N : Nat) (c : C) (Q : Ex → Env → Heap → Prop) (e : Env) (h : Heap) : Prop :=
  ∀ ann code, comp P ann N code = some c → HW P N (.loop code) Q e h

abbrev HWp (P : Program) (N : Nat) := hwp (HCalls P) (DCalls P) (HLoop P N)

theorem prune_rel {N : Nat} {K : GK} {w : World} {e : Env} {h : Heap} {a : Act} (hr : Rel N K w e h a) (keep : List Nat) : Rel N K w (prune e keep) h a :=
  ⟨hr.heap, fun t x hx => hr.env t x (Env.get_prune e keep t x hx), hr.size, hr.defers⟩

theorem hwp_sound (hmix : P.follows .mixedOrders = true) {N : Nat} {ann : Ann} : ∀ (code : Code) (c : C), comp P ann N code = some c → ∀ (Q : Ex → Env → Heap → Prop) (e : Env) (h : Heap), HWp P N c Q e h → HW P N code Q e h
  | .skip, c, hc, Q, e, h, hq, K, w, a, hr => by
    simp only [comp, Option.some.injEq] at hc
    subst hc
    exact wp_skip ⟨.normal, K, e, h, rfl, .refl K w, hr, hq⟩
  | .region id ops draw, c, hc, Q, e, h, hq, K, w, a, hr => by
    simp only [comp, Option.bind_eq_bind] at hc
    obtain ⟨⟨l, r⟩, h1, h2⟩ := bind_some hc
    cases draw with
    | false =>
      simp only [Bool.false_eq_true, if_false, Option.some.injEq] at h2
      subst h2
      refine wp_region (hops_all (base := 0) (fun _ _ _ _ h => h) (cOps_all h1) e h K w a hq hr ?_)
      intro K' w' e' h' a' s hr' hq'
      exact ⟨.normal, K', _, h', rfl, s, prune_rel hr' _, hq'⟩
    | true =>
      simp only [if_true] at h2
      split at h2
      · split at h2
        · simp only [Option.some.injEq] at h2
          subst h2
          exact hq.elim
        · cases h2
      split at h2
      · rename_i hok
        simp only [Option.some.injEq] at h2
        subst h2
        refine wp_region_draw fun t => ?_
        exact draw_sound hmix h1 hok hq hr t (fun K' w' e' h' a' s hr' hq' => ⟨.normal, K', _, h', rfl, s, prune_rel hr' _, hq'⟩)
      · cases h2
  | .seq x y, c, hc, Q, e, h, hq, K, w, a, hr => by
    simp only [comp, Option.bind_eq_bind] at hc
    obtain ⟨cx, h1, hc⟩ := bind_some hc
    obtain ⟨cy, h2, hc⟩ := bind_some hc
    injection hc with hc
    subst hc
    refine wp_seq (wp_mono (hwp_sound hmix x cx h1 _ e h hq K w a hr) ?_)
    rintro ex a' w' ⟨q, K', e', h', rfl, s, hr', hq'⟩
    cases q with
    | normal => exact wp_mono (hwp_sound hmix y cy h2 Q e' h' hq' K' w' a' hr') fun _ _ _ h => h.of_step s
    | exit i => exact ⟨.exit i, K', e', h', rfl, s, hr', hq'⟩
    | ret => exact ⟨.ret, K', e', h', rfl, s, hr', hq'⟩
  | .cond o x y, c, hc, Q, e, h, hq, K, w, a, hr => by
    simp only [comp, Option.bind_eq_bind] at hc
    obtain ⟨co, h0, hc⟩ := bind_some hc
    obtain ⟨cx, h1, hc⟩ := bind_some hc
    obtain ⟨cy, h2, hc⟩ := bind_some hc
    injection hc with hc
    subst hc
    simp only [HWp, hwp] at hq
    split at hq
    · rename_i t hev
      have hV := ev_sound h0 hr.env hev
      generalize hcv : a.eval o = cv at hV
      cases hV
      exact wp_cond_split hcv (fun ht => hwp_sound hmix x cx h1 Q e h (hq.1 ht) K w a hr) (fun ht => hwp_sound hmix y cy h2 Q e h (hq.2 ht) K w a hr)
    · exact hq.elim
  | .block id x, c, hc, Q, e, h, hq, K, w, a, hr => by
    simp only [comp, Option.bind_eq_bind] at hc
    obtain ⟨cx, h1, hc⟩ := bind_some hc
    injection hc with hc
    subst hc
    refine wp_block (wp_mono (hwp_sound hmix x cx h1 _ e h hq K w a hr) ?_)
    rintro ex a' w' ⟨q, K', e', h', rfl, s, hr', hq'⟩
    cases q with
    | normal => exact ⟨.normal, K', e', h', rfl, s, hr', hq'⟩
    | exit i =>
      show Exit.inBlock id (Lift N K w Q) (.exit i) a' w'
      simp only [Exit.inBlock]
      dsimp only at hq'
      split
      · rename_i e1; rw [if_pos e1] at hq'; exact ⟨.normal, K', e', h', rfl, s, hr', hq'⟩
      · rename_i e1; rw [if_neg e1] at hq'; exact ⟨.exit i, K', e', h', rfl, s, hr', hq'⟩
    | ret => exact ⟨.ret, K', e', h', rfl, s, hr', hq'⟩
  | .loop x, c, hc, Q, e, h, hq, K, w, a, hr => by
    simp only [comp, Option.bind_eq_bind] at hc
    obtain ⟨cx, h1, hc⟩ := bind_some hc
    injection hc with hc
    subst hc
    exact hq ann x h1 K w a hr
  | .exit i, c, hc, Q, e, h, hq, K, w, a, hr => by
    simp only [comp, Option.some.injEq] at hc
    subst hc
    exact wp_exit ⟨.exit i, K, e, h, rfl, .refl K w, hr, hq⟩
  | .ret, c, hc, Q, e, h, hq, K, w, a, hr => by
    simp only [comp, Option.some.injEq] at hc
    subst hc
    exact wp_ret ⟨.ret, K, e, h, rfl, .refl K w, hr, hq⟩
  | .rangeFunc .., c, hc, Q, e, h, hq, _, _, _, _ => by
    simp only [comp, Option.some.injEq] at hc
    subst hc
    exact hq.elim
  | .scope _, c, hc, Q, e, h, hq, _, _, _, _ => by
    simp only [comp, Option.some.injEq] at hc
    subst hc
    exact hq.elim
  | .label _, c, hc, Q, e, h, hq, _, _, _, _ => by
    simp only [comp, Option.some.injEq] at hc
    subst hc
    exact hq.elim
  | .goto _, c, hc, Q, e, h, hq, _, _, _, _ => by
    simp only [comp, Option.some.injEq] at hc
    subst hc
    exact hq.elim
  | .refuse _, c, hc, Q, e, h, hq, _, _, _, _ => by
    simp only [comp, Option.some.injEq] at hc
    subst hc
    exact hq.elim

/-! ### weaker states -/
/-- Wherever (e, h) holds, so does (e', h'). -/
def Weak (e : Env) (h : Heap) (e' : Env) (h' : Heap) : Prop :=
  ∀ (N : Nat) (K : GK) (w : World) (a : Act), Rel N K w e h a → ∃ K', Step K w K' w ∧ Rel N K' w e' h' a
theorem Weak.refl (e : Env) (h : Heap) : Weak e h e h := fun N K w a hr => ⟨K, .refl K w, hr⟩
theorem Weak.trans {e e1 e2 : Env} {h h1 h2 : Heap} (x : Weak e h e1 h1) (y : Weak e1 h1 e2 h2) : Weak e h e2 h2 := fun N K w a hr =>
  let ⟨K1, s1, r1⟩ := x N K w a hr
  let ⟨K2, s2, r2⟩ := y N K1 w a r1
  ⟨K2, s1.trans s2, r2⟩
/-- Each slot of the second has, in the first, that value, or the same with its token forgotten. -/
def Env.sub : Env → Env → Prop
  | [], _ => True
  | (t, v) :: r, e => (match e.get t with
    | some x => x = v ∨ x.strip1 = v
    | none => False) ∧ Env.sub r e
theorem Env.sub_get {e' e : Env} (h : Env.sub e' e) : ∀ (t : Nat) (v : HV), e'.get t = some v → ∃ x, e.get t = some x ∧ (x = v ∨ x.strip1 = v) := by
  induction e' with
  | nil => intro t v hv; simp [Env.get] at hv
  | cons p r ih =>
    obtain ⟨u, y⟩ := p
    intro t v hv
    obtain ⟨h1, h2⟩ := h
    simp only [Env.get] at hv
    split at hv
    · rename_i e1
      subst e1
      injection hv with hv
      subst hv
      cases hg : e.get u with
      | none => simp [hg] at h1
      | some x => simp only [hg] at h1; exact ⟨x, rfl, h1⟩
    · exact ih h2 t v hv
theorem Weak.sub {e e' : Env} {h : Heap} (hs : Env.sub e' e) : Weak e h e' h := fun N K w a hr =>
  ⟨K, .refl K w, hr.heap, fun t v hv => by
    obtain ⟨x, hx, hxv⟩ := Env.sub_get hs t v hv
    rcases hxv with rfl | rfl
    · exact hr.env t x hx
    · exact (hr.env t x hx).strip1, hr.size, hr.defers⟩
/-- A full slice gets a token. -/
theorem Weak.acc {e : Env} {h : Heap} (t sz : Nat) (hs : List HV) (hg : e.get t = some (.list hs .full)) (hw : ∀ x ∈ hs, x.cells.length = sz) :
    Weak e h ((t, .list hs (.own h.length 1 sz)) :: e) (h ++ [.tok (1 + hs.length)]) := fun N K w a hr => by
  have htp : TokPlace h (h ++ [.tok (1 + hs.length)]) h.length (1 + hs.length) := .inr ⟨rfl, rfl, by omega⟩
  obtain ⟨s, hh'⟩ := tok_bare hr.heap htp rfl
  refine ⟨_, s, hh', fun u x hx => ?_, hr.size, hr.defers⟩
  simp only [Env.get] at hx
  split at hx
  · rename_i e1
    subst e1
    injection hx with hx
    subst hx
    have hV := hr.env t _ hg
    generalize a.tmps.getD t undef = v at hV ⊢
    have hV' := hV.step s
    cases hV with
    | nil _ _ => exact .nil _ (by simp [TokNil, GK.tokAt])
    | list0 _ _ ad => exact .list0 _ (by simp [TokNil, GK.tokAt]) ad
    | list _ _ b of cap sz' vals hw' hleaf hvv hc hlim hcap htk =>
      cases hV' with
      | list0 _ _ ad => exact .list0 _ (by simp [TokNil, GK.tokAt]) _
      | list _ _ _ _ _ sz'' vals' hw'' hleaf' hvv' hc' hlim' hcap' htk' =>
        exact .list hs _ b of cap sz vals' hw hleaf' hvv' hc' hlim' hcap' ⟨by simp [GK.tokAt], flat_length hw, fun _ => .inl htk⟩
  · exact (hr.env u x hx).step s

/-- A loop by a ghost: x tells the round. -/
theorem wp_loop_ghost {c : Code} {X : Type} (I : X → Act → World → Prop) (μ : X → Nat) {Q : Exit → Act → World → Prop} (round : ∀ x a w, I x a w → c.wp P (Exit.then (fun a' w' => ∃ x', μ x' < μ x ∧ I x' a' w') Q) a w) {x0 : X} {a : Act} {w : World} (h0 : I x0 a w) : (Code.loop c).wp P Q a w := by
  intro b k cs
  have key : ∀ (n : Nat) (x : X) (a : Act) (w : World), μ x = n → I x a w → ∃ e a' w', Q e a' w' ∧ Arrives P (lone (b.at a (.code c :: .inLoop c :: k)) cs w) b k cs e a' w' := by
    intro n
    induction n using Nat.strongRecOn with
    | _ n ih =>
      intro x a w hn hI
      obtain ⟨e, a₁, w₁, hq, harr⟩ := round x a w hI b (.inLoop c :: k) cs
      cases e with
      | normal =>
        obtain ⟨x', hlt, hI₁⟩ := hq
        obtain ⟨e₂, a₂, w₂, hq₂, harr₂⟩ := ih (μ x') (hn ▸ hlt) x' a₁ w₁ rfl hI₁
        exact ⟨e₂, a₂, w₂, hq₂, .of_steps (Steps.trans harr (.one step_inLoop)) harr₂⟩
      | exit id => exact ⟨_, a₁, w₁, hq, .pass (x := .inLoop c) rfl (fun _ _ => .inl (by simp)) harr⟩
      | goto l => exact ⟨_, a₁, w₁, hq, .pass (x := .inLoop c) rfl (fun _ _ => .inl (by simp)) harr⟩
      | ret => exact ⟨_, a₁, w₁, hq, .pass (x := .inLoop c) rfl (fun _ _ => .inl (by simp)) harr⟩
      | panic ch => exact ⟨_, a₁, w₁, hq, .pass (x := .inLoop c) rfl (fun _ _ => .inl (by simp)) harr⟩
      | outgrown => exact ⟨_, a₁, w₁, hq, .pass (x := .inLoop c) rfl (fun _ _ => .inl (by simp)) harr⟩
  obtain ⟨e, a', w', hq, harr⟩ := key _ x0 a w rfl h0
  exact ⟨e, a', w', hq, .of_steps (.one step_loop) harr⟩

/-- A loop whose state at every round's head is one of `st`. -/
theorem HLoop.intro (hmix : P.follows .mixedOrders = true) {N : Nat} {c : C} {Q : Ex → Env → Heap → Prop} {e : Env} {h : Heap} {X : Type} (st : X → Env × Heap) (μ : X → Nat) (x0 : X) (h0 : Weak e h (st x0).1 (st x0).2)
    (round : ∀ x, HWp P N c (fun q e' h' => match q with
      | .normal => ∃ x', μ x' < μ x ∧ Weak e' h' (st x').1 (st x').2
      | q => Q q e' h') (st x).1 (st x).2) : HLoop P N c Q e h := by
  intro ann code hc K w a hr
  obtain ⟨K0, s0, r0⟩ := h0 N K w a hr
  have key : Code.wp P (.loop code) (Lift N K0 w Q) a w := by
    refine wp_loop_ghost (fun x a' w' => ∃ K', Step K0 w K' w' ∧ Rel N K' w' (st x).1 (st x).2 a') μ ?_ (x0 := x0) ⟨K0, .refl K0 w, r0⟩
    rintro x a1 w1 ⟨K1, s1, r1⟩
    refine wp_mono (hwp_sound hmix code c hc _ _ _ (round x) K1 w1 a1 r1) ?_
    rintro ex a' w' ⟨q, K', e', h', rfl, s, hr', hq'⟩
    cases q with
    | normal =>
      obtain ⟨x', hlt, hw⟩ := hq'
      obtain ⟨K2, s2, r2⟩ := hw N K' w' a' hr'
      exact ⟨x', hlt, K2, s1.trans (s.trans s2), r2⟩
    | exit i => exact ⟨.exit i, K', e', h', rfl, s1.trans s, hr', hq'⟩
    | ret => exact ⟨.ret, K', e', h', rfl, s1.trans s, hr', hq'⟩
  exact wp_mono key fun _ _ _ h => h.of_step s0

/-! ### functions -/
def argEnvFrom : Nat → List HV → Env
  | _, [] => []
  | i, x :: r => (i, x) :: argEnvFrom (i + 1) r
def argEnv (l : List HV) : Env := argEnvFrom 0 l
theorem argEnv_get : ∀ (l : List HV) (i t : Nat) (x : HV), Env.get (argEnvFrom i l) t = some x → i ≤ t ∧ l[t - i]? = some x
  | [], i, t, x, h => by simp [argEnvFrom, Env.get] at h
  | y :: r, i, t, x, h => by
    simp only [argEnvFrom, Env.get] at h
    split at h
    · rename_i e1
      subst e1
      exact ⟨Nat.le_refl _, by simpa using h⟩
    · obtain ⟨h1, h2⟩ := argEnv_get r (i + 1) t x h
      refine ⟨by omega, ?_⟩
      rw [show t - i = (t - (i + 1)) + 1 by omega]
      exact h2
def resVals (e : Env) : List Nat → Option (List HV)
  | [] => some []
  | t :: r => match e.get t, resVals e r with
    | some v, some vs => some (v :: vs)
    | _, _ => none
def retV : List HV → HV
  | [x] => x
  | vs => .tuple vs

theorem resVals_sound {K : GK} {w : World} {e : Env} {tmps : Array Value} (he : EnvRel K w e tmps) : ∀ {ts : List Nat} {vs : List HV}, resVals e ts = some vs → vs.length = ts.length ∧ ∀ (j : Nat) (v : HV) (t : Nat), vs[j]? = some v → ts[j]? = some t → V K w v (tmps.getD t undef)
  | [], vs, h => by
    simp [resVals] at h
    subst h
    exact ⟨rfl, fun j v t hv => by simp at hv⟩
  | t :: r, vs, h => by
    simp only [resVals] at h
    split at h
    · rename_i v vs' h1 h2
      injection h with h
      subst h
      obtain ⟨h3, h4⟩ := resVals_sound he h2
      refine ⟨by simp [h3], fun j u q hu hq => ?_⟩
      cases j with
      | zero => simp at hu hq; subst hu; subst hq; exact he t v h1
      | succ j => simp at hu hq; exact h4 j u q hu hq
    · cases h

/-- One result. -/
def resOf (tmps : Array Value) : ResultVar → Sem Value
  | .tmp t => pure (tmps.getD t undef)
  | .cell a t => do loadVar t (← asAddr (tmps.getD a undef))

/-- A function by its small code. -/
theorem HCalls.intro (hmix : P.follows .mixedOrders = true) {f : FuncId} {fn : Func} {code : Code} {c : C} {ann : Ann} {ts : List Nat} {args : List HV} {h : Heap} {R : HV → Heap → Prop} (hf : P.funcs[f]? = some fn) (hb : fn.body = some code) (hn : fn.name ≠ "runtime.NumGoroutine")
    (hres : fn.results = (ts.map ResultVar.tmp).toArray) (hargs : args.length ≤ fn.ntmps) (hc : comp P ann fn.ntmps code = some c)
    (hw : HWp P fn.ntmps c (fun q e' h' => (q = .normal ∨ q = .ret) ∧ ∃ vs, resVals e' ts = some vs ∧ R (retV vs) h') (argEnv args) h) : HCalls P f args h R := by
  refine ⟨⟨fn, hf, by rw [hb]; rfl, hn⟩, fun K w vs hh hl hv => ?_⟩
  refine calls_of_wp hf hb (wp_mono (hwp_sound hmix code c hc _ _ _ hw K w _ ⟨hh, fun t x hx => ?_, ?_, rfl⟩) ?_)
  · obtain ⟨_, h2⟩ := argEnv_get args 0 t x hx
    simp only [Nat.sub_zero] at h2
    have hlt := lt_of_get h2
    obtain ⟨v, hvt⟩ := get_of_lt (l := vs) (j := t) (by omega)
    have : (vs.toArray ++ Array.replicate (fn.ntmps - vs.toArray.size) undef).getD t undef = v := by
      rw [Array.getD_eq_getD_getElem?, Array.getElem?_append_left (by simp; omega)]
      simp [hvt]
    rw [this]
    exact hv t x v h2 hvt
  · simp; omega
  · rintro ex a' w' ⟨q, K', e', h', rfl, s, hr', hq, us, hus, hR⟩
    obtain ⟨h1, h2⟩ := resVals_sound hr'.env hus
    have hrun : (results fn a'.tmps).run P w' = .ok (match ts.map fun t => a'.tmps.getD t undef with | [x] => x | l => .tuple l.toArray) w' := by
      have hm : ∀ l : List Nat, (List.mapM (m := Sem) (resOf a'.tmps) (l.map ResultVar.tmp)) = pure (l.map fun t => a'.tmps.getD t undef) := by
        intro l
        induction l with
        | nil => rfl
        | cons x r ih =>
          rw [List.map_cons, List.mapM_cons, ih]
          rfl
      have he : results fn a'.tmps = (do
          let vs ← fn.results.mapM (resOf a'.tmps)
          pure (if h : vs.size = 1 then vs[0] else .tuple vs)) := rfl
      rw [he, hres]
      simp only [List.mapM_toArray, hm, map_pure, pure_bind, Sem.run_pure]
      congr 1
      cases ts with
      | nil => rfl
      | cons x r =>
        cases r with
        | nil => rfl
        | cons y r => simp
    have hV : V K' w' (retV us) (match ts.map fun t => a'.tmps.getD t undef with | [x] => x | l => .tuple l.toArray) := by
      have hall : V K' w' (.tuple us) (.tuple (ts.map fun t => a'.tmps.getD t undef).toArray) := V.tuple us _ (by simp [h1]) (fun j x v hx hv => by
        rw [List.getElem?_map] at hv
        obtain ⟨t, ht, rfl⟩ := Option.map_eq_some_iff.1 hv
        exact h2 j x t hx ht)
      cases ts with
      | nil =>
        cases us with
        | nil => exact hall
        | cons _ _ => simp at h1
      | cons t r =>
        cases us with
        | nil => simp at h1
        | cons u us =>
          cases r with
          | nil =>
            cases us with
            | nil => exact h2 0 u t rfl rfl
            | cons _ _ => simp at h1
          | cons t2 r =>
            cases us with
            | nil => simp at h1
            | cons u2 us => exact hall
    rcases hq with rfl | rfl
    · exact ⟨hr'.defers, _, hrun, _, _, K', h', rfl, s, hr'.heap, hV, hR⟩
    · exact ⟨hr'.defers, _, hrun, _, _, K', h', rfl, s, hr'.heap, hV, hR⟩

end Go.Hw
