/- The judgement of code, closed under weaker states; functions; frames. -/
import Derived.Test.YthikpbaphpdpfaaHwCode2
import Derived.Test.YthikpbaphpdpfaaHwDraw3
set_option linter.unusedVariables false
set_option linter.unusedSimpArgs false
namespace Go.Hw
open Go

variable {P : Program}

/-- No names from m on. -/
def Base (m : Nat) (K : GK) : Prop := ∀ k, m ≤ k → K.rho k = none ∧ K.tb k = none ∧ K.wm k = 0
theorem base_of {K : GK} {h : Heap} {w : World} (hh : HeapRel K h w) : Base h.length K := by
  intro k hk
  have hn : h[k]? = none := List.getElem?_eq_none hk
  refine ⟨?_, ?_, by rw [hh.wm k, hn]⟩
  · cases hr : K.rho k with
    | none => rfl
    | some b => obtain ⟨_, o, h1, _⟩ := hh.obj k b hr; rw [hn] at h1; cases h1
  · cases hr : K.tb k with
    | none => rfl
    | some b => obtain ⟨_, ⟨n, h1⟩, _⟩ := hh.tok k b hr; rw [hn] at h1; cases h1

/-- What code does, spoken of from its function's entry on: names below m are the entry's. -/
def SC (P : Program) (N m : Nat) (c : C) (QQ : Ex → Env → Heap → Prop) (e : Env) (h : Heap) : Prop :=
  ∀ (ann : Ann) (code : Code), comp P ann N code = some c → ∀ (K0 : GK) (w0 : World) (K : GK) (w : World) (a : Act), Base m K0 → Step K0 w0 K w → Rel N K w e h a → code.wp P (Lift N K0 w0 QQ) a w

/-- Weaker states, seen from the entry. -/
def WeakF (m : Nat) (e : Env) (h : Heap) (e' : Env) (h' : Heap) : Prop :=
  ∀ (N : Nat) (K0 : GK) (w0 : World) (K : GK) (w : World) (a : Act), Base m K0 → Step K0 w0 K w → Rel N K w e h a → ∃ K', Step K0 w0 K' w ∧ Rel N K' w e' h' a
theorem WeakF.refl {m : Nat} (e : Env) (h : Heap) : WeakF m e h e h := fun N K0 w0 K w a _ s r => ⟨K, s, r⟩
theorem WeakF.trans {m : Nat} {e e1 e2 : Env} {h h1 h2 : Heap} (x : WeakF m e h e1 h1) (y : WeakF m e1 h1 e2 h2) : WeakF m e h e2 h2 := fun N K0 w0 K w a b s r =>
  let ⟨K1, s1, r1⟩ := x N K0 w0 K w a b s r
  y N K0 w0 K1 w a b s1 r1
theorem WeakF.of {m : Nat} {e e' : Env} {h h' : Heap} (x : Weak e h e' h') : WeakF m e h e' h' := fun N K0 w0 K w a _ s r =>
  let ⟨K', s', r'⟩ := x N K w a r
  ⟨K', s.trans s', r'⟩

section
variable {N m : Nat} {e e' : Env} {h h' : Heap} {QQ : Ex → Env → Heap → Prop}

theorem SC.weak {c : C} (hw : WeakF m e h e' h') (k : SC P N m c QQ e' h') : SC P N m c QQ e h := fun ann code hc K0 w0 K w a b s r =>
  let ⟨K', s', r'⟩ := hw N K0 w0 K w a b s r
  k ann code hc K0 w0 K' w a b s' r'
theorem SC.mono {c : C} {QQ' : Ex → Env → Heap → Prop} (k : SC P N m c QQ e h) (hq : ∀ x e h, QQ x e h → QQ' x e h) : SC P N m c QQ' e h := fun ann code hc K0 w0 K w a b s r =>
  wp_mono (k ann code hc K0 w0 K w a b s r) fun x a' w' ⟨q, K', e', h', h1, h2, h3, h4⟩ => ⟨q, K', e', h', h1, h2, h3, hq _ _ _ h4⟩
/-- Behind a piece: the next one. -/
def SeqS (P : Program) (N m : Nat) (c : C) (QQ : Ex → Env → Heap → Prop) : Ex → Env → Heap → Prop
  | .normal, e, h => SC P N m c QQ e h
  | x, e, h => QQ x e h
def BlkS (id : Nat) (QQ : Ex → Env → Heap → Prop) : Ex → Env → Heap → Prop
  | .exit i, e, h => if i = id then QQ .normal e h else QQ (.exit i) e h
  | x, e, h => QQ x e h
def LoopS {X : Type} (m : Nat) (st : X → Env × Heap) (μ : X → Nat) (x : X) (QQ : Ex → Env → Heap → Prop) : Ex → Env → Heap → Prop
  | .normal, e, h => ∃ x', μ x' < μ x ∧ WeakF m e h (st x').1 (st x').2
  | q, e, h => QQ q e h

/-- From which code a piece of the small code comes. -/
def From (P : Program) (ann : Ann) (N : Nat) (code : Code) : C → Prop
  | .skip => code = .skip
  | .reg l keep => ∃ id ops r, code = .region id ops false ∧ cOps P ann N id ops false ops.toList 0 0 = some (l, r)
  | .dreg pre tail n keep => ∃ id ops l, code = .region id ops true ∧ cOps P ann N id ops true ops.toList 0 0 = some (l, n) ∧ drawOk ops l (quiets ann.acts l) = true ∧ l.take (quiets ann.acts l) = pre ∧ l.drop (quiets ann.acts l) = tail
  | .dord acts alts n keep => ∃ id ops l us ps, code = .region id ops true ∧ cOps P ann N id ops true ops.toList 0 0 = some (l, n) ∧ drawOk3 ops acts l us ps = true ∧ (ps.map fun p => p.map (opOf l)) = alts
  | .seq p q => ∃ x y, code = .seq x y ∧ comp P ann N x = some p ∧ comp P ann N y = some q
  | .cond c p q => ∃ o x y, code = .cond o x y ∧ cX o = some c ∧ comp P ann N x = some p ∧ comp P ann N y = some q
  | .block id p => ∃ x, code = .block id x ∧ comp P ann N x = some p
  | .loop p => ∃ x, code = .loop x ∧ comp P ann N x = some p
  | .exit id => code = .exit id
  | .ret => code = .ret
  | .bad _ => True
theorem comp_from {ann : Ann} {code : Code} {c : C} (hc : comp P ann N code = some c) : From P ann N code c := by
  cases code with
  | skip => simp only [comp, Option.some.injEq] at hc; subst hc; rfl
  | region id ops draw =>
    simp only [comp, Option.bind_eq_bind] at hc
    obtain ⟨⟨l, q⟩, h1, hc⟩ := bind_some hc
    cases draw with
    | false =>
      simp only [Bool.false_eq_true, if_false, Option.some.injEq] at hc
      subst hc
      exact ⟨id, ops, q, rfl, h1⟩
    | true =>
      simp only [if_true] at hc
      split at hc
      · split at hc
        · rename_i hok
          simp only [Option.some.injEq] at hc
          subst hc
          exact ⟨id, ops, l, _, _, rfl, h1, hok, rfl⟩
        · cases hc
      split at hc
      · rename_i hok
        simp only [Option.some.injEq] at hc
        subst hc
        exact ⟨id, ops, l, rfl, h1, hok, rfl, rfl⟩
      · cases hc
  | seq x y =>
    simp only [comp, Option.bind_eq_bind] at hc
    obtain ⟨cx, h1, hc⟩ := bind_some hc
    obtain ⟨cy, h2, hc⟩ := bind_some hc
    injection hc with hc
    subst hc
    exact ⟨x, y, rfl, h1, h2⟩
  | cond o x y =>
    simp only [comp, Option.bind_eq_bind] at hc
    obtain ⟨co, h0, hc⟩ := bind_some hc
    obtain ⟨cx, h1, hc⟩ := bind_some hc
    obtain ⟨cy, h2, hc⟩ := bind_some hc
    injection hc with hc
    subst hc
    exact ⟨o, x, y, rfl, h0, h1, h2⟩
  | block id x =>
    simp only [comp, Option.bind_eq_bind] at hc
    obtain ⟨cx, h1, hc⟩ := bind_some hc
    injection hc with hc
    subst hc
    exact ⟨x, rfl, h1⟩
  | loop x =>
    simp only [comp, Option.bind_eq_bind] at hc
    obtain ⟨cx, h1, hc⟩ := bind_some hc
    injection hc with hc
    subst hc
    exact ⟨x, rfl, h1⟩
  | exit i => simp only [comp, Option.some.injEq] at hc; subst hc; rfl
  | ret => simp only [comp, Option.some.injEq] at hc; subst hc; rfl
  | rangeFunc _ _ _ _ => simp only [comp, Option.some.injEq] at hc; subst hc; trivial
  | scope _ => simp only [comp, Option.some.injEq] at hc; subst hc; trivial
  | label _ => simp only [comp, Option.some.injEq] at hc; subst hc; trivial
  | goto _ => simp only [comp, Option.some.injEq] at hc; subst hc; trivial
  | refuse _ => simp only [comp, Option.some.injEq] at hc; subst hc; trivial

theorem sc_skip (k : QQ .normal e h) : SC P N m .skip QQ e h := by
  intro ann code hc K0 w0 K w a b s r
  have hf := comp_from hc
  simp only [From] at hf
  subst hf
  exact wp_skip ⟨.normal, K, e, h, rfl, s, r, k⟩
theorem sc_exit {id : Nat} (k : QQ (.exit id) e h) : SC P N m (.exit id) QQ e h := by
  intro ann code hc K0 w0 K w a b s r
  have hf := comp_from hc
  simp only [From] at hf
  subst hf
  exact wp_exit ⟨.exit id, K, e, h, rfl, s, r, k⟩
theorem sc_ret (k : QQ .ret e h) : SC P N m .ret QQ e h := by
  intro ann code hc K0 w0 K w a b s r
  have hf := comp_from hc
  simp only [From] at hf
  subst hf
  exact wp_ret ⟨.ret, K, e, h, rfl, s, r, k⟩
theorem sc_seq {p q : C} (k : SC P N m p (SeqS P N m q QQ) e h) : SC P N m (.seq p q) QQ e h := by
  intro ann code hc K0 w0 K w a b s r
  obtain ⟨x, y, rfl, h1, h2⟩ := comp_from hc
  refine wp_seq (wp_mono (k ann x h1 K0 w0 K w a b s r) ?_)
  rintro ex a' w' ⟨q, K', e', h', rfl, s', r', hq⟩
  cases q with
  | normal => exact hq ann y h2 K0 w0 K' w' a' b s' r'
  | exit i => exact ⟨.exit i, K', e', h', rfl, s', r', hq⟩
  | ret => exact ⟨.ret, K', e', h', rfl, s', r', hq⟩
theorem sc_block {id : Nat} {p : C} (k : SC P N m p (BlkS id QQ) e h) : SC P N m (.block id p) QQ e h := by
  intro ann code hc K0 w0 K w a b s r
  obtain ⟨x, rfl, h1⟩ := comp_from hc
  refine wp_block (wp_mono (k ann x h1 K0 w0 K w a b s r) ?_)
  rintro ex a' w' ⟨q, K', e', h', rfl, s', r', hq⟩
  cases q with
  | normal => exact ⟨.normal, K', e', h', rfl, s', r', hq⟩
  | exit j =>
    show Exit.inBlock id (Lift N K0 w0 QQ) (.exit j) a' w'
    simp only [Exit.inBlock]
    simp only [BlkS] at hq
    split
    · rename_i e1; rw [if_pos e1] at hq; exact ⟨.normal, K', e', h', rfl, s', r', hq⟩
    · rename_i e1; rw [if_neg e1] at hq; exact ⟨.exit j, K', e', h', rfl, s', r', hq⟩
  | ret => exact ⟨.ret, K', e', h', rfl, s', r', hq⟩
theorem sc_cond {x : X} {p q : C} {t : Bool} (hx : x.ev e = some (.bool t)) (k1 : t = true → SC P N m p QQ e h) (k2 : t = false → SC P N m q QQ e h) : SC P N m (.cond x p q) QQ e h := by
  intro ann code hc K0 w0 K w a b s r
  obtain ⟨o, y, z, rfl, h0, h1, h2⟩ := comp_from hc
  have hV := ev_sound h0 r.env hx
  generalize hcv : a.eval o = cv at hV
  cases hV
  exact wp_cond_split hcv (fun ht => k1 ht ann y h1 K0 w0 K w a b s r) (fun ht => k2 ht ann z h2 K0 w0 K w a b s r)
theorem sc_reg {ops : List Op} {keep : List Nat} (k : hops (HCalls P) 0 ops e h fun e' h' => QQ .normal (prune e' keep) h') : SC P N m (.reg ops keep) QQ e h := by
  intro ann code hc K0 w0 K w a b s r
  obtain ⟨id, ops', q, rfl, h1⟩ := comp_from hc
  refine wp_region (hops_all (base := 0) (fun _ _ _ _ h => h) (cOps_all h1) e h K w a k r ?_)
  intro K' w' e' h' a' s' r' hq'
  exact ⟨.normal, K', _, h', rfl, s.trans s', prune_rel r' _, hq'⟩
theorem sc_dreg (hmix : P.follows .mixedOrders = true) {pre tail : List Op} {n : Nat} {keep : List Nat} (k : hops (DCalls P) h.length pre e (h ++ List.replicate n .res) fun e' h' => hops (HCalls P) 0 tail e' h' fun e'' h'' => QQ .normal (prune e'' keep) h'') : SC P N m (.dreg pre tail n keep) QQ e h := by
  intro ann code hc K0 w0 K w a b s r
  obtain ⟨id, ops', l, rfl, h1, hok, rfl, rfl⟩ := comp_from hc
  refine wp_region_draw fun t => ?_
  exact draw_sound hmix h1 hok k r t (fun K' w' e' h' a' s' r' hq' => ⟨.normal, K', _, h', rfl, s.trans s', prune_rel r' _, hq'⟩)
theorem sc_dord (hmix : P.follows .mixedOrders = true) {acts : List FuncId} {alts : List (List Op)} {n : Nat} {keep : List Nat} (k : ∀ l ∈ alts, hops (MCalls P acts) h.length l e (h ++ List.replicate n .res) fun e' h' => QQ .normal (prune e' keep) h') : SC P N m (.dord acts alts n keep) QQ e h := by
  intro ann code hc K0 w0 K w a b s r
  obtain ⟨id, ops', l, us, ps, rfl, h1, hok, rfl⟩ := comp_from hc
  refine wp_region_draw fun t => ?_
  exact draw3_sound hmix h1 hok (fun p hp => k _ (List.mem_map.2 ⟨p, hp, rfl⟩)) r t (fun e1 e2 h he hq => by rwa [prune_ee he] at hq) (fun K' w' e' h' a' s' r' hq' => ⟨.normal, K', _, h', rfl, s.trans s', prune_rel r' _, hq'⟩)
theorem sc_loop {c : C} {X : Type} (st : X → Env × Heap) (μ : X → Nat) (x0 : X) (h0 : WeakF m e h (st x0).1 (st x0).2) (round : ∀ x, SC P N m c (LoopS m st μ x QQ) (st x).1 (st x).2) : SC P N m (.loop c) QQ e h := by
  intro ann code hc K0 w0 K w a b s r
  obtain ⟨x, rfl, h1⟩ := comp_from hc
  obtain ⟨K1, s1, r1⟩ := h0 N K0 w0 K w a b s r
  refine wp_loop_ghost (fun x a' w' => ∃ K', Step K0 w0 K' w' ∧ Rel N K' w' (st x).1 (st x).2 a') μ ?_ (x0 := x0) ⟨K1, s1, r1⟩
  rintro x a1 w1 ⟨K2, s2, r2⟩
  refine wp_mono (round x ann _ h1 K0 w0 K2 w1 a1 b s2 r2) ?_
  rintro ex a' w' ⟨q, K', e', h', rfl, s', r', hq⟩
  cases q with
  | normal =>
    obtain ⟨x', hlt, hw⟩ := hq
    obtain ⟨K3, s3, r3⟩ := hw N K0 w0 K' w' a' b s' r'
    exact ⟨x', hlt, K3, s3, r3⟩
  | exit i => exact ⟨.exit i, K', e', h', rfl, s', r', hq⟩
  | ret => exact ⟨.ret, K', e', h', rfl, s', r', hq⟩
end
end Go.Hw
