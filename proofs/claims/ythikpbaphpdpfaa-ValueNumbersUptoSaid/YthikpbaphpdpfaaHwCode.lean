/- Regions, code, calls: the small code's precondition is one of the model's code. -/
import Derived.Test.YthikpbaphpdpfaaHwSound
set_option linter.unusedVariables false
set_option linter.unusedSimpArgs false
namespace Go.Hw
open Go

/-- A call, spoken of by what the memory of Hw is before and after. -/
def HCalls (P : Program) : CallP := fun f args h R =>
  (∃ fn, P.funcs[f]? = some fn ∧ fn.body.isSome = true ∧ fn.name ≠ "runtime.NumGoroutine") ∧
  ∀ (K : GK) (w : World) (vs : List Value), HeapRel K h w → args.length = vs.length → (∀ (j : Nat) (x : HV) (v : Value), args[j]? = some x → vs[j]? = some v → V K w x v) →
    Calls P f vs.toArray w fun en w' => ∃ v x K' h', en = .returned v ∧ Step K w K' w' ∧ HeapRel K' h' w' ∧ V K' w' x v ∧ R x h'

theorem HCalls.mono {P : Program} {f : FuncId} {args : List HV} {h : Heap} {R R' : HV → Heap → Prop} (hc : HCalls P f args h R) (hr : ∀ x h', R x h' → R' x h') : HCalls P f args h R' :=
  ⟨hc.1, fun K w vs hh hl hv => (hc.2 K w vs hh hl hv).mono fun en w' ⟨v, x, K', h', h1, h2, h3, h4, h5⟩ => ⟨v, x, K', h', h1, h2, h3, h4, hr x h' h5⟩⟩

/-! ### pure values -/
/-- Nothing of Hw's own memory is in it, and no token of one's own. -/
inductive PV : HV → Prop
  | bool (b : Bool) : PV (.bool b)
  | int (k : IntKind) (n : Int) : PV (.int k n)
  | str (s : List UInt8) : PV (.str s)
  | list (hs : List HV) (tok : Tok) (ht : ∀ k o s, tok ≠ .own k o s) (h : ∀ (x : HV), x ∈ flat hs → PV x) : PV (.list hs tok)
  | nilslice : PV .nilslice
  | rptr (cs : List HV) (h : ∀ (x : HV), x ∈ cs → PV x) : PV (.rptr cs)
  | nilptr : PV .nilptr
  | nilmap : PV .nilmap
  | func (f : FuncId) (caps : List HV) (h : ∀ (x : HV), x ∈ caps → PV x) : PV (.func f caps)
  | nilfunc : PV .nilfunc
  | nilif : PV .nilif
  | iface (t : Nat) (x : HV) (h : PV x) : PV (.iface t x)
  | agg (cs : List HV) (h : ∀ (x : HV), x ∈ cs → PV x) : PV (.agg cs)
  | tuple (vs : List HV) (h : ∀ (x : HV), x ∈ vs → PV x) : PV (.tuple vs)
  | any : PV .any

theorem V.transfer {K K' : GK} {w : World} {x : HV} {v : Value} (h : V K w x v) (hp : PV x) (hl : ∀ b, K.lim b ≤ K'.lim b) : V K' w x v := by
  induction h with
  | bool b => exact .bool b
  | int k n => exact .int k n
  | str s => exact .str s
  | nil tok _ =>
    cases hp with
    | list _ _ ht _ =>
      refine .nil tok ?_
      cases tok with
      | own k o s => exact absurd rfl (ht k o s)
      | _ => trivial
  | list0 tok _ ad =>
    cases hp with
    | list _ _ ht _ =>
      refine .list0 tok ?_ ad
      cases tok with
      | own k o s => exact absurd rfl (ht k o s)
      | _ => trivial
  | nilslice => exact .nilslice
  | list hs tok b o cap sz vals hw hleaf hv hc hlim hcap htk ih =>
    cases hp with
    | list _ _ ht hall =>
      refine .list hs tok b o cap sz vals hw hleaf (fun j y hy => ih j y hy (hall y (List.mem_of_getElem? hy))) hc (fun h0 => Nat.le_trans (hlim h0) (hl b)) hcap ?_
      cases tok with
      | own k o s => exact absurd rfl (ht k o s)
      | none => trivial
      | full => exact htk
  | arr id off len sz b cap off' hr hcap ho hroom => cases hp
  | arrn id off sz => cases hp
  | arr0 id off sz b o => cases hp
  | rptr cs b o vals hleaf hv hc hlim ih =>
    cases hp with
    | rptr _ hall => exact .rptr cs b o vals hleaf (fun j y hy => ih j y hy (hall y (List.mem_of_getElem? hy))) hc (fun h0 => Nat.le_trans (hlim h0) (hl b))
  | ptr id off b hr => cases hp
  | nilptr => exact .nilptr
  | map id b hr => cases hp
  | nilmap => exact .nilmap
  | func f caps vs hn hv ih =>
    cases hp with
    | func _ _ hall => exact .func f caps vs hn (fun j y u hy hu => ih j y u hy hu (hall y (List.mem_of_getElem? hy)))
  | nilfunc => exact .nilfunc
  | nilif => exact .nilif
  | iface t x v ht hx ih =>
    cases hp with
    | iface _ _ hx' => exact .iface t x v ht (ih hx')
  | agg cs vs hn hleaf hv ih =>
    cases hp with
    | agg _ hall => exact .agg cs vs hn hleaf (fun j y u hy hu => ih j y u hy hu (hall y (List.mem_of_getElem? hy)))
  | tuple cs vs hn hv ih =>
    cases hp with
    | tuple _ hall => exact .tuple cs vs hn (fun j y u hy hu => ih j y u hy hu (hall y (List.mem_of_getElem? hy)))
  | any v h => exact .any v h

/-- A call of a function that only computes: pure values in, one pure value out; Hw's memory is as it was. -/
structure PCall (P : Program) (f : FuncId) (args : List HV) (r : HV) : Prop where
  pargs : ∀ x ∈ args, PV x
  pres : PV r
  call : HCalls P f args [] fun x _ => x.strip1 = r

def GK.bare (K : GK) : GK := { lim := K.lim, rho := fun _ => none, tb := fun _ => none, wm := fun _ => 0 }
theorem heap_bare {K : GK} {h : Heap} {w : World} (hh : HeapRel K h w) : HeapRel K.bare [] w :=
  ⟨fun id b hr => by simp [GK.bare] at hr, fun i j b x y hi => by simp [GK.bare] at hi, fun k => by simp [GK.bare], fun k b hk => by simp [GK.bare] at hk, fun i j b hi => by simp [GK.bare] at hi, hh.limb⟩
theorem not_owned_bare {K : GK} {b : Nat} : ¬ owned K.bare b := by
  rintro (⟨i, h⟩ | ⟨i, h⟩) <;> simp [GK.bare] at h

theorem PCall.use {P : Program} {f : FuncId} {args : List HV} {r : HV} (hp : PCall P f args r) {h : Heap} {R : HV → Heap → Prop} (hr : R r h) : HCalls P f args h R := by
  refine ⟨hp.call.1, fun K w vs hh hl hv => ?_⟩
  refine (hp.call.2 K.bare w vs (heap_bare hh) hl (fun j x v hx hvj => (hv j x v hx hvj).transfer (hp.pargs x (List.mem_of_getElem? hx)) (fun _ => Nat.le_refl _))).mono ?_
  rintro en w' ⟨v, x, K', h', rfl, s, hh', hV, rfl⟩
  have hfr : ∀ b, b < w.heap.size → w'.heap[b]? = w.heap[b]? ∧ K'.lim b = K.lim b := fun b hb => s.frame b hb not_owned_bare
  have hlim : ∀ b, K.lim b ≤ K'.lim b := s.lim
  have st : Step K w { K with lim := K'.lim } w' := by
    refine ⟨s.os, s.tape, s.output, s.size, hlim, fun _ => Nat.le_refl _, fun k _ => ⟨rfl, fun b hb => (hfr b (hh.tok k b hb).1).2⟩, fun _ _ h => h, s.cell, s.shape, fun _ _ h => h, fun b hb _ => hfr b hb⟩
  refine ⟨v, x.strip1, { K with lim := K'.lim }, h, rfl, st, ⟨fun id b hid => ?_, hh.inj, hh.wm, fun k b hk => ?_, hh.tinj, hh'.limb⟩, hV.strip1.transfer hp.pres (fun _ => Nat.le_refl _), hr⟩
  · obtain ⟨h1, o, h2, h3, h4⟩ := hh.obj id b hid
    exact ⟨Nat.lt_of_lt_of_le h1 s.size, o, h2, h3.keep st (hfr b h1).1, fun hlive => by rw [show ({ K with lim := K'.lim } : GK).lim b = K.lim b from (hfr b h1).2]; exact h4 hlive⟩
  · obtain ⟨h1, h2, h3, c, e, fr, h4, h5, h6⟩ := hh.tok k b hk
    exact ⟨Nat.lt_of_lt_of_le h1 s.size, h2, h3, c, e, fr, by rw [(hfr b h1).1]; exact h4, by rw [show ({ K with lim := K'.lim } : GK).lim b = K.lim b from (hfr b h1).2]; exact h5, h6⟩

/-- Calls in a region whose order is drawn: pure ones alone. -/
def DCalls (P : Program) : CallP := fun f args h R => ∃ r, PCall P f args r ∧ R r h

/-! ### operations in a row -/
variable {P : Program}

def OpFor (P : Program) (N : Nat) (ops : Array Oper) (i : Nat) (l : Op) : Prop :=
  ∃ o r m, ops[i]? = some o ∧ (cOp P r m o = some l.o ∨ l.o = .op .bad) ∧ l.dst = o.dst ∧ cGuard ops o.guard = some l.guard ∧ ∀ d, o.dst = some d → d < N
def AllFor (P : Program) (N : Nat) (ops : Array Oper) : List Nat → List Op → Prop
  | [], [] => True
  | i :: is, l :: ls => OpFor P N ops i l ∧ AllFor P N ops is ls
  | _, _ => False

theorem cOp_call {o : Oper} {r : Option Nat} {m : Bool} {f : FuncId} {xs : List X} (hc : cOp P r m o = some (.call f xs)) : ∃ args ts, o.op = .call { callee := .value (.func f), args := args, argTypes := ts } ∧ args.toList.mapM cX = some xs := by
  cases hop : o.op <;> simp only [cOp, hop, Option.map_eq_some_iff, Option.bind_eq_bind, reduceCtorEq, and_false, exists_false] at hc
  rename_i c
  obtain ⟨callee, args, ts⟩ := c
  unfold cCall at hc
  split at hc
  · obtain ⟨q, _, h2⟩ := Option.map_eq_some_iff.1 hc
    cases h2
  · rename_i g heq
    simp only at heq
    subst heq
    obtain ⟨ys, h1, h2⟩ := bind_some hc
    simp at h2
    obtain ⟨rfl, rfl⟩ := h2
    exact ⟨args, ts, rfl, h1⟩
  · obtain ⟨ys, h1, h2⟩ := bind_some hc
    obtain ⟨zs, h3, h4⟩ := bind_some h2
    simp at h4
  · cases hc
theorem cOp_callv {o : Oper} {r : Option Nat} {m : Bool} {f : X} {xs : List X} (hc : cOp P r m o = some (.callv f xs)) : ∃ g args ts, o.op = .call { callee := .value g, args := args, argTypes := ts } ∧ cX g = some f ∧ args.toList.mapM cX = some xs := by
  cases hop : o.op <;> simp only [cOp, hop, Option.map_eq_some_iff, Option.bind_eq_bind, reduceCtorEq, and_false, exists_false] at hc
  rename_i c
  obtain ⟨callee, args, ts⟩ := c
  unfold cCall at hc
  split at hc
  · obtain ⟨q, _, h2⟩ := Option.map_eq_some_iff.1 hc
    cases h2
  · rename_i g heq
    obtain ⟨ys, h1, h2⟩ := bind_some hc
    simp at h2
  · rename_i g hng heq
    simp only at heq
    subst heq
    obtain ⟨ys, h1, h2⟩ := bind_some hc
    obtain ⟨zs, h3, h4⟩ := bind_some h2
    simp at h4
    obtain ⟨rfl, rfl⟩ := h4
    exact ⟨g, args, ts, rfl, h1, h3⟩
  · cases hc

theorem run_callFunc {f : FuncId} {fn : Func} (hf : P.funcs[f]? = some fn) (hb : fn.body.isSome = true) (hn : fn.name ≠ "runtime.NumGoroutine") (args : Array Value) (w : World) : (callFunc f args).run P w = .ok (.enter f args) w := by
  have hb' : fn.body.isNone = false := by cases h : fn.body <;> simp_all
  simp [callFunc, hf, hn]
  intro hnone
  simp [hnone] at hb

theorem env_put {K : GK} {w : World} {e : Env} {a : Act} {dst : Option Nat} {x : HV} {v : Value} {N : Nat} (he : EnvRel K w e a.tmps) (hs : a.tmps.size = N) (hd : ∀ d, dst = some d → d < N) (hv : V K w x v) : EnvRel K w (e.put dst x) (a.put dst v).tmps := by
  cases dst with
  | none => exact he
  | some d =>
    intro t y hy
    simp only [Env.put, Env.get] at hy
    have hdl := hd d rfl
    simp only [Act.put, Array.getD_eq_getD_getElem?, Array.getElem?_setIfInBounds]
    split at hy
    · rename_i hdt
      subst hdt
      injection hy with hy
      subst hy
      simp [hs, hdl]; exact hv
    · rename_i hdt
      rw [if_neg hdt]
      have := he t y hy
      rwa [Array.getD_eq_getD_getElem?] at this
theorem act_put_size (a : Act) (dst : Option Nat) (v : Value) : (a.put dst v).tmps.size = a.tmps.size := by cases dst <;> simp [Act.put]
theorem act_put_defers (a : Act) (dst : Option Nat) (v : Value) : (a.put dst v).defers = a.defers := by cases dst <;> rfl

theorem hops_sound {N : Nat} {ops : Array Oper} {base : Nat} {S : CallP} (hS : ∀ f args h R, S f args h R → HCalls P f args h R) {Q : Env → Heap → Prop} {Q' : Exit → Act → World → Prop} {js : List Nat} : ∀ (is : List Nat) (ls : List Op), AllFor P N ops is ls → ∀ (e : Env) (h : Heap) (K : GK) (w : World) (a : Act), hops S base ls e h Q → Rel N K w e h a →
    (∀ K' w' e' h' a', Step K w K' w' → Rel N K' w' e' h' a' → Q e' h' → wpOps P ops Q' js a' w') → wpOps P ops Q' (is ++ js) a w
  | [], [], _, e, h, K, w, a, hq, hr, hfin => hfin K w e h a (.refl K w) hr hq
  | i :: is, l :: ls, ⟨⟨o, r, m, h1, h2, h3, h4, h5⟩, hrest⟩, e, h, K, w, a, hq, hr, hfin => by
    -- one operation that runs
    have run1 : hcall S base l.o e h (fun v h' => hops S base ls (e.put l.dst v) h' Q) → o.wp P a w (wpOps P ops Q' (is ++ js)) Q' := by
      intro hc
      have next : ∀ {x v K' w' h'}, Step K w K' w' → HeapRel K' h' w' → V K' w' x v → hops S base ls (e.put l.dst x) h' Q → wpOps P ops Q' (is ++ js) (a.put o.dst v) w' := by
        intro x v K' w' h' s hh' hV hk
        rw [h3] at hk
        exact hops_sound hS is ls hrest (e.put o.dst x) h' K' w' (a.put o.dst v) hk ⟨hh', env_put (hr.env.step s) hr.size h5 hV, by rw [act_put_size]; exact hr.size, by rw [act_put_defers]; exact hr.defers⟩ (fun K2 w2 e2 h2 a2 s2 r2 q2 => hfin K2 w2 e2 h2 a2 (s.trans s2) r2 q2)
      rcases h2 with h2 | h2
      rotate_left
      · rw [h2] at hc
        exact hc.elim
      cases hlo : l.o with
      | op ho =>
        rw [hlo] at hc h2
        have hc' : hstep base ho e h (fun v h' => hops S base ls (e.put l.dst v) h' Q) := hc
        obtain ⟨x, v, K', w', h', hg, s, hh', hV, hk⟩ := op_sound base h2 hc' hr.heap hr.env
        unfold Oper.wp
        rcases hg with hg | ⟨hg, hu⟩
        · rw [hg]; exact next s hh' hV hk
        · rw [hg]
          subst hu
          exact next s hh' hV hk
      | call f xs =>
        rw [hlo] at hc h2
        obtain ⟨args, ts, hop, hxs⟩ := cOp_call h2
        simp only [hcall] at hc
        split at hc
        · rename_i vs hvs
          obtain ⟨hl, hv⟩ := evs_sound hr.env hxs hvs
          obtain ⟨⟨fn, hf, hb, hn⟩, hcall⟩ := hS _ _ _ _ hc
          have := hcall K w (args.toList.map a.eval) hr.heap (by simp [hl]) (fun j x v hx hvj => by
            rw [List.getElem?_map] at hx hvj
            obtain ⟨y, hy, rfl⟩ := Option.map_eq_some_iff.1 hx
            obtain ⟨q, hq, rfl⟩ := Option.map_eq_some_iff.1 hvj
            exact (hv j y q hy hq).strip1)
          unfold Oper.wp
          have hrun : (execOp a.eval o).run P w = .ok (.enter f (args.toList.map a.eval).toArray) w := by
            simp only [execOp, hop, resolve, Act.eval, Deferred.ofValue, Sem.run_bind, Sem.run_pure, Result.andThen_ok, invoke]
            rw [run_callFunc hf hb hn]
            congr 2
            apply Array.ext'
            simp
          rw [hrun, Oper.upon_enter]
          refine this.mono ?_
          rintro en w' ⟨v, x, K', h', rfl, s, hh', hV, hk⟩
          exact next s hh' hV hk
        · exact hc.elim
      | callv f xs =>
        rw [hlo] at hc h2
        obtain ⟨g, args, ts, hop, hg, hxs⟩ := cOp_callv h2
        simp only [hcall] at hc
        split at hc
        · rename_i g' caps vs hev hvs
          obtain ⟨hl, hv⟩ := evs_sound hr.env hxs hvs
          have hfv := ev_sound hg hr.env hev
          generalize hgv : a.eval g = gv at hfv
          cases hfv with
          | func _ _ us hn' hus =>
            obtain ⟨⟨fn, hf, hb, hn⟩, hcall⟩ := hS _ _ _ _ hc
            have := hcall K w (args.toList.map a.eval ++ us) hr.heap (by simp [hl, hn']) (fun j x v hx hvj => by
              rw [List.getElem?_append] at hx hvj
              have e1 : (vs.map HV.strip1).length = (args.toList.map a.eval).length := by simp [hl]
              rw [e1] at hx
              split at hx
              · rename_i hj
                rw [if_pos hj] at hvj
                rw [List.getElem?_map] at hx hvj
                obtain ⟨y, hy, rfl⟩ := Option.map_eq_some_iff.1 hx
                obtain ⟨q, hq, rfl⟩ := Option.map_eq_some_iff.1 hvj
                exact (hv j y q hy hq).strip1
              · rename_i hj
                rw [if_neg hj] at hvj
                exact hus _ x v hx hvj)
            unfold Oper.wp
            have hrun : (execOp a.eval o).run P w = .ok (.enter g' (args.toList.map a.eval ++ us).toArray) w := by
              simp only [execOp, hop, resolve, hgv, Deferred.ofValue, Sem.run_bind, Sem.run_pure, Result.andThen_ok, invoke]
              rw [run_callFunc hf hb hn]
              congr 2
              apply Array.ext'
              simp
            rw [hrun, Oper.upon_enter]
            refine this.mono ?_
            rintro en w' ⟨v, x, K', h', rfl, s, hh', hV, hk⟩
            exact next s hh' hV hk
        · exact hc.elim
    have skip1 : hops S base ls (e.put l.dst (.tuple [])) h Q → wpOps P ops Q' (is ++ js) (a.put o.dst undef) w := by
      intro hk
      rw [h3] at hk
      exact hops_sound hS is ls hrest (e.put o.dst (.tuple [])) h K w (a.put o.dst undef) hk ⟨hr.heap, env_put hr.env hr.size h5 (V.tuple [] [] rfl (fun j h v hh => by simp at hh)), by rw [act_put_size]; exact hr.size, by rw [act_put_defers]; exact hr.defers⟩ hfin
    simp only [List.cons_append, wpOps, h1]
    simp only [hops] at hq
    cases hg : o.guard with
    | none =>
      simp only [hg, cGuard, Option.some.injEq] at h4
      rw [← h4] at hq
      rw [if_pos (by simp [Region.wanted, hg])]
      exact .inl (run1 hq)
    | some jb =>
      obtain ⟨j, b⟩ := jb
      simp only [hg, cGuard, Option.bind_eq_bind] at h4
      obtain ⟨oj, hoj, h4⟩ := bind_some h4
      obtain ⟨d, hd, h4⟩ := bind_some h4
      simp only [Option.some.injEq] at h4
      rw [← h4] at hq
      have hy : ∀ x, e.get d = some x → V K w x (a.tmps.getD d undef) := fun x hx => hr.env d x hx
      dsimp only at hq
      split at hq
      · rename_i c hc
        have hV := hy _ hc
        have hyl : yielded ops a.tmps j = some c := by
          simp only [yielded, hoj, hd, Option.bind_some]
          rw [Array.getD_eq_getD_getElem?] at hV
          cases ht : a.tmps[d]? with
          | none => rw [ht] at hV; simp [undef] at hV; cases hV
          | some u => rw [ht] at hV; simp at hV; cases hV; rfl
        by_cases hcb : c = b
        · rw [if_pos (by simp [Region.wanted, hg, hyl, hcb])]
          exact .inl (run1 (hq.1 hcb))
        · rw [if_neg (by simp [Region.wanted, hg, hyl, hcb])]
          exact skip1 (hq.2 hcb)
      · rename_i hc
        have hV := hy _ hc
        have hyl : yielded ops a.tmps j = none := by
          simp only [yielded, hoj, hd, Option.bind_some]
          rw [Array.getD_eq_getD_getElem?] at hV
          cases ht : a.tmps[d]? with
          | none => rfl
          | some u =>
            rw [ht] at hV
            simp at hV
            cases hV
            rfl
        rw [if_neg (by simp [Region.wanted, hg, hyl])]
        exact skip1 hq
      · exact hq.elim
  | [], _ :: _, h, _, _, _, _, _, _, _, _ => h.elim
  | _ :: _, [], h, _, _, _, _, _, _, _, _ => h.elim

end Go.Hw
