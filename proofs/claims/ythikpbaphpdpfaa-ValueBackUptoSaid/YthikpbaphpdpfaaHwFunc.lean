/- Functions, and states that are weaker: names forgotten or renamed. -/
import Derived.Test.YthikpbaphpdpfaaHwSem
set_option linter.unusedVariables false
set_option linter.unusedSimpArgs false
namespace Go.Hw
open Go

variable {P : Program}

/-- Where a result stands: in a slot, or in memory. -/
inductive RS where
  | t (n : Nat)
  | c (slot : Nat) (n : Option Nat)
def resTags (P : Program) : List ResultVar → Option (List RS)
  | [] => some []
  | .tmp t :: r => (resTags P r).map (.t t :: ·)
  | .cell a t :: r => match tagg P t, resTags P r with
    | some n, some l => some (.c a n :: l)
    | _, _ => none
def resVal (e : Env) (h : Heap) : RS → Option HV
  | .t n => e.get n
  | .c s n => match e.get s with
    | some (.ptr id off) => match Heap.cells h id with
      | some cs => atCells n (cs.drop off)
      | none => none
    | _ => none
def resVals2 (e : Env) (h : Heap) : List RS → Option (List HV)
  | [] => some []
  | r :: l => match resVal e h r, resVals2 e h l with
    | some v, some vs => some (v :: vs)
    | _, _ => none
/-- Behind the whole body. -/
def RetS (rs : List RS) (m : Nat) (R : HV → Heap → Prop) : Ex → Env → Heap → Prop := fun q e h => (q = .normal ∨ q = .ret) ∧ ∃ e' h', WeakF m e h e' h' ∧ ∃ vs, resVals2 e' h' rs = some vs ∧ R (retV vs) h'

theorem res_run {N : Nat} {K : GK} {w : World} {e : Env} {h : Heap} {a : Act} (hr : Rel N K w e h a) : ∀ {vars : List ResultVar} {rs : List RS} {vs : List HV}, resTags P vars = some rs → resVals2 e h rs = some vs →
    ∃ us : List Value, (vars.mapM (m := Sem) (resOf a.tmps)).run P w = .ok us w ∧ us.length = vars.length ∧ vs.length = vars.length ∧ ∀ (j : Nat) (x : HV) (u : Value), vs[j]? = some x → us[j]? = some u → V K w x u
  | [], rs, vs, h1, h2 => by
    simp only [resTags, Option.some.injEq] at h1
    subst h1
    simp only [resVals2, Option.some.injEq] at h2
    subst h2
    exact ⟨[], rfl, rfl, rfl, fun j x u hx => by simp at hx⟩
  | v :: vars, rs, vs, h1, h2 => by
    have step : ∀ {r : RS} {l : List RS} {u : Value}, resTags P vars = some l → (resOf a.tmps v).run P w = .ok u w → (∀ x, resVal e h r = some x → V K w x u) → rs = r :: l →
        ∃ us : List Value, ((v :: vars).mapM (m := Sem) (resOf a.tmps)).run P w = .ok us w ∧ us.length = (v :: vars).length ∧ vs.length = (v :: vars).length ∧ ∀ (j : Nat) (x : HV) (u : Value), vs[j]? = some x → us[j]? = some u → V K w x u := by
      intro r l u g1 g2 g3 g4
      subst g4
      simp only [resVals2] at h2
      split at h2
      · rename_i x xs g5 g6
        injection h2 with h2
        subst h2
        obtain ⟨us, k1, k2, k3, k4⟩ := res_run hr g1 g6
        refine ⟨u :: us, ?_, by simp [k2], by simp [k3], fun j y z hy hz => ?_⟩
        · rw [List.mapM_cons]
          simp only [Sem.run_bind, g2, Result.andThen_ok, k1, Sem.run_pure]
        · cases j with
          | zero => simp at hy hz; subst hy; subst hz; exact g3 x g5
          | succ j => exact k4 j y z (by simpa using hy) (by simpa using hz)
      · cases h2
    cases v with
    | tmp t =>
      simp only [resTags, Option.map_eq_some_iff] at h1
      obtain ⟨l, g1, g2⟩ := h1
      exact step (r := .t t) g1 rfl (fun x hx => hr.env t x hx) g2.symm
    | cell s t =>
      simp only [resTags] at h1
      split at h1
      · rename_i n l g0 g1
        injection h1 with h1
        have h1' := h1.symm
        -- the value of the cell
        have hval : ∃ x, resVal e h (.c s n) = some x := by
          subst h1'
          simp only [resVals2] at h2
          split at h2
          · rename_i x xs g5 g6; exact ⟨x, g5⟩
          · cases h2
        obtain ⟨x, hx⟩ := hval
        have hx0 := hx
        simp only [resVal] at hx
        split at hx
        · rename_i id off hg
          split at hx
          · rename_i cs hcs
            have hV := hr.env s _ hg
            generalize hcv : a.tmps.getD s undef = cv at hV
            cases hV with
            | ptr _ _ b hrho =>
              obtain ⟨c, et, fr, hb, hlen, _, hvs⟩ := heap_cells hr.heap hrho hcs
              obtain ⟨u, k1, k2⟩ := run_loadVar_at (P := P) (K := K) (w := w) g0 (b := b) (off := off) (cs := cs.drop off) hx (fun j y hy => by
                rw [List.getElem?_drop] at hy
                obtain ⟨l', v', k1, k2⟩ := hvs _ y hy
                exact ⟨l', v', by rw [cell_of_row w b (off + j) c et fr hb]; exact k1, k2⟩)
              refine step (u := u) g1 ?_ (fun y hy => ?_) h1'
              · show (do loadVar t (← asAddr (a.tmps.getD s undef)) : Sem Value).run P w = .ok u w
                rw [hcv]
                simpa [asAddr] using k1
              · rw [hx0] at hy
                injection hy with hy
                subst hy
                exact k2
          · cases hx
        · cases hx
      · cases h1

def packV : List Value → Value
  | [x] => x
  | l => .tuple l.toArray
theorem sc_func {f : FuncId} {fn : Func} {code : Code} {c : C} {ann : Ann} {rs : List RS} {args : List HV} {h : Heap} {R : HV → Heap → Prop} (hf : P.funcs[f]? = some fn) (hb : fn.body = some code) (hn : fn.name ≠ "runtime.NumGoroutine")
    (hres : resTags P fn.results.toList = some rs) (hargs : args.length ≤ fn.ntmps) (hc : comp P ann fn.ntmps code = some c)
    (hw : SC P fn.ntmps h.length c (RetS rs h.length R) (argEnv args) h) : HCalls P f args h R := by
  refine ⟨⟨fn, hf, by rw [hb]; rfl, hn⟩, fun K w vs hh hl hv => ?_⟩
  refine calls_of_wp hf hb (wp_mono (hw ann code hc K w K w _ (base_of hh) (.refl K w) ⟨hh, fun t x hx => ?_, ?_, rfl⟩) ?_)
  · obtain ⟨_, h2⟩ := argEnv_get args 0 t x hx
    simp only [Nat.sub_zero] at h2
    have hlt := lt_of_get h2
    obtain ⟨v, hvt⟩ := get_of_lt (l := vs) (j := t) (by omega)
    have : (vs.toArray ++ Array.replicate (fn.ntmps - vs.toArray.size) undef).getD t undef = v := by
      rw [Array.getD_eq_getD_getElem?, Array.getElem?_append_left (by simp; omega)]
      simp [hvt]
    rw [this]
    exact hv t x v h2 hvt
  · simp; omega
  · rintro ex a' w' ⟨q, K1, e1, h1, rfl, s1, r1, hq, e', h', hwk, xs, hxs, hR⟩
    obtain ⟨K', s, hr'⟩ := hwk fn.ntmps K w K1 w' a' (base_of hh) s1 r1
    obtain ⟨us, k1, k2, k3, k4⟩ := res_run (P := P) hr' hres hxs
    have hrun : (results fn a'.tmps).run P w' = .ok (packV us) w' := by
      have he : results fn a'.tmps = (do
          let vs ← fn.results.mapM (resOf a'.tmps)
          pure (if h : vs.size = 1 then vs[0] else .tuple vs)) := rfl
      have hr2 : fn.results = fn.results.toList.toArray := by simp
      have hm : (fn.results.mapM (resOf a'.tmps)).run P w' = .ok us.toArray w' := by
        rw [hr2]
        simp only [List.mapM_toArray, Sem.run_map, k1, Result.andThen_ok]
      rw [he]
      simp only [Sem.run_bind, hm, Result.andThen_ok, Sem.run_pure]
      congr 1
      cases us with
      | nil => rfl
      | cons x r =>
        cases r with
        | nil => rfl
        | cons y r => simp [packV]
    have hV : V K' w' (retV xs) (packV us) := by
      have hall : V K' w' (.tuple xs) (.tuple us.toArray) := V.tuple xs us (by omega) k4
      cases us with
      | nil =>
        cases xs with
        | nil => exact hall
        | cons _ _ => simp at k2 k3; omega
      | cons t r =>
        cases xs with
        | nil => simp at k2 k3; omega
        | cons u xs =>
          cases r with
          | nil =>
            cases xs with
            | nil => exact k4 0 u t rfl rfl
            | cons _ _ => simp at k2 k3; omega
          | cons t2 r =>
            cases xs with
            | nil => simp at k2 k3; omega
            | cons u2 us => exact hall
    rcases hq with rfl | rfl
    · exact ⟨hr'.defers, _, hrun, _, _, K', h', rfl, s, hr'.heap, hV, hR⟩
    · exact ⟨hr'.defers, _, hrun, _, _, K', h', rfl, s, hr'.heap, hV, hR⟩

/-! ### names forgotten and renamed -/
/-- x, whose names are those of σ's places, is y by its old names. -/
inductive Ren (σ : List Nat) : HV → HV → Prop
  | pv (x : HV) (h : PV x) : Ren σ x x
  | own (hs : List HV) (i j off sz : Nat) (hσ : σ[i]? = some j) (h : ∀ (x : HV), x ∈ flat hs → PV x) : Ren σ (.list hs (.own i off sz)) (.list hs (.own j off sz))
  | ptr (i j off : Nat) (hσ : σ[i]? = some j) : Ren σ (.ptr i off) (.ptr j off)
  | map (i j : Nat) (hσ : σ[i]? = some j) : Ren σ (.map i) (.map j)
  | arr (i j off len sz : Nat) (hσ : σ[i]? = some j) : Ren σ (.arr i off len sz) (.arr j off len sz)
  | agg (xs ys : List HV) (hl : xs.length = ys.length) (h : ∀ (j : Nat) (x y : HV), xs[j]? = some x → ys[j]? = some y → Ren σ x y) (hleaf : ∀ x ∈ xs, x.leaf = true) : Ren σ (.agg xs) (.agg ys)
  | tuple (xs ys : List HV) (hl : xs.length = ys.length) (h : ∀ (j : Nat) (x y : HV), xs[j]? = some x → ys[j]? = some y → Ren σ x y) : Ren σ (.tuple xs) (.tuple ys)
  | func (f : FuncId) (xs ys : List HV) (hl : xs.length = ys.length) (h : ∀ (j : Nat) (x y : HV), xs[j]? = some x → ys[j]? = some y → Ren σ x y) : Ren σ (.func f xs) (.func f ys)
/-- The same names, seen through σ. -/
def GK.ren (σ : List Nat) (K : GK) : GK := { lim := K.lim, rho := fun i => (σ[i]?).bind K.rho, tb := fun i => (σ[i]?).bind K.tb, wm := fun i => match σ[i]? with | some j => K.wm j | none => 0 }
theorem Ren.V {σ : List Nat} {K : GK} {w : World} {x y : HV} (hr : Ren σ x y) : ∀ {v : Value}, V K w y v → V (K.ren σ) w x v := by
  induction hr with
  | pv x h => intro v hv; exact hv.transfer h (fun _ => Nat.le_refl _)
  | own hs i j off sz hσ h =>
    intro v hv
    have hw : (K.ren σ).wm i = K.wm j := by simp [GK.ren, hσ]
    have ht : (K.ren σ).tb i = K.tb j := by simp [GK.ren, hσ]
    cases hv with
    | nil _ htn => exact .nil _ (by simpa [TokNil, hw] using htn)
    | list0 _ htn ad => exact .list0 _ (by simpa [TokNil, hw] using htn) ad
    | list _ _ b o cap sz' vals hw' hleaf hvv hc hlim hcap htk =>
      refine .list hs _ b o cap sz' vals hw' hleaf (fun q z hz => (hvv q z hz).transfer (h z (List.mem_of_getElem? hz)) (fun _ => Nat.le_refl _)) hc hlim hcap ?_
      obtain ⟨t1, t2, t3⟩ := htk
      exact ⟨by rw [hw]; exact t1, t2, fun he => by rw [hw] at he; rw [ht]; exact t3 he⟩
  | ptr i j off hσ => intro v hv; cases hv with | ptr _ _ b hr => exact .ptr _ _ b (by simp [GK.ren, hσ, hr])
  | map i j hσ => intro v hv; cases hv with | map _ b hr => exact .map _ b (by simp [GK.ren, hσ, hr])
  | arr i j off len sz hσ =>
    intro v hv
    cases hv with
    | arr _ _ _ _ b cap off' hr hcap ho hroom => exact .arr _ _ _ _ b cap off' (by simp [GK.ren, hσ, hr]) hcap ho hroom
    | arrn => exact .arrn _ _ _
    | arr0 => exact .arr0 _ _ _ _ _
  | agg xs ys hl h hleaf ih =>
    intro v hv
    cases hv with
    | agg _ vs hn _ hvv => exact .agg xs vs (by omega) hleaf (fun q x u hx hu => by
        obtain ⟨y, hy⟩ := get_of_lt (l := ys) (j := q) (by rw [← hl]; exact lt_of_get hx)
        exact ih q x y hx hy (hvv q y u hy hu))
  | tuple xs ys hl h ih =>
    intro v hv
    cases hv with
    | tuple _ vs hn hvv => exact .tuple xs vs (by omega) (fun q x u hx hu => by
        obtain ⟨y, hy⟩ := get_of_lt (l := ys) (j := q) (by rw [← hl]; exact lt_of_get hx)
        exact ih q x y hx hy (hvv q y u hy hu))
  | func f xs ys hl h ih =>
    intro v hv
    cases hv with
    | func _ _ vs hn hvv => exact .func f xs vs (by omega) (fun q x u hx hu => by
        obtain ⟨y, hy⟩ := get_of_lt (l := ys) (j := q) (by rw [← hl]; exact lt_of_get hx)
        exact ih q x y hx hy (hvv q y u hy hu))
/-- An object, by old names. -/
def RenO (σ : List Nat) : HObj → HObj → Prop
  | .cells xs, .cells ys => xs.length = ys.length ∧ ∀ (j : Nat) (x y : HV), xs[j]? = some x → ys[j]? = some y → Ren σ x y ∧ x.leaf = true
  | .map es c, .map fs d => c = d ∧ es.length = fs.length ∧ ∀ (j n m : Nat) (x y x' y' : HV), es[j]? = some (n, x, y) → fs[j]? = some (m, x', y') → n = m ∧ Ren σ x x' ∧ Ren σ y y' ∧ isTuple x = false ∧ isTuple y = false
  | .iter none a b c, .iter none a' b' c' => a = a' ∧ b = b' ∧ c = c'
  | .iter (some i) a b c, .iter (some j) a' b' c' => σ[i]? = some j ∧ a = a' ∧ b = b' ∧ c = c'
  | .siter s p, .siter t q => s = t ∧ p = q
  | .tok n, .tok m => n = m
  | .dead, .dead => True
  | .res, .res => True
  | .dead, o => ¬ (∃ n, o = .tok n)
  | _, _ => False
theorem RenO.live {σ : List Nat} {o' o : HObj} (hr : RenO σ o' o) (hl : o'.live) : o.live := by
  cases o' <;> cases o <;> simp only [RenO] at hr <;> first
    | trivial
    | exact hl.elim
    | exact hr.elim
    | (rename_i a _ _ _ b _ _ _; cases a <;> cases b <;> first | trivial | exact hr.elim)
    | (rename_i a _ _ _; cases a <;> exact hr.elim)
theorem RenO.tok {σ : List Nat} {o' o : HObj} (hr : RenO σ o' o) : (match o' with | .tok n => n | _ => 0) = (match o with | .tok n => n | _ => 0) := by
  cases o' <;> cases o <;> simp only [RenO] at hr <;> first
    | rfl
    | exact hr
    | exact hr.elim
    | (exfalso; exact hr ⟨_, rfl⟩)
    | (rename_i a _ _ _; cases a <;> exact hr.elim)
theorem RenO.ok {σ : List Nat} {K : GK} {w : World} {b : Nat} {o' o : HObj} (hr : RenO σ o' o) (ho : ObjOk K w b o) : ObjOk (K.ren σ) w b o' := by
  cases o' with
  | cells xs =>
    cases o <;> simp only [RenO] at hr
    rename_i ys
    obtain ⟨c, e, fr, h1, h2, h3, h4⟩ := ho
    refine ⟨c, e, fr, h1, by omega, h3, fun j x hx => ?_⟩
    obtain ⟨y, hy⟩ := get_of_lt (l := ys) (j := j) (by rw [← hr.1]; exact lt_of_get hx)
    obtain ⟨_, v, h5, h6⟩ := h4 j y hy
    obtain ⟨h7, h8⟩ := hr.2 j x y hx hy
    exact ⟨h8, v, h5, h7.V h6⟩
  | map es c =>
    cases o <;> simp only [RenO] at hr
    rename_i fs d
    obtain ⟨rfl, hl, hr⟩ := hr
    obtain ⟨ms, h1, h2, h3⟩ := ho
    refine ⟨ms, h1, by omega, fun j n x y hx => ?_⟩
    obtain ⟨⟨n', x', y'⟩, hy⟩ := get_of_lt (l := fs) (j := j) (by rw [← hl]; exact lt_of_get hx)
    obtain ⟨m, h4, h5, _, _, h6, h7⟩ := h3 j n' x' y' hy
    obtain ⟨rfl, g1, g2, g3, g4⟩ := hr j n n' x y x' y' hx hy
    exact ⟨m, h4, h5, g3, g4, g1.V h6, g2.V h7⟩
  | iter a p q r =>
    cases o with
    | iter a' p' q' r' =>
      cases a with
      | none =>
        cases a' with
        | none =>
          simp only [RenO] at hr
          obtain ⟨rfl, rfl, rfl⟩ := hr
          exact ho
        | some _ => simp only [RenO] at hr
      | some i =>
        cases a' with
        | none => simp only [RenO] at hr
        | some j =>
          simp only [RenO] at hr
          obtain ⟨h1, rfl, rfl, rfl⟩ := hr
          obtain ⟨b', h2, h3⟩ := ho
          exact ⟨b', by simp [GK.ren, h1, h2], h3⟩
    | _ => cases a <;> simp only [RenO] at hr
  | siter s p =>
    cases o <;> simp only [RenO] at hr
    obtain ⟨rfl, rfl⟩ := hr
    exact ho
  | tok n => cases o <;> simp only [RenO] at hr; exact ho
  | dead => trivial
  | res => cases o <;> simp only [RenO] at hr; exact ho
theorem nodup_inj : ∀ {l : List Nat}, l.Nodup → ∀ (i j k : Nat), l[i]? = some k → l[j]? = some k → i = j
  | [], _, i, j, k, h, _ => by simp at h
  | a :: l, hn, i, j, k, hi, hj => by
    obtain ⟨h1, h2⟩ := List.nodup_cons.1 hn
    cases i with
    | zero =>
      cases j with
      | zero => rfl
      | succ j =>
        simp at hi hj
        subst hi
        exact absurd (List.mem_of_getElem? hj) h1
    | succ i =>
      cases j with
      | zero =>
        simp at hi hj
        subst hj
        exact absurd (List.mem_of_getElem? hi) h1
      | succ j => rw [nodup_inj h2 i j k (by simpa using hi) (by simpa using hj)]
theorem WeakF.ren {m : Nat} {e e' : Env} {h h' : Heap} (σ : List Nat) (hid : ∀ i, i < m → σ[i]? = some i) (hnd : σ.Nodup) (hlen : h'.length = σ.length) (hobj : ∀ (i j : Nat) (o' : HObj), h'[i]? = some o' → σ[i]? = some j → ∃ o, h[j]? = some o ∧ RenO σ o' o ∧ o' ≠ .tok 0)
    (henv : ∀ t x', e'.get t = some x' → ∃ x, e.get t = some x ∧ (Ren σ x' x ∨ Ren σ x' x.strip1)) : WeakF m e h e' h' := by
  intro N K0 w0 K w a hb s r
  have hinj := nodup_inj hnd
  have hσ : ∀ {i b : Nat} {f : Nat → Option Nat}, (σ[i]?).bind f = some b → ∃ j : Nat, σ[i]? = some j ∧ f j = some b := fun h => Option.bind_eq_some_iff.1 h
  have hown : ∀ b, owned (K.ren σ) b → owned K b := by
    rintro b (⟨i, h1⟩ | ⟨i, h1⟩)
    · obtain ⟨j, _, h2⟩ := hσ h1; exact .inl ⟨j, h2⟩
    · obtain ⟨j, _, h2⟩ := hσ h1; exact .inr ⟨j, h2⟩
  have hget : ∀ {i j : Nat}, σ[i]? = some j → ∃ o', h'[i]? = some o' := fun hi => get_of_lt (by rw [hlen]; exact lt_of_get hi)
  have hwm : ∀ i, (K.ren σ).wm i = match h'[i]? with | some (.tok n) => n | _ => 0 := by
    intro i
    simp only [GK.ren]
    cases hi : σ[i]? with
    | none =>
      have : h'[i]? = none := List.getElem?_eq_none (by rw [hlen]; exact List.getElem?_eq_none_iff.1 hi)
      rw [this]
    | some j =>
      obtain ⟨o', ho'⟩ := hget hi
      obtain ⟨o, h1, h2, _⟩ := hobj i j o' ho' hi
      have := h2.tok
      simp only
      rw [r.heap.wm j, h1, ho']
      cases o' <;> cases o <;> exact this.symm
  refine ⟨K.ren σ, ⟨s.os, s.tape, s.output, s.size, s.lim, fun k => ?_, fun k hk => ?_, fun id b hid' => ?_, s.cell, s.shape, fun b hlt ho => s.own b hlt (hown b ho), fun b hlt ho => s.frame b hlt ho⟩, ⟨⟨fun id b hr => ?_, fun i j b x y hi hj hx hy lx ly => ?_, hwm, fun k b hk => ?_, fun i j b hi hj => ?_, r.heap.limb⟩, fun t x hx => ?_, r.size, r.defers⟩⟩
  · rcases Nat.lt_or_ge k m with hk | hk
    · simp only [GK.ren, hid k hk]; exact s.wm k
    · rw [(hb k hk).2.2]; exact Nat.zero_le _
  · rcases Nat.lt_or_ge k m with hkm | hkm
    · simp only [GK.ren, hid k hkm] at hk ⊢
      exact s.tok k hk
    · obtain ⟨_, h2, h3⟩ := hb k hkm
      refine ⟨?_, fun b h => by rw [h2] at h; cases h⟩
      rw [h2]
      simp only [GK.ren]
      cases hi : σ[k]? with
      | none => rfl
      | some j =>
        cases ht : K.tb j with
        | none => simp [ht]
        | some b =>
          exfalso
          obtain ⟨_, ⟨n, hn⟩, _⟩ := r.heap.tok j b ht
          obtain ⟨o', ho'⟩ := hget hi
          obtain ⟨o, h4, h5, h6⟩ := hobj k j o' ho' hi
          rw [hn] at h4
          injection h4 with h4
          subst h4
          have h7 := h5.tok
          rw [hwm k, ho', h3] at hk
          cases o' <;> simp only [RenO] at h5 <;> first
            | (subst h5; simp at hk; exact h6 (by rw [hk]))
            | exact h5 ⟨_, rfl⟩
            | (rename_i q _ _ _; cases q <;> exact h5.elim)
  · have hkm : id < m := by
      rcases Nat.lt_or_ge id m with h | h
      · exact h
      · rw [(hb id h).1] at hid'; cases hid'
    simp only [GK.ren, hid id hkm]
    exact s.rho id b hid'
  · obtain ⟨j, h1, h2⟩ := hσ hr
    obtain ⟨o', ho'⟩ := hget h1
    obtain ⟨o, h3, h4, _⟩ := hobj id j o' ho' h1
    obtain ⟨g1, o2, g2, g3, g4⟩ := r.heap.obj j b h2
    rw [h3] at g2
    injection g2 with g2
    subst g2
    exact ⟨g1, o', ho', h4.ok g3, fun hl => g4 (h4.live hl)⟩
  · obtain ⟨i', h1, h2⟩ := hσ hi
    obtain ⟨j', h3, h4⟩ := hσ hj
    obtain ⟨o1, h5, h6, _⟩ := hobj i i' x hx h1
    obtain ⟨o2, h7, h8, _⟩ := hobj j j' y hy h3
    have := r.heap.inj i' j' b o1 o2 h2 h4 h5 h7 (h6.live lx) (h8.live ly)
    subst this
    exact hinj i j i' h1 h3
  · obtain ⟨j, h1, h2⟩ := hσ hk
    obtain ⟨g1, ⟨n, g2⟩, g3, g4⟩ := r.heap.tok j b h2
    obtain ⟨o', ho'⟩ := hget h1
    obtain ⟨o, h3, h4, _⟩ := hobj k j o' ho' h1
    rw [g2] at h3
    injection h3 with h3
    subst h3
    refine ⟨g1, ⟨n, ?_⟩, fun id o hid2 ho2 hl => ?_, g4⟩
    · cases o' <;> simp only [RenO] at h4 <;> first
        | (subst h4; exact ho')
        | (exfalso; exact h4 ⟨_, rfl⟩)
        | (rename_i q _ _ _; cases q <;> exact h4.elim)
    · obtain ⟨i', h5, h6⟩ := hσ hid2
      obtain ⟨o2, h7, h8, _⟩ := hobj id i' o ho2 h5
      exact g3 i' o2 h6 h7 (h8.live hl)
  · obtain ⟨i', h1, h2⟩ := hσ hi
    obtain ⟨j', h3, h4⟩ := hσ hj
    have := r.heap.tinj i' j' b h2 h4
    subst this
    exact hinj i j i' h1 h3
  · obtain ⟨y, h1, h2⟩ := henv t x hx
    rcases h2 with h2 | h2
    · exact h2.V (r.env t y h1)
    · exact h2.V (r.env t y h1).strip1
end Go.Hw
