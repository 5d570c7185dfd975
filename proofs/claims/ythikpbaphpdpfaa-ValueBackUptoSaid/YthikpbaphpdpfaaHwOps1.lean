/- Operations that leave memory alone: what the small code says of them holds of the model's. -/
import Derived.Test.YthikpbaphpdpfaaHwRel
import Derived.Laws.Slices
set_option linter.unusedVariables false
set_option linter.unusedSimpArgs false
namespace Go.Hw
open Go

variable {P : Program}

theorem V_leafConst {K : GK} {w : World} : ∀ {v : Value} {x : HV}, leafConst v = some x → V K w x v ∧ x.leaf = true := by
  intro v x h
  unfold leafConst at h
  split at h <;> first
    | (cases h; done)
    | (injection h with h; subst h; refine ⟨?_, rfl⟩; first
        | exact .bool _
        | exact .int _ _
        | exact .nil _ trivial
        | exact .nilptr
        | exact .nilmap
        | exact .nilfunc
        | exact .nilif
        | (rename_i s; have := V.str (K := K) (w := w) s.data.toList; simpa using this))

theorem mapM_some {α β : Type} {f : α → Option β} : ∀ {l : List α} {r : List β}, l.mapM f = some r → l.length = r.length ∧ ∀ (j : Nat) (x : α) (y : β), l[j]? = some x → r[j]? = some y → f x = some y
  | [], r, h => by
    simp at h
    subst h
    exact ⟨rfl, fun j x y hx => by simp at hx⟩
  | a :: l, r, h => by
    rw [List.mapM_cons] at h
    cases ha : f a with
    | none => simp [ha] at h
    | some b =>
      cases hl : l.mapM f with
      | none => simp [ha, hl] at h
      | some m =>
        simp [ha, hl] at h
        subst h
        obtain ⟨h1, h2⟩ := mapM_some hl
        refine ⟨by simp [h1], fun j x y hx hy => ?_⟩
        cases j with
        | zero => simp at hx hy; subst hx; subst hy; exact ha
        | succ j => simp at hx hy; exact h2 j x y hx hy

theorem mem_get {α : Type} {l : List α} {x : α} (h : x ∈ l) : ∃ j : Nat, l[j]? = some x := by
  obtain ⟨j, hj, rfl⟩ := List.mem_iff_getElem.1 h
  exact ⟨j, by simp [hj]⟩
theorem get_of_lt {α : Type} {l : List α} {j : Nat} (h : j < l.length) : ∃ x, l[j]? = some x := ⟨l[j], by simp [h]⟩
theorem lt_of_get {α : Type} {l : List α} {j : Nat} {x : α} (h : l[j]? = some x) : j < l.length := (List.getElem?_eq_some_iff.1 h).1

theorem V_hconst {K : GK} {w : World} {v : Value} {x : HV} (h : hconst v = some x) : V K w x v := by
  unfold hconst at h
  split at h
  · rename_i cs
    cases hm : cs.toList.mapM leafConst with
    | none => simp [hm] at h
    | some l =>
      simp [hm] at h
      subst h
      obtain ⟨h1, h2⟩ := mapM_some hm
      refine V.ofAgg l cs (by simpa using h1.symm) (fun y hy => ?_) (fun j y u hy hu => ?_)
      · obtain ⟨j, hj⟩ := mem_get hy
        obtain ⟨z, hz⟩ := get_of_lt (l := cs.toList) (j := j) (by rw [h1]; exact lt_of_get hj)
        exact (V_leafConst (K := K) (w := w) (h2 j z y hz hj)).2
      · exact (V_leafConst (h2 j u y (by simpa using hu) hy)).1
  · exact (V_leafConst h).1

/-- An operand. -/
theorem ev_sound {K : GK} {w : World} {e : Env} {a : Act} {x : Operand} {y : X} {v : HV} (hx : cX x = some y) (he : EnvRel K w e a.tmps) (hv : y.ev e = some v) : V K w v (a.eval x) := by
  cases x with
  | tmp t => simp [cX] at hx; subst hx; exact he t v hv
  | const c =>
    simp only [cX, Option.map_eq_some_iff] at hx
    obtain ⟨z, hz, rfl⟩ := hx
    simp only [X.ev, Option.some.injEq] at hv
    subst hv
    exact V_hconst hz
  | func f =>
    simp [cX] at hx
    subst hx
    simp only [X.ev, Option.some.injEq] at hv
    subst hv
    exact V.func f [] [] rfl (fun j h v hh => by simp at hh)
  | global g => simp [cX] at hx
theorem eve_sound {K : GK} {w : World} {e : Env} {a : Act} {x : Operand} {y : X} {v : HV} (hx : cXe x = some y) (he : EnvRel K w e a.tmps) (hv : y.ev e = some v) : V K w v (a.eval x) := by
  unfold cXe at hx
  split at hx
  · injection hx with hx
    subst hx
    simp only [X.ev, Option.some.injEq] at hv
    subst hv
    exact .nilslice
  · exact ev_sound hx he hv
theorem evs_sound {K : GK} {w : World} {e : Env} {a : Act} (he : EnvRel K w e a.tmps) : ∀ {xs : List Operand} {ys : List X} {vs : List HV}, xs.mapM cX = some ys → evs e ys = some vs →
    vs.length = xs.length ∧ ∀ (j : Nat) (v : HV) (x : Operand), vs[j]? = some v → xs[j]? = some x → V K w v (a.eval x)
  | [], ys, vs, h, hv => by
    simp at h
    subst h
    simp [evs] at hv
    subst hv
    exact ⟨rfl, fun j v x h => by simp at h⟩
  | x :: xs, ys, vs, h, hv => by
    rw [List.mapM_cons] at h
    cases hx : cX x with
    | none => simp [hx] at h
    | some y =>
      cases hxs : xs.mapM cX with
      | none => simp [hx, hxs] at h
      | some l =>
        simp [hx, hxs] at h
        subst h
        simp only [evs] at hv
        cases h1 : y.ev e with
        | none => simp [h1] at hv
        | some v1 =>
          cases h2 : evs e l with
          | none => simp [h1, h2] at hv
          | some v2 =>
            simp [h1, h2] at hv
            subst hv
            obtain ⟨h3, h4⟩ := evs_sound he hxs h2
            refine ⟨by simp [h3], fun j v z hj hz => ?_⟩
            cases j with
            | zero => simp at hj hz; subst hj; subst hz; exact ev_sound hx he h1
            | succ j => simp at hj hz; exact h4 j v z hj hz

/-- What an operation gives. -/
def Gives (P : Program) (o : Oper) (a : Act) (w : World) (v : Value) (w' : World) : Prop :=
  (execOp a.eval o).run P w = .ok (.value v) w' ∨ ((execOp a.eval o).run P w = .ok .skip w' ∧ v = undef)
def Ok (P : Program) (o : Oper) (a : Act) (K : GK) (w : World) (k : HV → Heap → Prop) : Prop :=
  ∃ x v K' w' h', Gives P o a w v w' ∧ Step K w K' w' ∧ HeapRel K' h' w' ∧ V K' w' x v ∧ k x h'
theorem Ok.pure {o : Oper} {a : Act} {K : GK} {w : World} {k : HV → Heap → Prop} {x : HV} {v : Value} {h : Heap} (hg : (execOp a.eval o).run P w = .ok (.value v) w) (hh : HeapRel K h w) (hv : V K w x v) (hk : k x h) : Ok P o a K w k :=
  ⟨x, v, K, w, h, .inl hg, .refl K w, hh, hv, hk⟩

def aggD : TypeDesc → Bool
  | .struct _ | .array _ _ => true
  | _ => false
theorem run_isAgg {t : TypeId} {d : TypeDesc} (h : P.underlying t = some d) (w : World) : (isAgg t).run P w = .ok (aggD d) w := by
  unfold isAgg
  simp only [Sem.run_bind, run_underlying h, Result.andThen_ok]
  cases d <;> rfl
theorem run_sizeOf' {t : TypeId} {n : Nat} (h : tsize P t = some n) (w : World) : (sizeOf t).run P w = .ok n w := by
  unfold tsize at h
  obtain ⟨i, hi, rfl⟩ := Option.map_eq_some_iff.1 h
  simp [sizeOf, typeInfo, hi]

section
variable {o : Oper} {a : Act} {K : GK} {w : World} {k : HV → Heap → Prop} {e : Env} {h : Heap} (base : Nat)

theorem ok_mv {x : Operand} {y : X} (ho : o.op = .move x ∨ o.op = .assign x) (hx : cX x = some y) (hs : hstep base (.mv y) e h k) (hh : HeapRel K h w) (he : EnvRel K w e a.tmps) : Ok P o a K w k := by
  simp only [hstep] at hs
  split at hs
  · rename_i v hv
    refine Ok.pure ?_ hh (ev_sound hx he hv) hs
    rcases ho with ho | ho <;> simp [execOp, ho]
  · exact hs.elim

theorem ok_pick {c x y : Operand} {c' x' y' : X} (ho : o.op = .pick c x y) (hc : cX c = some c') (hx : cX x = some x') (hy : cX y = some y') (hs : hstep base (.pick c' x' y') e h k) (hh : HeapRel K h w) (he : EnvRel K w e a.tmps) : Ok P o a K w k := by
  simp only [hstep] at hs
  split at hs
  · rename_i t u v h1 h2 h3
    have hcv := ev_sound hc he h1
    generalize hcc : a.eval c = cv at hcv
    cases hcv
    cases t with
    | true => exact Ok.pure (v := a.eval x) (by simp [execOp, ho, hcc, asBool]) hh (ev_sound hx he h2) (hs.1 rfl)
    | false => exact Ok.pure (v := a.eval y) (by simp [execOp, ho, hcc, asBool]) hh (ev_sound hy he h3) (hs.2 rfl)
  · exact hs.elim

theorem ok_nilck {x : Operand} {y : X} (ho : o.op = .nilCheck x) (hx : cX x = some y) (hs : hstep base (.nilck y) e h k) (hh : HeapRel K h w) (he : EnvRel K w e a.tmps) : Ok P o a K w k := by
  simp only [hstep] at hs
  split at hs
  · rename_i i f hv
    have hx' := ev_sound hx he hv
    refine Ok.pure (v := a.eval x) ?_ hh hx' hs
    generalize hcc : a.eval x = cv at hx' ⊢
    cases hx'
    simp [execOp, ho, hcc]
  · rename_i cs hv
    have hx' := ev_sound hx he hv
    refine Ok.pure (v := a.eval x) ?_ hh hx' hs
    generalize hcc : a.eval x = cv at hx' ⊢
    cases hx'
    simp [execOp, ho, hcc]
  · rename_i f cs hv
    have hx' := ev_sound hx he hv
    refine Ok.pure (v := a.eval x) ?_ hh hx' hs
    generalize hcc : a.eval x = cv at hx' ⊢
    cases hx'
    simp [execOp, ho, hcc]
  · exact hs.elim

theorem tagg_none {t : TypeId} (h : tagg P t = some none) : ∃ d, P.underlying t = some d ∧ aggD d = false := by
  unfold tagg at h
  split at h
  · simp at h
  · simp at h
  · rename_i d h1 h2 hd
    refine ⟨d, hd, ?_⟩
    cases d <;> first | rfl | (exfalso; first | exact h1 _ rfl | exact h2 _ _ rfl)
  · cases h
theorem tagg_some {t : TypeId} {n : Nat} (h : tagg P t = some (some n)) : ∃ d, P.underlying t = some d ∧ aggD d = true ∧ tsize P t = some n := by
  unfold tagg at h
  split at h
  · rename_i fs hd; simp at h; exact ⟨_, hd, rfl, h⟩
  · rename_i m e hd; simp at h; exact ⟨_, hd, rfl, h⟩
  · simp at h
  · cases h

/-- A load at a place whose cells are known. -/
theorem run_loadVar_at {t : TypeId} {n : Option Nat} (ht : tagg P t = some n) {b off : Nat} {cs : List HV} {x : HV} (hx : atCells n cs = some x) (hcs : ∀ (j : Nat) (y : HV), cs[j]? = some y → y.leaf = true ∧ ∃ v, w.cell? ⟨b, off + j, none⟩ = some v ∧ V K w y v) :
    ∃ v, (loadVar t ⟨b, off, none⟩).run P w = .ok v w ∧ V K w x v := by
  cases n with
  | none =>
    obtain ⟨d, hd, hn⟩ := tagg_none ht
    simp only [atCells] at hx
    obtain ⟨_, v, hv, hV⟩ := hcs 0 x (by rw [← List.head?_eq_getElem?]; exact hx)
    refine ⟨v, ?_, hV⟩
    simp only [loadVar, Sem.run_bind, run_isAgg hd, hn, Result.andThen_ok]
    simp only [Nat.add_zero] at hv
    simp [hv]
  | some m =>
    obtain ⟨d, hd, hn, hsz⟩ := tagg_some ht
    simp only [atCells] at hx
    split at hx
    · rename_i hm
      injection hx with hx
      subst hx
      have hf : ∀ j, j < m → ∃ v, w.cell? ((⟨b, off, none⟩ : Addr).add j) = some v := fun j hj => by
        obtain ⟨y, hy⟩ := get_of_lt (l := cs) (j := j) (by omega)
        obtain ⟨_, v, hv, _⟩ := hcs j y hy
        exact ⟨v, by rw [Addr.add_lit]; exact hv⟩
      refine ⟨_, ?_, V.ofAgg (cs.take m) ((List.range m).map fun j => (w.cell? ⟨b, off + j, none⟩).getD undef).toArray (by simp; omega) (fun y hy => ?_) (fun j y v hy hv => ?_)⟩
      · simp only [loadVar, Sem.run_bind, run_isAgg hd, hn, Result.andThen_ok, if_true, run_sizeOf' hsz]
        rw [run_loadCells w ⟨b, off, none⟩ m (fun j => (w.cell? ⟨b, off + j, none⟩).getD undef) (fun j hj => by
          obtain ⟨v, hv⟩ := hf j hj
          rw [Addr.add_lit] at hv ⊢
          rw [hv]; rfl)]
        rfl
      · obtain ⟨j, hj⟩ := mem_get hy
        rw [List.getElem?_take] at hj
        split at hj
        · exact (hcs j y hj).1
        · cases hj
      · rw [List.getElem?_take] at hy
        split at hy
        · rename_i hj
          obtain ⟨_, u, hu, hV⟩ := hcs j y hy
          simp [hj, hu] at hv
          subst hv
          exact hV
        · cases hy
    · cases hx

theorem heap_cells {id b : Nat} {cs : List HV} (hh : HeapRel K h w) (hr : K.rho id = some b) (hc : Heap.cells h id = some cs) :
    ∃ c e fr, w.heap[b]? = some (.cells c e fr) ∧ cs.length ≤ c.size ∧ nofr c fr ∧ ∀ (j : Nat) (x : HV), cs[j]? = some x → x.leaf = true ∧ ∃ v, c[j]? = some v ∧ V K w x v := by
  obtain ⟨_, o, ho, hob, _⟩ := hh.obj id b hr
  unfold Heap.cells at hc
  rw [ho] at hc
  cases o <;> simp at hc
  subst hc
  exact hob

theorem ok_load {t : TypeId} {n : Option Nat} {x : Operand} {y : X} (ho : o.op = .load t x) (ht : tagg P t = some n) (hx : cX x = some y) (hs : hstep base (.load n y) e h k) (hh : HeapRel K h w) (he : EnvRel K w e a.tmps) : Ok P o a K w k := by
  simp only [hstep] at hs
  split at hs
  · rename_i cs hv
    split at hs
    · rename_i u hu
      have hx' := ev_sound hx he hv
      generalize hcc : a.eval x = cv at hx'
      cases hx' with
      | rptr _ b of vals hleaf hv hc hl =>
        obtain ⟨v, hr, hV⟩ := run_loadVar_at (P := P) (K := K) (w := w) ht (b := b) (off := of) hu (fun j y hy => ⟨hleaf y (List.mem_of_getElem? hy), _, hc j (lt_of_get hy), hv j y hy⟩)
        exact Ok.pure (v := v) (by simp [execOp, ho, hcc, Instr.loadAt, Instr.sureAddr, hr]) hh hV hs
    · exact hs.elim
  · rename_i id off hv
    split at hs
    · rename_i cs hcs
      split at hs
      · rename_i u hu
        have hx' := ev_sound hx he hv
        generalize hcc : a.eval x = cv at hx'
        cases hx' with
        | ptr _ _ b hr =>
          obtain ⟨c, et, fr, hb, hlen, _, hvs⟩ := heap_cells hh hr hcs
          obtain ⟨v, hrun, hV⟩ := run_loadVar_at (P := P) (K := K) (w := w) ht (b := b) (off := off) hu (fun j y hy => by
            rw [List.getElem?_drop] at hy
            obtain ⟨h1, v, h2, h3⟩ := hvs _ y hy
            exact ⟨h1, v, by rw [cell_of_row w b (off + j) c et fr hb]; exact h2, h3⟩)
          exact Ok.pure (v := v) (by simp [execOp, ho, hcc, Instr.loadAt, Instr.sureAddr, hrun]) hh hV hs
      · exact hs.elim
    · exact hs.elim
  · exact hs.elim

end
end Go.Hw
