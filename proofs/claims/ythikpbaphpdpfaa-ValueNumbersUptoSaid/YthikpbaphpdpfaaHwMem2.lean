/- Operations that make memory or write it. -/
import Derived.Test.YthikpbaphpdpfaaHwMem1
set_option linter.unusedVariables false
set_option linter.unusedSimpArgs false
namespace Go.Hw
open Go

variable {P : Program}

theorem tzero_info {t : TypeId} {z : HV} (h : tzero P t = some z) : ∃ i u, P.info? t = some i ∧ i.zero = some u ∧ hconst u = some z := by
  unfold tzero at h
  cases hi : P.info? t with
  | none => simp [hi] at h
  | some i =>
    cases hu : i.zero with
    | none => simp [hi, hu] at h
    | some u => exact ⟨i, u, rfl, hu, by simpa [hi, hu] using h⟩
theorem run_zeroValue {t : TypeId} {i : TypeInfo} {u : Value} (hi : P.info? t = some i) (hu : i.zero = some u) (w : World) : (zeroValue t).run P w = .ok u w := by
  simp [zeroValue, typeInfo, hi, hu]
theorem hconst_tuple {v : Value} {x : HV} (h : hconst v = some x) : ∀ cs, x ≠ .tuple cs := by
  intro cs e
  subst e
  unfold hconst at h
  split at h
  · rename_i l
    cases hm : l.toList.mapM leafConst <;> simp [hm] at h
  · unfold leafConst at h
    split at h <;> cases h

section
variable {o : Oper} {a : Act} {K : GK} {w : World} {k : HV → Heap → Prop} {e : Env} {h : Heap} (base : Nat)

theorem ok_newobj {r : Option Nat} {x : HObj} {w' : World} {ob : Obj} (hn : hnew base r h x (fun i h' => k (.ptr i 0) h')) (hx : ∀ n, x ≠ .tok n) (hh : HeapRel K h w)
    (hheap : w'.heap = w.heap.push ob) (hos : w'.os = w.os) (htape : w'.tape = w.tape) (hout : w'.output = w.output) (hok : ∀ K' : GK, Step K w K' w' → ObjOk K' w' w.heap.size x)
    (hg : Gives P o a w (.pointer (some ⟨w.heap.size, 0, none⟩)) w') : Ok P o a K w k := by
  cases r with
  | none =>
    obtain ⟨s, hh'⟩ := push_obj hh hheap hos htape hout (.inr ⟨rfl, rfl⟩) hx hok
    exact ⟨_, _, _, w', _, hg, s, hh', .ptr _ _ _ (by simp [GK.rhoAt]), hn⟩
  | some j =>
    obtain ⟨s, hh'⟩ := push_obj hh hheap hos htape hout (.inl ⟨hn.1, rfl⟩) hx hok
    exact ⟨_, _, _, w', _, hg, s, hh', .ptr _ _ _ (by simp [GK.rhoAt]), hn.2⟩

theorem objOk_new {K' : GK} {w' : World} {x : HV} {v : Value} (s : Step K w K' w') (hx : V K w x v) (ht : ∀ cs, x ≠ .tuple cs) {b : Nat} {t : TypeId} (hb : w'.heap[b]? = some (.cells v.cells t)) : ObjOk K' w' b (.cells x.cells) := by
  obtain ⟨h1, h2, h3⟩ := hx.cells ht
  refine ⟨v.cells, t, (0, 0), hb, by omega, fun i _ => by omega, fun j y hy => ⟨h2 y (List.mem_of_getElem? hy), ?_⟩⟩
  obtain ⟨u, hu⟩ : ∃ u, v.cells[j]? = some u := ⟨v.cells[j]'(by have := lt_of_get hy; omega), by simp [show j < v.cells.size by have := lt_of_get hy; omega]⟩
  exact ⟨u, hu, (h3 j y u hy hu).step s⟩

theorem ok_alloc {t : TypeId} {z : HV} {r : Option Nat} (ho : o.op = .alloc t) (hz : tzero P t = some z) (hs : hstep base (.alloc r z.cells) e h k) (hh : HeapRel K h w) (he : EnvRel K w e a.tmps) : Ok P o a K w k := by
  obtain ⟨i, u, hi, hu, hc⟩ := tzero_info hz
  refine ok_newobj (w' := w.alloc (.cells u.cells t)) base hs (by simp) hh rfl rfl rfl rfl (fun K' s => objOk_new (K := K) (w := w) s (V_hconst hc) (hconst_tuple hc) (t := t) (heap_alloc_new w _)) (.inl ?_)
  simp [execOp, ho, Instr.alloc, run_zeroValue hi hu, newVar, newRow]

theorem ok_box {t : TypeId} {n : Nat} {x : Operand} {y : X} {r : Option Nat} (ho : o.op = .box t x) (hn : tsize P t = some n) (hx : cX x = some y) (hs : hstep base (.box r n y) e h k) (hh : HeapRel K h w) (he : EnvRel K w e a.tmps) : Ok P o a K w k := by
  simp only [hstep] at hs
  split at hs
  · rename_i v hev
    have hx' := ev_sound hx he hev
    obtain ⟨⟨hl, hnt⟩, hs⟩ := hs
    refine ok_newobj (w' := w.alloc (.cells (a.eval x).cells t)) base hs (by simp) hh rfl rfl rfl rfl (fun K' s => objOk_new (K := K) (w := w) s hx' (by intro cs e; subst e; simp [isTuple] at hnt) (t := t) (heap_alloc_new w _)) (.inl ?_)
    simp [execOp, ho, Instr.box, newVar, newRow]
  · exact hs.elim

theorem ok_mkmap {t : TypeId} {r : Option Nat} (ho : o.op = .makeMap t none) (hs : hstep base (.mkmap r) e h k) (hh : HeapRel K h w) (he : EnvRel K w e a.tmps) : Ok P o a K w k := by
  have hg : Gives P o a w (.map (some w.heap.size)) (w.alloc (.map #[] 0)) := .inl (by simp [execOp, ho, Instr.makeMap])
  have hok : ∀ K' : GK, Step K w K' (w.alloc (.map #[] 0)) → ObjOk K' (w.alloc (.map #[] 0)) w.heap.size (.map [] 0) := fun K' s =>
    ⟨#[], heap_alloc_new w _, rfl, fun j n x y hj => by simp at hj⟩
  simp only [hstep] at hs
  cases r with
  | none =>
    obtain ⟨s, hh'⟩ := push_obj (id := h.length) (w' := w.alloc (.map #[] 0)) (ob := .map #[] 0) (x := .map [] 0) hh rfl rfl rfl rfl (.inr ⟨rfl, rfl⟩) (by simp) hok
    exact ⟨_, _, _, _, _, hg, s, hh', .map _ _ (by simp [GK.rhoAt]), hs⟩
  | some j =>
    obtain ⟨s, hh'⟩ := push_obj (id := base + j) (w' := w.alloc (.map #[] 0)) (ob := .map #[] 0) (x := .map [] 0) hh rfl rfl rfl rfl (.inl ⟨hs.1, rfl⟩) (by simp) hok
    exact ⟨_, _, _, _, _, hg, s, hh', .map _ _ (by simp [GK.rhoAt]), hs.2⟩

theorem ok_store {t : TypeId} {n : Nat} {ad x : Operand} {ya yx : X} (ho : o.op = .store t ad x) (hn : tsize P t = some n) (ha : cX ad = some ya) (hx : cX x = some yx) (hs : hstep base (.store n ya yx) e h k) (hh : HeapRel K h w) (he : EnvRel K w e a.tmps) : Ok P o a K w k := by
  simp only [hstep] at hs
  split at hs
  · rename_i id off v h1 h2
    split at hs
    · rename_i cs hcs
      obtain ⟨⟨hl, hoff, hnt⟩, hs⟩ := hs
      have ha' := ev_sound ha he h1
      have hx' := ev_sound hx he h2
      generalize hca : a.eval ad = ca at ha'
      generalize hcx : a.eval x = cx at hx'
      cases ha' with
      | ptr _ _ b hr =>
        obtain ⟨c1, c2, c3⟩ := hx'.cells (by intro cs e; subst e; simp [isTuple] at hnt)
        have hcs' : h[id]? = some (.cells cs) := by
          unfold Heap.cells at hcs
          cases hg : h[id]? with
          | none => simp [hg] at hcs
          | some ob => cases ob <;> simp [hg] at hcs; subst hcs; rfl
        obtain ⟨w', hrun, s, hh'⟩ := put_row (P := P) (K := K) (w := w) (off := off) (vs := v.cells) (us := cx.cells.toList) hh hr hcs' (by simpa using c1) (by omega) c2 (fun j y u hy hu => c3 j y u hy (by simpa using hu))
        refine ⟨.tuple [], undef, K, w', _, .inr ⟨?_, rfl⟩, s, hh', V.tuple [] [] rfl (fun j h v hh => by simp at hh), hs⟩
        have hsz : cx.cells.size = n := by omega
        simp [execOp, ho, hca, hcx, Instr.storeAt, Instr.sureAddr, storeVar, run_sizeOf' hn, hsz, hrun]
    · exact hs.elim
  · exact hs.elim

end
end Go.Hw
