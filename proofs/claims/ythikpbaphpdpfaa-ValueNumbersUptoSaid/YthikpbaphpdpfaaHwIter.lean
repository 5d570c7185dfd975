/- Ranging over maps and strings; literals of structs and arrays; interfaces. -/
import Derived.Test.YthikpbaphpdpfaaHwMaps2
set_option linter.unusedVariables false
set_option linter.unusedSimpArgs false
namespace Go.Hw
open Go

variable {P : Program}
section
variable {o : Oper} {a : Act} {K : GK} {w : World} {k : HV → Heap → Prop} {e : Env} {h : Heap} (base : Nat)

theorem step_same {w' : World} (hheap : w'.heap = w.heap) (hos : w'.os = w.os) (htape : w'.tape = w.tape) (hout : w'.output = w.output) : Step K w K w' :=
  ⟨hos, htape, hout, by rw [hheap]; exact Nat.le_refl _, fun _ => Nat.le_refl _, fun _ => Nat.le_refl _, fun _ _ => ⟨rfl, fun _ _ => rfl⟩, fun _ _ h => h, fun b i v _ h => by
    unfold World.cell? at *; rw [hheap]; exact h, fun b n ⟨c, e, fr, h1, h2⟩ => ⟨c, e, fr, by rw [hheap]; exact h1, h2⟩, fun _ _ h => h, fun b _ _ => ⟨by rw [hheap], rfl⟩⟩
theorem heap_same {w' : World} (hheap : w'.heap = w.heap) (hos : w'.os = w.os) (htape : w'.tape = w.tape) (hout : w'.output = w.output) (hh : HeapRel K h w) : HeapRel K h w' := by
  have s := step_same (K := K) hheap hos htape hout
  refine ⟨fun id b hid => ?_, hh.inj, hh.wm, fun i b hi => ?_, hh.tinj, fun b hb => hh.limb b (by rw [← hheap]; exact hb)⟩
  · obtain ⟨k1, ob, k2, k3, k4⟩ := hh.obj id b hid
    exact ⟨by rw [hheap]; exact k1, ob, k2, k3.keep s (by rw [hheap]), k4⟩
  · obtain ⟨k1, k2, k3, c, e, fr, k4, k5, k6⟩ := hh.tok i b hi
    exact ⟨by rw [hheap]; exact k1, k2, k3, c, e, fr, by rw [hheap]; exact k4, k5, k6⟩

def noRow : Obj → Bool
  | .cells .. => false
  | _ => true
theorem run_getObj {r : Nat} {ob : Obj} {w' : World} (hb : w'.heap[r]? = some ob) (hn : noRow ob = true := by rfl) : (getObj r).run P w' = .ok ob w' := by
  cases ob <;> first | (simp [noRow] at hn; done) | simp [getObj, Sem.run, hb]
theorem run_setObj {r : Nat} {ob : Obj} {w' : World} (ob' : Obj) (hb : w'.heap[r]? = some ob) (hn : noRow ob = true := by rfl) : (setObj r ob').run P w' = .ok () { w' with heap := w'.heap.setIfInBounds r ob' } := by
  cases ob <;> first | (simp [noRow] at hn; done) | simp [setObj, Sem.run, hb]

theorem ok_range {t : TypeId} {st : Bool} {x : Operand} {y : X} (ho : o.op = .range t x) (ht : if st then P.underlying t = some .string else ∃ kt et, P.underlying t = some (.map kt et)) (hx : cX x = some y)
    (hs : hstep base (.range st y) e h k) (hh : HeapRel K h w) (he : EnvRel K w e a.tmps) : Ok P o a K w k := by
  simp only [hstep] at hs
  split at hs
  · rename_i s hev
    simp only [if_true] at ht
    have hx' := ev_sound hx he hev
    generalize hcx : a.eval x = cx at hx'
    cases hx'
    obtain ⟨s1, hh'⟩ := push_obj (id := h.length) (w' := w.alloc (.stringIter ⟨s.toArray⟩ 0)) (ob := .stringIter ⟨s.toArray⟩ 0) (x := .siter s 0) hh rfl rfl rfl rfl (.inr ⟨rfl, rfl⟩) (by simp) (fun K' _ => heap_alloc_new w _)
    refine ⟨_, _, _, _, _, .inl ?_, s1, hh', .ptr _ 0 w.heap.size (by simp [GK.rhoAt]), hs⟩
    simp only [execOp, ho, hcx, Instr.range, Sem.run_bind, run_underlying ht, Result.andThen_ok, Sem.run_pure, run_newObj]
    rfl
  · rename_i hev
    simp only [Bool.false_eq_true, if_false] at ht
    obtain ⟨kt, et, ht⟩ := ht
    have hx' := ev_sound hx he hev
    generalize hcx : a.eval x = cx at hx'
    cases hx'
    obtain ⟨s1, hh'⟩ := push_obj (id := h.length) (w' := w.alloc (.mapIter none 0 #[] 0)) (ob := .mapIter none 0 #[] 0) (x := .iter none 0 [] 0) hh rfl rfl rfl rfl (.inr ⟨rfl, rfl⟩) (by simp) (fun K' _ => heap_alloc_new w _)
    refine ⟨_, _, _, _, _, .inl ?_, s1, hh', .ptr _ 0 w.heap.size (by simp [GK.rhoAt]), hs⟩
    simp only [execOp, ho, hcx, Instr.range, Sem.run_bind, run_underlying ht, Result.andThen_ok, Sem.run_pure, run_newObj]
    rfl
  · rename_i id hev
    split at hs
    · rename_i es c hmp
      simp only [Bool.false_eq_true, if_false] at ht
      obtain ⟨kt, et, ht⟩ := ht
      have hx' := ev_sound hx he hev
      generalize hcx : a.eval x = cx at hx'
      cases hx' with
      | map _ b hrho =>
        obtain ⟨g1, ms, g2, g3⟩ := heap_map hh hrho hmp
        have hlt : id ≠ h.length := by have := lt_of_get g1; omega
        obtain ⟨s1, hh'⟩ := push_obj (id := h.length) (w' := w.alloc (.mapIter (some b) c #[] c)) (ob := .mapIter (some b) c #[] c) (x := .iter (some id) c [] c) hh rfl rfl rfl rfl (.inr ⟨rfl, rfl⟩) (by simp) (fun K' s => ⟨b, s.rho _ _ hrho, heap_alloc_new w _⟩)
        refine ⟨_, _, _, _, _, .inl ?_, s1, hh', .ptr _ 0 w.heap.size (by simp [GK.rhoAt]), hs⟩
        simp only [execOp, ho, hcx, Instr.range, Sem.run_bind, run_underlying ht, run_getObj g2, Result.andThen_ok, Sem.run_pure, run_newObj]
        rfl
    · exact hs.elim
  · exact hs.elim

theorem heap_get {id b : Nat} {ob : HObj} (hh : HeapRel K h w) (hr : K.rho id = some b) (hm : h[id]? = some ob) : b < w.heap.size ∧ ObjOk K w b ob := by
  obtain ⟨h1, ob', h2, h3, _⟩ := hh.obj id b hr
  rw [hm] at h2
  injection h2 with h2
  subst h2
  exact ⟨h1, h3⟩
theorem tup1 {x : HV} {u : Value} (hx : V K w x u) : V K w (.tuple [x]) (.tuple #[u]) := by
  refine V.tuple [x] [u] rfl fun j h z hj hz => ?_
  match j, hj, hz with
  | 0, hj, hz => simp at hj hz; subst hj; subst hz; exact hx
  | j + 1, hj, hz => simp at hj
theorem room_no {b : Nat} {ob : Obj} {w' : World} (hb : w.heap[b]? = some ob) (hn : ∀ c e fr, ob ≠ .cells c e fr) : ∀ n, RoomAt w b n → RoomAt w' b n := fun n ⟨c, e, fr, h1, _⟩ => by
  rw [hb] at h1
  injection h1 with h1
  exact absurd h1 (hn _ _ _)

theorem ok_next {st : Bool} {x : Operand} {y : X} (ho : o.op = .next x st) (hx : cX x = some y)
    (hs : hstep base (.next st y) e h k) (hh : HeapRel K h w) (he : EnvRel K w e a.tmps) : Ok P o a K w k := by
  simp only [hstep] at hs
  split at hs
  · rename_i i hev
    have hx' := ev_sound hx he hev
    generalize hcx : a.eval x = cx at hx'
    cases hx' with
    | ptr _ _ b hrho =>
    split at hs
    · -- a string
      rename_i s pos hi
      obtain ⟨hblt, hob⟩ := heap_get hh hrho hi
      have hb : w.heap[b]? = some (.stringIter ⟨s.toArray⟩ pos) := hob
      split at hs
      · rename_i hlt
        obtain ⟨st1, hh'⟩ := set_obj (w' := { w with heap := w.heap.setIfInBounds b (.stringIter ⟨s.toArray⟩ (pos + (Utf8.decode ⟨s.toArray⟩ pos).2)) }) (new := .siter s (pos + (Utf8.decode ⟨s.toArray⟩ pos).2)) hh hrho hi trivial trivial rfl rfl rfl rfl (room_no hb (by simp)) (fun _ => by simp [ObjOk, hblt])
        refine Ok.val (v := .tuple #[.bool true, .int .i64 pos, .int .i32 (Utf8.decode ⟨s.toArray⟩ pos).1]) ?_ st1 hh' (tup3 (.bool _) (.int _ _) (.int _ _)) hs
        have hsz : pos < (ByteArray.mk s.toArray).size := by simpa [ByteArray.size] using hlt
        simp only [execOp, ho, hcx, Instr.next, Sem.run_bind, run_getObj hb, Result.andThen_ok, if_pos hsz, run_setObj _ hb, Sem.run_pure, goInt]
      · rename_i hlt
        have hsz : ¬ pos < (ByteArray.mk s.toArray).size := by simpa [ByteArray.size] using hlt
        exact Ok.pure (v := .tuple #[.bool false]) (by simp only [execOp, ho, hcx, Instr.next, Sem.run_bind, run_getObj hb, Result.andThen_ok, if_neg hsz, Sem.run_pure]) hh (tup1 (.bool _)) hs
    · -- no map
      rename_i since seen last hi
      obtain ⟨hblt, hob⟩ := heap_get hh hrho hi
      have hb : w.heap[b]? = some (.mapIter none since seen.toArray last) := hob
      exact Ok.pure (v := .tuple #[.bool false]) (by simp only [execOp, ho, hcx, Instr.next, Sem.run_bind, run_getObj hb, Result.andThen_ok, Sem.run_pure]) hh (tup1 (.bool _)) hs
    · -- a map
      rename_i m since seen last hi
      split at hs
      · rename_i es c hmp
        obtain ⟨hfr, hk1, hk2⟩ := hs
        obtain ⟨hblt, hob⟩ := heap_get hh hrho hi
        obtain ⟨bm, hrm, hb⟩ := hob
        obtain ⟨g1, ms, g2, g3⟩ := heap_map hh hrm hmp
        have hne : i ≠ m := by intro e1; subst e1; rw [hi] at g1; cases g1
        have hfresh : (!seen.toArray.isEmpty && !ms.isEmpty && ms.all (·.born ≥ last)) = false := by
          rcases hfr with rfl | rfl | ⟨p, hp, hlt⟩
          · rfl
          · have : ms = #[] := Array.eq_empty_of_size_eq_zero (by simpa using g3.1)
            subst this; simp
          · obtain ⟨j, hj⟩ := mem_get hp
            obtain ⟨mm, f1, f2, _⟩ := g3.2 j p.1 p.2.1 p.2.2 hj
            have hmem : mm ∈ ms := by
              have := List.mem_of_getElem? f1
              simpa using this
            have : ms.all (·.born ≥ last) = false := by
              rw [Bool.eq_false_iff]
              intro h1
              rw [Array.all_eq_true'] at h1
              have := h1 mm hmem
              simp at this
              omega
            simp [this]
        have back : ∀ mm, mm ∈ ms → ∃ (j : Nat) (p : Nat × HV × HV), es[j]? = some p ∧ mm.born = p.1 ∧ V K w p.2.1 mm.key ∧ V K w p.2.2 mm.val := by
          intro mm hmm
          obtain ⟨j, hj⟩ := mem_get (show mm ∈ ms.toList by simpa using hmm)
          obtain ⟨p, hp⟩ := get_of_lt (l := es) (j := j) (by rw [← g3.1]; exact lt_of_get hj)
          obtain ⟨m', f1, f2, _, _, f3, f4⟩ := g3.2 j p.1 p.2.1 p.2.2 hp
          rw [hj] at f1
          injection f1 with f1
          subst f1
          exact ⟨j, p, hp, f2, f3, f4⟩
        generalize hleft : ms.filter (fun e => !seen.toArray.contains e.born) = left
        generalize hcand : (if (left.filter (·.born < since)).isEmpty then #[none] else #[]) ++ ((left.filter (·.born < since)) ++ (left.filter (·.born ≥ since))).map some = cand
        have hpos : 0 < cand.size := by
          rw [← hcand]
          simp only [Array.size_append, Array.size_map]
          split
          · simp; omega
          · rename_i hn
            have : 0 < (left.filter (·.born < since)).size := by
              rcases Nat.eq_zero_or_pos (left.filter (·.born < since)).size with h0 | h0
              · exact absurd (by simpa [Array.isEmpty] using h0) hn
              · exact h0
            omega
        -- the choice
        obtain ⟨ci, w1, hch, hw1, hlt⟩ : ∃ ci w1, (choose (.mapNext cand.size)).run P w = .ok ci w1 ∧ (w1.heap = w.heap ∧ w1.os = w.os ∧ w1.tape = w.tape ∧ w1.output = w.output) ∧ ci < cand.size := by
          rw [run_choose]
          split
          · exact ⟨0, w, rfl, ⟨rfl, rfl, rfl, rfl⟩, hpos⟩
          · exact ⟨_, _, rfl, ⟨rfl, rfl, rfl, rfl⟩, Nat.mod_lt _ hpos⟩
        have s1 := step_same (K := K) hw1.1 hw1.2.1 hw1.2.2.1 hw1.2.2.2
        have hh1 := heap_same hw1.1 hw1.2.1 hw1.2.2.1 hw1.2.2.2 hh
        have hb1 : w1.heap[b]? = some (.mapIter (some bm) since seen.toArray last) := by rw [hw1.1]; exact hb
        have hrun0 : (execOp a.eval o).run P w = ((match cand[ci]? with
            | some (some e) => do
              setObj b (.mapIter (some bm) since (seen.toArray.push e.born) c)
              pure (.tuple #[.bool true, e.key, e.val])
            | some none => pure (.tuple #[.bool false])
            | none => stuck "Next: no such candidate" : Sem Value).run P w1).andThen fun v w' => .ok (.value v) w' := by
          simp only [execOp, ho, hcx, Instr.next, Sem.run_bind, run_getObj hb, run_getObj g2, Result.andThen_ok, hfresh, Bool.false_eq_true, if_false, hleft, hcand, hch, Sem.run_pure]
          rfl
        cases hci : cand[ci]? with
        | none => rw [Array.getElem?_eq_none_iff] at hci; omega
        | some oe =>
          rw [hci] at hrun0
          have hmem : oe ∈ cand := Array.mem_of_getElem? hci
          rw [← hcand, Array.mem_append] at hmem
          cases oe with
          | none =>
            have hold : ∀ p ∈ es, p.1 ∉ seen → since ≤ p.1 := by
              intro p hp hns
              rcases hmem with hmem | hmem
              · split at hmem
                · rename_i hemp
                  obtain ⟨j, hj⟩ := mem_get hp
                  obtain ⟨mm, f1, f2, _⟩ := g3.2 j p.1 p.2.1 p.2.2 hj
                  have hmm : mm ∈ ms := by have := List.mem_of_getElem? f1; simpa using this
                  refine Classical.byContradiction fun hlt => ?_
                  have h1 : mm ∈ left := by
                    rw [← hleft, Array.mem_filter]
                    exact ⟨hmm, by simpa [f2] using hns⟩
                  have h2 : mm ∈ left.filter (·.born < since) := by
                    rw [Array.mem_filter]
                    exact ⟨h1, by simp [f2]; omega⟩
                  rw [Array.isEmpty_iff] at hemp
                  rw [hemp] at h2
                  simp at h2
                · simp at hmem
              · simp at hmem
            refine Ok.val (v := .tuple #[.bool false]) ?_ s1 hh1 (tup1 (.bool _)) (hk2 hold)
            rw [hrun0]; rfl
          | some ent =>
            have hl : ent ∈ left := by
              rcases hmem with hmem | hmem
              · split at hmem <;> simp at hmem
              · simp only [Array.mem_map, Option.some.injEq, exists_eq_right, Array.mem_append, Array.mem_filter] at hmem
                rcases hmem with h1 | h1 <;> exact h1.1
            rw [← hleft, Array.mem_filter] at hl
            obtain ⟨j, p, hp, f1, f2, f3⟩ := back ent hl.1
            have hns : p.1 ∉ seen := by
              have := hl.2
              rw [f1] at this
              simpa using this
            obtain ⟨s2, hh2⟩ := set_obj (w' := { w1 with heap := w1.heap.setIfInBounds b (.mapIter (some bm) since (seen ++ [p.1]).toArray c) }) (new := .iter (some m) since (seen ++ [p.1]) c) hh1 hrho hi trivial trivial rfl rfl rfl rfl (room_no hb1 (by simp)) (fun s => ⟨bm, hrm, by simp [hw1.1, hblt]⟩)
            refine Ok.val (v := .tuple #[.bool true, ent.key, ent.val]) ?_ (s1.trans s2) hh2 (tup3 (.bool _) ((f2.step s1).step s2) ((f3.step s1).step s2)) (hk1 j p hp hns)
            rw [hrun0]
            simp only [Sem.run_bind, run_setObj _ hb1, Result.andThen_ok, Sem.run_pure, f1]
            simp
      · exact hs.elim
    · exact hs.elim
  · exact hs.elim

theorem ok_entry {x : Operand} {y : X} (ho : o.op = .entry x) (hx : cX x = some y)
    (hs : hstep base (.entry y) e h k) (hh : HeapRel K h w) (he : EnvRel K w e a.tmps) : Ok P o a K w k := by
  simp only [hstep] at hs
  split at hs
  · rename_i i hev
    have hx' := ev_sound hx he hev
    generalize hcx : a.eval x = cx at hx'
    cases hx' with
    | ptr _ _ b hrho =>
    split at hs
    · rename_i m since seen last hi
      split at hs
      · rename_i es c n hmp hn
        obtain ⟨rfl, hs⟩ := hs
        obtain ⟨hblt, hob⟩ := heap_get hh hrho hi
        obtain ⟨bm, hrm, hb⟩ := hob
        obtain ⟨g1, ms, g2, g3⟩ := heap_map hh hrm hmp
        have hback : seen.toArray.back? = some n := by simpa using hn
        rcases find_rel (n := n) g3 with ⟨h1, h2⟩ | ⟨mm, p, h1, h2, h3, h4⟩
        · rw [h2] at hs; exact hs.elim
        · rw [h2] at hs
          have h1' : ms.find? (fun e => e.born == n) = some mm := by
            obtain ⟨l⟩ := ms
            simpa using h1
          refine Ok.pure (v := .tuple #[mm.key, mm.val]) ?_ hh (tup2 h3 h4) hs
          simp only [execOp, ho, hcx, Instr.entry, Sem.run_bind, run_getObj hb, run_getObj g2, Result.andThen_ok, hback, bne_self_eq_false, Bool.false_eq_true, if_false, h1', Sem.run_pure]
      · exact hs.elim
    · exact hs.elim
  · exact hs.elim

theorem ok_isnil {neg : Bool} {t yt : TypeId} {ms : Array (String × TypeId)} {x : Operand} {y : X} (ho : o.op = .binOp (if neg then .neq else .eql) t x (.const .nilIface) yt) (ht : P.underlying t = some (.interface ms)) (hx : cX x = some y)
    (hs : hstep base (.isnil neg y) e h k) (hh : HeapRel K h w) (he : EnvRel K w e a.tmps) : Ok P o a K w k := by
  have hec : a.eval (.const .nilIface) = .nilIface := rfl
  simp only [hstep] at hs
  split at hs
  · rename_i hev
    have hx' := ev_sound hx he hev
    generalize hcx : a.eval x = cx at hx'
    cases hx'
    have hr : (Op.equal t .nilIface .nilIface).run P w = .ok true w := by
      rw [equal_unfold]
      generalize 9999 = dd
      simp only [Op.equalIn, Sem.run_bind, run_underlying ht, Result.andThen_ok]
      rfl
    obtain ⟨h1, h2⟩ := run_eq_both hr rfl rfl
    refine Ok.pure (v := .bool (!neg)) ?_ hh (.bool _) hs
    cases neg with
    | false => simp [execOp, ho, hcx, hec, eqGuard, h1]
    | true => simp [execOp, ho, hcx, hec, eqGuard, h2]
  · rename_i u z hev
    have hx' := ev_sound hx he hev
    generalize hcx : a.eval x = cx at hx'
    cases hx' with
    | iface _ _ v _ _ =>
    have hr : (Op.equal t (.iface u v) .nilIface).run P w = .ok false w := by
      rw [equal_unfold]
      generalize 9999 = dd
      simp only [Op.equalIn, Sem.run_bind, run_underlying ht, Result.andThen_ok]
      rfl
    obtain ⟨h1, h2⟩ := run_eq_both hr rfl rfl
    refine Ok.pure (v := .bool neg) ?_ hh (.bool _) hs
    cases neg with
    | false => simp [execOp, ho, hcx, hec, eqGuard, h1]
    | true => simp [execOp, ho, hcx, hec, eqGuard, h2]
  · exact hs.elim

/-! ### literals of structs and arrays -/
def CR (K : GK) (w : World) (cs : List HV) (cur : Array Value) : Prop := cs.length = cur.size ∧ ∀ (j : Nat) (y : HV), cs[j]? = some y → y.leaf = true ∧ ∃ u, cur[j]? = some u ∧ V K w y u
theorem fill_rel {place : Nat → Option (Nat × Nat)} {f : Nat × Operand → Option (Nat × Nat × X)} (hf : ∀ i x off n y, f (i, x) = some (off, n, y) → place i = some (off, n) ∧ cX x = some y) (he : EnvRel K w e a.tmps) :
    ∀ (parts : List (Nat × Operand)) (ps : List (Nat × Nat × X)) (l : List (Nat × Nat × HV)) (cs cs' : List HV) (cur : Array Value), parts.mapM f = some ps → evParts e ps = some l → fillCells cs l = some cs' → CR K w cs cur →
      ∃ out, Instr.fill place cur (parts.map fun p => (p.1, a.eval p.2)) = some out ∧ CR K w cs' out
  | [], ps, l, cs, cs', cur, hm, hev, hfc, hcr => by
    simp at hm
    subst hm
    simp [evParts] at hev
    subst hev
    simp [fillCells] at hfc
    subst hfc
    exact ⟨cur, rfl, hcr⟩
  | (i, x) :: parts, ps, l, cs, cs', cur, hm, hev, hfc, hcr => by
    obtain ⟨⟨off, n, y⟩, ps, h1, h2, rfl⟩ := mapM_cons hm
    obtain ⟨hp, hx⟩ := hf i x off n y h1
    simp only [evParts] at hev
    split at hev
    · rename_i v vs h3 h4
      injection hev with hev
      subst hev
      simp only [fillCells] at hfc
      split at hfc
      · rename_i hc
        obtain ⟨c1, c2, c3⟩ := hc
        have hV := ev_sound hx he h3
        obtain ⟨d1, d2, d3⟩ := hV.cells (isTuple_false c3)
        have hlen : cs.length = cur.size := hcr.1
        rw [List.map_cons]
        show ∃ out, Instr.fill place cur ((i, a.eval x) :: parts.map fun p => (p.1, a.eval p.2)) = some out ∧ CR K w cs' out
        rw [fill_step hp (by omega) (by omega)]
        refine fill_rel hf he parts ps vs _ cs' _ h2 h4 hfc ⟨by simp [putAt]; omega, fun j z hz => ?_⟩
        simp only [putAt] at hz
        rw [List.append_assoc, List.getElem?_append] at hz
        simp only [List.getElem?_toArray]
        rw [List.append_assoc, List.getElem?_append]
        simp only [List.length_take, Array.length_toList] at hz ⊢
        have e1 : min off cs.length = off := by omega
        have e2 : min off cur.size = off := by omega
        rw [e1] at hz
        rw [e2]
        split at hz
        · rename_i hj
          rw [if_pos hj]
          rw [List.getElem?_take_of_lt hj] at hz ⊢
          simpa using hcr.2 j z hz
        · rename_i hj
          rw [if_neg hj]
          rw [List.getElem?_append] at hz ⊢
          have e3 : v.cells.length = (a.eval x).cells.toList.length := by simp [d1]
          rw [← e3]
          split at hz
          · rename_i hj2
            rw [if_pos hj2]
            have hlt : j - off < (a.eval x).cells.size := by omega
            exact ⟨d2 z (List.mem_of_getElem? hz), (a.eval x).cells[j - off], by simp [hlt], d3 _ z _ hz (by simp [hlt])⟩
          · rename_i hj2
            rw [if_neg hj2]
            rw [List.getElem?_drop] at hz ⊢
            have := hcr.2 _ z hz
            rw [show off + n + (j - off - v.cells.length) = off + v.cells.length + (j - off - v.cells.length) by omega]
            simpa using this
      · cases hfc
    · cases hev
theorem CR.agg {cs : List HV} {out : Array Value} (h : CR K w cs out) : V K w (.agg cs) (.agg out) :=
  V.ofAgg cs out h.1 (fun z hz => by obtain ⟨j, hj⟩ := mem_get hz; exact (h.2 j z hj).1) (fun j z v hz hv => by
    obtain ⟨_, u, hu, hV⟩ := h.2 j z hz
    rw [hu] at hv
    injection hv with hv
    subst hv
    exact hV)
theorem CR.zero {t : TypeId} {z : HV} {i : TypeInfo} {u : Value} (hcon : hconst u = some z) : CR K w z.cells u.cells := by
  have hV := V_hconst (K := K) (w := w) hcon
  obtain ⟨h1, h2, h3⟩ := hV.cells (hconst_tuple hcon)
  refine ⟨h1, fun j y hy => ?_⟩
  have := lt_of_get hy
  exact ⟨h2 y (List.mem_of_getElem? hy), u.cells[j]'(by omega), by simp [show j < u.cells.size by omega], h3 j y _ hy (by simp [show j < u.cells.size by omega])⟩

theorem run_places : ∀ {L : List Field} {ns : List Nat}, L.mapM (fun f => tsize P f.type) = some ns → (L.mapM (m := Sem) fun f => do pure (f.offset, ← sizeOf f.type)).run P w = .ok (L.zipWith (fun f n => (f.offset, n)) ns) w
  | [], ns, h => by simp at h; subst h; rfl
  | f :: L, ns, h => by
    obtain ⟨n, ns, h1, h2, rfl⟩ := mapM_cons h
    rw [List.mapM_cons]
    simp only [Sem.run_bind, run_sizeOf' h1, Result.andThen_ok, Sem.run_pure, run_places h2, List.zipWith_cons_cons]

theorem ok_build_struct {t : TypeId} {fs : Array Field} {ns : List Nat} {parts : Array (Nat × Operand)} {ps : List (Nat × Nat × X)} {z : HV} (ho : o.op = .build t parts) (hz : tzero P t = some z) (ht : P.underlying t = some (.struct fs)) (hns : fs.toList.mapM (fun f => tsize P f.type) = some ns)
    (hps : (parts.toList.mapM fun (x : Nat × Operand) => fs[x.1]?.bind fun f => (tsize P f.type).bind fun n => (cX x.2).bind fun y => some (f.offset, n, y)) = some ps)
    (hs : hstep base (.build z.cells ps) e h k) (hh : HeapRel K h w) (he : EnvRel K w e a.tmps) : Ok P o a K w k := by
  obtain ⟨i, u, hi, hu, hcon⟩ := tzero_info hz
  simp only [hstep] at hs
  split at hs
  · rename_i l hev
    split at hs
    · rename_i cs hfc
      obtain ⟨out, h1, h2⟩ := fill_rel (place := fun i => ((fs.toList.zipWith (fun f n => (f.offset, n)) ns).toArray)[i]?) (f := fun (x : Nat × Operand) => fs[x.1]?.bind fun f => (tsize P f.type).bind fun n => (cX x.2).bind fun y => some (f.offset, n, y)) (fun i x off n y hf => by
        dsimp only at hf
        cases hfi : fs[i]? with
        | none => simp [hfi] at hf
        | some f =>
          cases hn : tsize P f.type with
          | none => simp [hfi, hn] at hf
          | some n' =>
            cases hc : cX x with
            | none => simp [hfi, hn, hc] at hf
            | some y' =>
              simp [hfi, hn, hc] at hf
              obtain ⟨rfl, rfl, rfl⟩ := hf
              refine ⟨?_, rfl⟩
              simp only [List.getElem?_toArray, List.getElem?_zipWith]
              have h1 : fs.toList[i]? = some f := by simpa using hfi
              obtain ⟨h3, h4⟩ := mapM_some hns
              obtain ⟨n2, hn2⟩ := get_of_lt (l := ns) (j := i) (by rw [← h3]; exact lt_of_get h1)
              have := h4 i f n2 h1 hn2
              rw [hn] at this
              injection this with this
              subst this
              rw [h1, hn2]) he parts.toList ps l z.cells cs u.cells hps hev hfc (CR.zero (t := t) (i := i) hcon)
      refine Ok.pure (v := .agg out) ?_ hh h2.agg hs
      have hpl := run_places (P := P) (w := w) hns
      obtain ⟨L⟩ := fs
      obtain ⟨parts⟩ := parts
      simp only at hpl h1
      simp only [execOp, ho, Instr.build, Sem.run_bind, run_zeroValue hi hu, Result.andThen_ok, run_underlying ht, List.mapM_toArray, hpl, List.map_toArray]
      simp only [Sem.run_map, Result.andThen_ok, hpl]
      rw [h1]
      rfl
    · exact hs.elim
  · exact hs.elim

theorem ok_build_array {t et : TypeId} {m sz : Nat} {parts : Array (Nat × Operand)} {ps : List (Nat × Nat × X)} {z : HV} (ho : o.op = .build t parts) (hz : tzero P t = some z) (ht : P.underlying t = some (.array m et)) (hsz : tsize P et = some sz)
    (hps : (parts.toList.mapM fun (x : Nat × Operand) => (cX x.2).bind fun y => some (x.1 * sz, sz, y)) = some ps)
    (hs : hstep base (.build z.cells ps) e h k) (hh : HeapRel K h w) (he : EnvRel K w e a.tmps) : Ok P o a K w k := by
  obtain ⟨i, u, hi, hu, hcon⟩ := tzero_info hz
  simp only [hstep] at hs
  split at hs
  · rename_i l hev
    split at hs
    · rename_i cs hfc
      obtain ⟨out, h1, h2⟩ := fill_rel (place := fun i => some (i * sz, sz)) (f := fun (x : Nat × Operand) => (cX x.2).bind fun y => some (x.1 * sz, sz, y)) (fun i x off n y hf => by
        dsimp only at hf
        cases hc : cX x with
        | none => simp [hc] at hf
        | some y' =>
          simp [hc] at hf
          obtain ⟨rfl, rfl, rfl⟩ := hf
          exact ⟨rfl, rfl⟩) he parts.toList ps l z.cells cs u.cells hps hev hfc (CR.zero (t := t) (i := i) hcon)
      refine Ok.pure (v := .agg out) ?_ hh h2.agg hs
      obtain ⟨parts⟩ := parts
      simp only at h1
      simp only [execOp, ho, Instr.build, Sem.run_bind, run_zeroValue hi hu, Result.andThen_ok, run_underlying ht, run_sizeOf' hsz, List.map_toArray]
      rw [h1]
      rfl
    · exact hs.elim
  · exact hs.elim
theorem ok_mkif {t : TypeId} {d : TypeDesc} {x : Operand} {y : X} (ho : o.op = .makeInterface t x) (ht : P.underlying t = some d) (hd : ∀ ms, d ≠ .interface ms) (hx : cX x = some y)
    (hs : hstep base (.mkif t y) e h k) (hh : HeapRel K h w) (he : EnvRel K w e a.tmps) : Ok P o a K w k := by
  simp only [hstep] at hs
  split at hs
  · rename_i v hev
    have hx' := ev_sound hx he hev
    refine Ok.pure (v := .iface t (a.eval x)) ?_ hh (.iface t v _ hs.1 hx') hs.2
    simp only [execOp, ho, Instr.makeInterface, Sem.run_bind, run_underlying ht, Result.andThen_ok]
    cases d <;> first | rfl | exact absurd rfl (hd _)
  · exact hs.elim
end
end Go.Hw
