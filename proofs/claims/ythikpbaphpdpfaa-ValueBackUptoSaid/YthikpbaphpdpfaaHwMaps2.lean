/- Operations on maps. -/
import Derived.Test.YthikpbaphpdpfaaHwMaps
set_option linter.unusedVariables false
set_option linter.unusedSimpArgs false
namespace Go.Hw
open Go

variable {P : Program}
section
variable {o : Oper} {a : Act} {K : GK} {w : World} {k : HV → Heap → Prop} {e : Env} {h : Heap} (base : Nat)

theorem heap_map {id b : Nat} {es : List (Nat × HV × HV)} {c : Nat} (hh : HeapRel K h w) (hr : K.rho id = some b) (hm : Heap.mapAt h id = some (es, c)) : h[id]? = some (.map es c) ∧ ∃ ms : Array MapEntry, w.heap[b]? = some (.map ms c) ∧ EntRel K w es ms.toList := by
  have h1 : h[id]? = some (.map es c) := by
    unfold Heap.mapAt at hm
    split at hm
    · rename_i es' c' hx
      injection hm with hm
      injection hm with e1 e2
      subst e1; subst e2
      exact hx
    · cases hm
  obtain ⟨_, ob, h2, h3, _⟩ := hh.obj id b hr
  rw [h1] at h2
  injection h2 with h2
  subst h2
  obtain ⟨ms, h4, h5, h6⟩ := h3
  exact ⟨h1, ms, h4, by simpa using h5, fun j n x y hj => by simpa using h6 j n x y hj⟩
theorem found_get {ms : List MapEntry} {es : List (Nat × HV × HV)} (hr : EntRel K w es ms) {j n : Nat} {x y : HV} (hj : es[j]? = some (n, x, y)) : ∃ m, ms[j]? = some m ∧ found ms 0 (some j) = some (j, m.val) ∧ m.born = n ∧ isTuple x = false ∧ isTuple y = false ∧ V K w x m.key ∧ V K w y m.val := by
  obtain ⟨m, h1, h2, h3, h4, h5, h6⟩ := hr.2 j n x y hj
  exact ⟨m, h1, by simp [found, h1], h2, h3, h4, h5, h6⟩
theorem tup2 {x y : HV} {u v : Value} (hx : V K w x u) (hy : V K w y v) : V K w (.tuple [x, y]) (.tuple #[u, v]) := by
  refine V.tuple [x, y] [u, v] rfl fun j h z hj hz => ?_
  match j, hj, hz with
  | 0, hj, hz => simp at hj hz; subst hj; subst hz; exact hx
  | 1, hj, hz => simp at hj hz; subst hj; subst hz; exact hy
  | j + 2, hj, hz => simp at hj
theorem tup3 {x y q : HV} {u v z : Value} (hx : V K w x u) (hy : V K w y v) (hq : V K w q z) : V K w (.tuple [x, y, q]) (.tuple #[u, v, z]) := by
  refine V.tuple [x, y, q] [u, v, z] rfl fun j h zz hj hz => ?_
  match j, hj, hz with
  | 0, hj, hz => simp at hj hz; subst hj; subst hz; exact hx
  | 1, hj, hz => simp at hj hz; subst hj; subst hz; exact hy
  | 2, hj, hz => simp at hj hz; subst hj; subst hz; exact hq
  | j + 3, hj, hz => simp at hj

theorem ok_maplen {ts : Array TypeId} {t0 kt et : TypeId} {x : Operand} {y : X} (ho : o.op = .call { callee := .builtin .len, args := #[x], argTypes := ts }) (h0 : ts[0]? = some t0) (ht : P.underlying t0 = some (.map kt et)) (hx : cX x = some y)
    (hs : hstep base (.maplen y) e h k) (hh : HeapRel K h w) (he : EnvRel K w e a.tmps) : Ok P o a K w k := by
  obtain ⟨cs, hr⟩ := run_builtin (P := P) (w := w) (a := a) ho
  simp only [hstep] at hs
  split at hs
  · rename_i id hev
    split at hs
    · rename_i es c hm
      have hx' := ev_sound hx he hev
      generalize hcx : a.eval x = cx at hx'
      cases hx' with
      | map _ b hrho =>
        obtain ⟨_, ms, h2, h3, _⟩ := heap_map hh hrho hm
        have hsz : ms.size = es.length := by simpa using h3
        exact Ok.pure (v := .int .i64 es.length) (by rw [hr]; simp [builtin, Builtin.len_, h0, hcx, run_underlying ht, goInt, MapKept.run_getObj_map h2, hsz]) hh (.int _ _) hs
    · exact hs.elim
  · rename_i hev
    have hx' := ev_sound hx he hev
    generalize hcx : a.eval x = cx at hx'
    cases hx'
    exact Ok.pure (v := .int .i64 0) (by rw [hr]; simp [builtin, Builtin.len_, h0, hcx, run_underlying ht, goInt]) hh (.int _ _) hs
  · exact hs.elim

theorem ok_lookup {t kt et : TypeId} {kd : EqK} {ok : Bool} {z : HV} {m key : Operand} {m' key' : X} (ho : o.op = .lookup t m key ok) (ht : P.underlying t = some (.map kt et)) (hkd : eqKind P kt = some kd) (hz : tzero P et = some z) (hm : cX m = some m') (hk : cX key = some key')
    (hs : hstep base (.lookup kd z ok m' key') e h k) (hh : HeapRel K h w) (he : EnvRel K w e a.tmps) : Ok P o a K w k := by
  obtain ⟨i, u0, hi, hu0, hcon⟩ := tzero_info hz
  have hz0 := V_hconst (K := K) (w := w) hcon
  have fin : ∀ {x : HV} {v : Value} {b : Bool}, (Instr.lookup t (a.eval m) (a.eval key) ok).run P w = .ok (if ok then .tuple #[v, .bool b] else v) w → V K w x v → k (if ok then .tuple [x, .bool b] else x) h → Ok P o a K w k := by
    intro x v b hr hV hkk
    refine Ok.pure (v := if ok then .tuple #[v, .bool b] else v) (by simp only [execOp, ho, Sem.run_bind, hr, Result.andThen_ok, Sem.run_pure]) hh ?_ hkk
    cases ok with
    | false => exact hV
    | true => exact tup2 hV (.bool _)
  simp only [hstep] at hs
  split at hs
  · rename_i id x h1 h2
    split at hs
    · rename_i es c hmp
      obtain ⟨hself, hs⟩ := hs
      have hm' := ev_sound hm he h1
      have hk' := ev_sound hk he h2
      generalize hcm : a.eval m = cm at hm' fin
      generalize hck : a.eval key = ck at hk' fin
      cases hm' with
      | map _ b hrho =>
        obtain ⟨_, ms, g2, g3⟩ := heap_map hh hrho hmp
        have hch := check_run (P := P) hkd hk' hself ms.isEmpty
        split at hs
        · rename_i j hj
          unfold evAt at hs
          cases hes : es[j]? with
          | none => rw [hes] at hs; exact hs.elim
          | some p =>
            obtain ⟨n, kx, vx⟩ := p
            rw [hes] at hs
            obtain ⟨mm, f1, f2, _, _, _, _, f3⟩ := found_get g3 hes
            have hf := run_find (P := P) hkd hk' hself g3 hj
            rw [f2] at hf
            refine fin (b := true) (v := mm.val) ?_ f3 hs
            simp only [Instr.lookup, Sem.run_bind, run_underlying ht, MapKept.run_getObj_map g2, Result.andThen_ok, hch, hf, Sem.run_pure]
        · rename_i hj
          have hf := run_find (P := P) hkd hk' hself g3 hj
          refine fin (b := false) (v := u0) ?_ hz0 hs
          simp only [Instr.lookup, Sem.run_bind, run_underlying ht, MapKept.run_getObj_map g2, Result.andThen_ok, hch, hf, found, Sem.run_pure, run_zeroValue hi hu0]
        · exact hs.elim
    · exact hs.elim
  · rename_i x h1 h2
    obtain ⟨hself, hs⟩ := hs
    have hm' := ev_sound hm he h1
    have hk' := ev_sound hk he h2
    generalize hcm : a.eval m = cm at hm' fin
    generalize hck : a.eval key = ck at hk' fin
    cases hm'
    have hch := check_run (P := P) hkd hk' hself true
    have hf := run_find (P := P) (es := []) (ms := []) (r := none) hkd hk' hself ⟨rfl, fun j n x y hj => by simp at hj⟩ rfl
    refine fin (b := false) (v := u0) ?_ hz0 hs
    have e0 : (#[] : Array MapEntry).isEmpty = true := rfl
    simp only [Instr.lookup, Sem.run_bind, run_underlying ht, Result.andThen_ok, Sem.run_pure, e0, hch, hf, found, run_zeroValue hi hu0]
  · exact hs.elim

/-- A map's block is written. -/
theorem put_map {id b : Nat} {es es' : List (Nat × HV × HV)} {c c' : Nat} {ms ms' : Array MapEntry} (hh : HeapRel K h w) (hr : K.rho id = some b) (hm : h[id]? = some (.map es c)) (hb : w.heap[b]? = some (.map ms c)) (hent : Step K w K { w with heap := w.heap.setIfInBounds b (.map ms' c') } → EntRel K { w with heap := w.heap.setIfInBounds b (.map ms' c') } es' ms'.toList) :
    Step K w K { w with heap := w.heap.setIfInBounds b (.map ms' c') } ∧ HeapRel K (h.set id (.map es' c')) { w with heap := w.heap.setIfInBounds b (.map ms' c') } := by
  have hlt : b < w.heap.size := (Array.getElem?_eq_some_iff.1 hb).1
  refine set_obj (ob := .map ms' c') hh hr hm trivial trivial rfl rfl rfl rfl (fun n hrm => ?_) (fun s => ?_)
  · obtain ⟨cc, ee, fr, h1, _⟩ := hrm
    rw [hb] at h1
    cases h1
  · obtain ⟨h1, h2⟩ := hent s
    exact ⟨ms', by simp [hlt], by simpa using h1, fun j n x y hj => by simpa using h2 j n x y hj⟩
theorem EntRel.step {K' : GK} {w' : World} {es : List (Nat × HV × HV)} {ms : List MapEntry} (s : Step K w K' w') (hr : EntRel K w es ms) : EntRel K' w' es ms := ⟨hr.1, fun j n x y hj => let ⟨m, h1, h2, h3, h4, h5, h6⟩ := hr.2 j n x y hj; ⟨m, h1, h2, h3, h4, h5.step s, h6.step s⟩⟩
theorem EntRel.push {es : List (Nat × HV × HV)} {ms : List MapEntry} (hr : EntRel K w es ms) {n : Nat} {x y : HV} {m : MapEntry} (h1 : m.born = n) (h2 : isTuple x = false) (h3 : isTuple y = false) (h4 : V K w x m.key) (h5 : V K w y m.val) : EntRel K w (es ++ [(n, x, y)]) (ms ++ [m]) := by
  refine ⟨by simp [hr.1], fun j n' x' y' hj => ?_⟩
  rw [List.getElem?_append] at hj ⊢
  rw [hr.1]
  split at hj
  · rename_i hlt; rw [if_pos hlt]; exact hr.2 j n' x' y' hj
  · rename_i hge
    rw [if_neg hge]
    have : j - es.length = 0 := by
      rcases Nat.eq_zero_or_pos (j - es.length) with h0 | h0
      · exact h0
      · obtain ⟨q, hq⟩ : ∃ q, j - es.length = q + 1 := ⟨j - es.length - 1, by omega⟩
        rw [hq] at hj; simp at hj
    rw [this] at hj ⊢
    simp at hj
    obtain ⟨rfl, rfl, rfl⟩ := hj
    exact ⟨m, rfl, h1, h2, h3, h4, h5⟩
theorem EntRel.set {es : List (Nat × HV × HV)} {ms : List MapEntry} (hr : EntRel K w es ms) (j0 : Nat) {n : Nat} {x y : HV} {m : MapEntry} (h1 : m.born = n) (h2 : isTuple x = false) (h3 : isTuple y = false) (h4 : V K w x m.key) (h5 : V K w y m.val) : EntRel K w (es.set j0 (n, x, y)) (ms.set j0 m) := by
  refine ⟨by simp [hr.1], fun j n' x' y' hj => ?_⟩
  rw [List.getElem?_set] at hj ⊢
  rw [hr.1]
  split at hj
  · rename_i e1
    rw [if_pos e1]
    split at hj
    · rename_i hlt
      rw [if_pos hlt]
      simp at hj
      obtain ⟨rfl, rfl, rfl⟩ := hj
      exact ⟨m, rfl, h1, h2, h3, h4, h5⟩
    · cases hj
  · rename_i e1
    rw [if_neg e1]
    exact hr.2 j n' x' y' hj
theorem EntRel.erase {es : List (Nat × HV × HV)} {ms : List MapEntry} (hr : EntRel K w es ms) (j0 : Nat) : EntRel K w (es.eraseIdx j0) (ms.eraseIdx j0) := by
  refine ⟨by simp [List.length_eraseIdx, hr.1], fun j n' x' y' hj => ?_⟩
  rw [List.getElem?_eraseIdx] at hj ⊢
  split at hj
  · rename_i h1; rw [if_pos h1]; exact hr.2 _ _ _ _ hj
  · rename_i h1; rw [if_neg h1]; exact hr.2 _ _ _ _ hj

theorem mfind_true {kd : EqK} {x : HV} : ∀ {es : List (Nat × HV × HV)} {j : Nat}, mfind kd x es = some (some j) → ∃ p, es[j]? = some p ∧ keq kd x p.2.1 = some true
  | [], j, h => by simp [mfind] at h
  | p :: es, j, h => by
    rcases mfind_cons h with ⟨q1, q2⟩ | ⟨q1, r', q2, q3⟩
    · injection q2 with q2
      subst q2
      exact ⟨p, rfl, q1⟩
    · cases r' with
      | none => simp at q3
      | some j' =>
        simp at q3
        subst q3
        obtain ⟨p', h1, h2⟩ := mfind_true q2
        exact ⟨p', by simpa using h1, h2⟩
theorem keq_tuple {kd : EqK} {x : HV} (hself : keq kd x x = some true) : isTuple x = false := by
  rcases keq_cases hself with (⟨_, h⟩ | ⟨_, h⟩ | ⟨_, h⟩) | ⟨_, _, _, _, rfl, _⟩ <;> first | rfl | (cases x <;> simp [Sc.eq] at h <;> rfl)
theorem modify_list (ms : Array MapEntry) (j : Nat) (f : MapEntry → MapEntry) (m : MapEntry) (hm : ms.toList[j]? = some m) : (ms.modify j f).toList = ms.toList.set j (f m) := by
  apply List.ext_getElem?
  intro q
  rw [List.getElem?_set]
  simp only [Array.getElem?_toList, Array.getElem?_modify]
  simp only [Array.getElem?_toList] at hm
  split
  · rename_i e1
    subst e1
    have : j < ms.toList.length := by
      have := (Array.getElem?_eq_some_iff.1 hm).1
      simpa using this
    rw [if_pos this, hm]
    rfl
  · rfl

/-- A skipped value. -/
theorem Ok.unit {K' : GK} {w' : World} {h' : Heap} (hr : (execOp a.eval o).run P w = .ok .skip w') (s : Step K w K' w') (hh : HeapRel K' h' w') (hk : k (.tuple []) h') : Ok P o a K w k :=
  ⟨.tuple [], undef, K', w', h', .inr ⟨hr, rfl⟩, s, hh, V.tuple [] [] rfl (fun j h v hh => by simp at hh), hk⟩
theorem Ok.val {K' : GK} {w' : World} {h' : Heap} {x : HV} {v : Value} (hr : (execOp a.eval o).run P w = .ok (.value v) w') (s : Step K w K' w') (hh : HeapRel K' h' w') (hv : V K' w' x v) (hk : k x h') : Ok P o a K w k :=
  ⟨x, v, K', w', h', .inl hr, s, hh, hv, hk⟩

theorem ok_mapset {t kt et : TypeId} {kd : EqK} {m key v : Operand} {m' key' v' : X} (ho : o.op = .mapUpdate t m key v ∨ o.op = .insert t m key v) (ht : P.underlying t = some (.map kt et)) (hkd : eqKind P kt = some kd) (hm : cX m = some m') (hk : cX key = some key') (hv : cX v = some v')
    (hs : hstep base (.mapset kd m' key' v') e h k) (hh : HeapRel K h w) (he : EnvRel K w e a.tmps) : Ok P o a K w k := by
  have hex : execOp a.eval o = (do Instr.mapUpdate t (a.eval m) (a.eval key) (a.eval v); pure .skip) := by
    rcases ho with ho | ho <;> simp only [execOp, ho]
  simp only [hstep] at hs
  split at hs
  · rename_i id x y h1 h2 h3
    split at hs
    · rename_i es c hmp
      obtain ⟨⟨hself, htup⟩, hs⟩ := hs
      have hm' := ev_sound hm he h1
      have hk' := ev_sound hk he h2
      have hv' := ev_sound hv he h3
      generalize hcm : a.eval m = cm at hm' hex
      generalize hck : a.eval key = ck at hk' hex
      generalize hcv : a.eval v = cv at hv' hex
      have hxt := keq_tuple hself
      cases hm' with
      | map _ b hrho =>
        obtain ⟨g1, ms, g2, g3⟩ := heap_map hh hrho hmp
        have hch := check_run (P := P) hkd hk' hself false
        split at hs
        · rename_i j hj
          split at hs
          · rename_i n kx vx hes
            obtain ⟨mm, f1, f2, f4, _, _, f5, f3⟩ := found_get g3 hes
            have hf := run_find (P := P) hkd hk' hself g3 hj
            rw [f2] at hf
            obtain ⟨p, q1, q2⟩ := mfind_true hj
            rw [hes] at q1
            injection q1 with q1
            subst q1
            have hst := run_stays (P := P) hkd hk' f5 q2 w
            have f1' : ms[j]? = some mm := by simpa using f1
            obtain ⟨s, hh'⟩ := put_map (es' := es.set j (n, x, y)) (c' := c) (ms' := ms.modify j fun e => { e with key := ck, val := cv }) hh hrho g1 g2 (fun s => by
              rw [modify_list ms j _ mm f1]
              exact (g3.step s).set j (m := { mm with key := ck, val := cv }) f4 hxt htup (hk'.step s) (hv'.step s))
            refine Ok.unit ?_ s hh' hs
            rw [hex]
            simp only [Instr.mapUpdate, Sem.run_bind, run_underlying ht, MapKept.run_getObj_map g2, Result.andThen_ok, hch, hf, f1', Option.map_some, Option.getD_some, hst, MapKept.run_setObj_map _ g2, Sem.run_pure]
          · exact hs.elim
        · rename_i hj
          have hf := run_find (P := P) hkd hk' hself g3 hj
          obtain ⟨s, hh'⟩ := put_map (es' := es ++ [(c, x, y)]) (c' := c + 1) (ms' := ms.push { key := ck, val := cv, born := c }) hh hrho g1 g2 (fun s => by
            rw [Array.toList_push]
            exact (g3.step s).push rfl hxt htup (hk'.step s) (hv'.step s))
          refine Ok.unit ?_ s hh' hs
          rw [hex]
          simp only [Instr.mapUpdate, Sem.run_bind, run_underlying ht, MapKept.run_getObj_map g2, Result.andThen_ok, hch, hf, found, MapKept.run_setObj_map _ g2, Sem.run_pure]
        · exact hs.elim
    · exact hs.elim
  · exact hs.elim

theorem ok_mapentry {t kt et : TypeId} {kd : EqK} {z : HV} {m key : Operand} {m' key' : X} (ho : o.op = .mapEntry t m key) (ht : P.underlying t = some (.map kt et)) (hkd : eqKind P kt = some kd) (hz : tzero P et = some z) (hm : cX m = some m') (hk : cX key = some key')
    (hs : hstep base (.mapentry kd z m' key') e h k) (hh : HeapRel K h w) (he : EnvRel K w e a.tmps) : Ok P o a K w k := by
  obtain ⟨i, u0, hi, hu0, hcon⟩ := tzero_info hz
  have hz0 := fun K w => V_hconst (K := K) (w := w) hcon
  have hzt : isTuple z = false := by
    have := hconst_tuple hcon
    cases z <;> first | rfl | exact absurd rfl (this _)
  simp only [hstep] at hs
  split at hs
  · rename_i id x h1 h2
    split at hs
    · rename_i es c hmp
      obtain ⟨hself, hs⟩ := hs
      have hm' := ev_sound hm he h1
      have hk' := ev_sound hk he h2
      generalize hcm : a.eval m = cm at hm'
      generalize hck : a.eval key = ck at hk'
      have hxt := keq_tuple hself
      cases hm' with
      | map _ b hrho =>
        obtain ⟨g1, ms, g2, g3⟩ := heap_map hh hrho hmp
        have hch := check_run (P := P) hkd hk' hself false
        split at hs
        · rename_i j hj
          split at hs
          · rename_i n kx vx hes
            obtain ⟨mm, f1, f2, f4, _, f6, f5, f3⟩ := found_get g3 hes
            have hf := run_find (P := P) hkd hk' hself g3 hj
            rw [f2] at hf
            obtain ⟨p, q1, q2⟩ := mfind_true hj
            rw [hes] at q1
            injection q1 with q1
            subst q1
            have hst := run_stays (P := P) hkd hk' f5 q2 w
            have f1' : ms[j]? = some mm := by simpa using f1
            obtain ⟨s, hh'⟩ := put_map (es' := es.set j (n, x, vx)) (c' := c) (ms' := ms.modify j fun e => { e with key := ck }) hh hrho g1 g2 (fun s => by
              rw [modify_list ms j _ mm f1]
              exact (g3.step s).set j (m := { mm with key := ck }) f4 hxt f6 (hk'.step s) (f3.step s))
            refine Ok.val (v := .tuple #[mm.val, .int .i64 n]) ?_ s hh' (tup2 (f3.step s) (.int _ _)) hs
            simp only [execOp, ho, hcm, hck, Instr.mapEntry, Sem.run_bind, run_underlying ht, MapKept.run_getObj_map g2, Result.andThen_ok, hch, hf, f1', Option.map_some, Option.getD_some, hst, MapKept.run_setObj_map _ g2, Sem.run_pure, f4, goInt]
          · exact hs.elim
        · rename_i hj
          have hf := run_find (P := P) hkd hk' hself g3 hj
          obtain ⟨s, hh'⟩ := put_map (es' := es ++ [(c, x, z)]) (c' := c + 1) (ms' := ms.push { key := ck, val := u0, born := c }) hh hrho g1 g2 (fun s => by
            rw [Array.toList_push]
            exact (g3.step s).push rfl hxt hzt (hk'.step s) (hz0 _ _))
          refine Ok.val (v := .tuple #[u0, .int .i64 c]) ?_ s hh' (tup2 (hz0 _ _) (.int _ _)) hs
          simp only [execOp, ho, hcm, hck, Instr.mapEntry, Sem.run_bind, run_underlying ht, MapKept.run_getObj_map g2, Result.andThen_ok, hch, hf, found, run_zeroValue hi hu0, MapKept.run_setObj_map _ g2, Sem.run_pure, goInt]
        · exact hs.elim
    · exact hs.elim
  · exact hs.elim

theorem findIdx_rel {n : Int} : ∀ {es : List (Nat × HV × HV)} {ms : List MapEntry}, EntRel K w es ms → ms.findIdx? (fun e => (e.born : Int) == n) = es.findIdx? (fun p => (p.1 : Int) == n)
  | [], ms, h => by
    have : ms = [] := List.eq_nil_of_length_eq_zero h.1
    subst this; rfl
  | p :: es, ms, h => by
    obtain ⟨m, ms, rfl, h1, _, _, h2⟩ := h.cons
    rw [List.findIdx?_cons, List.findIdx?_cons, h1, findIdx_rel h2]
theorem find_rel {n : Nat} : ∀ {es : List (Nat × HV × HV)} {ms : List MapEntry}, EntRel K w es ms → (ms.find? (fun e => e.born == n) = none ∧ es.find? (fun p => p.1 == n) = none) ∨ ∃ m p, ms.find? (fun e => e.born == n) = some m ∧ es.find? (fun p => p.1 == n) = some p ∧ V K w p.2.1 m.key ∧ V K w p.2.2 m.val
  | [], ms, h => by
    have : ms = [] := List.eq_nil_of_length_eq_zero h.1
    subst this; exact .inl ⟨rfl, rfl⟩
  | p :: es, ms, h => by
    obtain ⟨m, ms, rfl, h1, h3, h4, h2⟩ := h.cons
    rw [List.find?_cons, List.find?_cons, h1]
    cases p.1 == n with
    | true => exact .inr ⟨m, p, rfl, rfl, h3, h4⟩
    | false => exact find_rel h2

theorem ok_entryset {t : TypeId} {m st v : Operand} {m' s' v' : X} (ho : o.op = .entryStore t m st v) (hm : cX m = some m') (hst : cX st = some s') (hv : cX v = some v')
    (hs : hstep base (.entryset m' s' v') e h k) (hh : HeapRel K h w) (he : EnvRel K w e a.tmps) : Ok P o a K w k := by
  simp only [hstep] at hs
  split at hs
  · rename_i id n y h1 h2 h3
    split at hs
    · rename_i es c hmp
      obtain ⟨htup, hs⟩ := hs
      have hm' := ev_sound hm he h1
      have hs' := ev_sound hst he h2
      have hv' := ev_sound hv he h3
      generalize hcm : a.eval m = cm at hm'
      generalize hcs : a.eval st = cs at hs'
      generalize hcv : a.eval v = cv at hv'
      cases hs'
      cases hm' with
      | map _ b hrho =>
        obtain ⟨g1, ms, g2, g3⟩ := heap_map hh hrho hmp
        have hfi := findIdx_rel (n := n) g3
        split at hs
        · rename_i j hj
          split at hs
          · rename_i q kx vx hes
            obtain ⟨mm, f1, _, f4, f7, _, f5, f3⟩ := found_get g3 hes
            obtain ⟨s, hh'⟩ := put_map (es' := es.set j (q, kx, y)) (c' := c) (ms' := ms.modify j fun e => { e with val := cv }) hh hrho g1 g2 (fun s => by
              rw [modify_list ms j _ mm f1]
              exact (g3.step s).set j (m := { mm with val := cv }) f4 f7 htup (f5.step s) (hv'.step s))
            refine Ok.unit ?_ s hh' hs
            rw [hj] at hfi
            have hfa : ms.findIdx? (fun e => (e.born : Int) == n) = some j := by
              obtain ⟨l⟩ := ms
              simpa using hfi
            simp only [execOp, ho, hcm, hcs, hcv, Instr.entryStore, Sem.run_bind, MapKept.run_getObj_map g2, Result.andThen_ok, asInt, asIntOf, Sem.run_pure, hfa, MapKept.run_setObj_map _ g2]
          · exact hs.elim
        · exact hs.elim
    · exact hs.elim
  · exact hs.elim

theorem ok_mapdel {ts : Array TypeId} {t0 kt et : TypeId} {kd : EqK} {x key : Operand} {y z : X} (ho : o.op = .call { callee := .builtin .delete, args := #[x, key], argTypes := ts }) (h0 : ts[0]? = some t0) (ht : P.underlying t0 = some (.map kt et)) (hkd : eqKind P kt = some kd) (hx : cX x = some y) (hz : cX key = some z)
    (hs : hstep base (.mapdel kd y z) e h k) (hh : HeapRel K h w) (he : EnvRel K w e a.tmps) : Ok P o a K w k := by
  obtain ⟨cs, hr⟩ := run_builtin (P := P) (w := w) (a := a) ho
  simp only [hstep] at hs
  split at hs
  · rename_i id q h1 h2
    split at hs
    · rename_i es c hmp
      obtain ⟨hself, hs⟩ := hs
      have hm' := ev_sound hx he h1
      have hk' := ev_sound hz he h2
      generalize hcm : a.eval x = cm at hm'
      generalize hck : a.eval key = ck at hk'
      cases hm' with
      | map _ b hrho =>
        obtain ⟨g1, ms, g2, g3⟩ := heap_map hh hrho hmp
        have hch := check_run (P := P) hkd hk' hself ms.isEmpty
        have hargs : (#[x, key] : Array Operand).map a.eval = #[.map (some b), ck] := by simp [hcm, hck]
        split at hs
        · rename_i j hj
          have hf := run_find (P := P) hkd hk' hself g3 hj
          obtain ⟨p, q1, q2⟩ := mfind_true hj
          obtain ⟨n, kx, vx⟩ := p
          obtain ⟨mm, f1, f2, _⟩ := found_get g3 q1
          rw [f2] at hf
          obtain ⟨s, hh'⟩ := put_map (es' := es.eraseIdx j) (c' := c) (ms' := ms.eraseIdxIfInBounds j) hh hrho g1 g2 (fun s => by
            have : (ms.eraseIdxIfInBounds j).toList = ms.toList.eraseIdx j := by simp
            rw [this]
            exact (g3.step s).erase j)
          refine Ok.val (x := .tuple []) (v := .tuple #[]) ?_ s hh' (V.tuple [] [] rfl (fun j h v hh => by simp at hh)) hs
          rw [hr]
          simp only [builtin, hargs, Builtin.delete_, h0, Sem.run_bind, run_underlying ht, MapKept.run_getObj_map g2, Result.andThen_ok, hch, hf, MapKept.run_setObj_map _ g2, Sem.run_pure]
          simp [h0, run_underlying ht, MapKept.run_getObj_map g2, hch, hf, MapKept.run_setObj_map _ g2]
        · rename_i hj
          have hf := run_find (P := P) hkd hk' hself g3 hj
          have e1 : w.heap.setIfInBounds b (.map ms c) = w.heap := by
            apply Array.ext_getElem?
            intro i
            rw [Array.getElem?_setIfInBounds]
            split
            · rename_i e1; subst e1
              have := (Array.getElem?_eq_some_iff.1 g2).1
              rw [if_pos this]; exact g2.symm
            · rfl
          refine Ok.val (x := .tuple []) (v := .tuple #[]) (w' := w) ?_ (.refl K w) hh (V.tuple [] [] rfl (fun j h v hh => by simp at hh)) hs
          rw [hr]
          simp [builtin, hargs, Builtin.delete_, h0, run_underlying ht, MapKept.run_getObj_map g2, hch, hf, found, MapKept.run_setObj_map _ g2, e1]
        · exact hs.elim
    · exact hs.elim
  · exact hs.elim
end
end Go.Hw
