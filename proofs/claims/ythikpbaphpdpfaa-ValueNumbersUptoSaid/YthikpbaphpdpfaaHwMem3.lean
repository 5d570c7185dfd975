/- Literals, append, make, bytes of a string. -/
import Derived.Test.YthikpbaphpdpfaaHwMem2
set_option linter.unusedVariables false
set_option linter.unusedSimpArgs false
namespace Go.Hw
open Go

variable {P : Program}

theorem foldl_set (off : Nat) : ∀ (l : List Value) (q : Nat) (cs : Array Value), off + q + l.length ≤ cs.size →
    ((l.zipIdx q).foldl (fun cs (x : Value × Nat) => cs.setIfInBounds (off + x.2) x.1) cs).toList = cs.toList.take (off + q) ++ l ++ cs.toList.drop (off + q + l.length)
  | [], q, cs, h => by simp
  | v :: r, q, cs, h => by
    have hq : off + q < cs.size := by simp at h; omega
    rw [List.zipIdx_cons, List.foldl_cons, foldl_set off r (q + 1) _ (by simp at h ⊢; omega)]
    have := list_seg_step cs.toList (off + q) v r (by simp at h ⊢; omega)
    simp only [Array.toList_setIfInBounds, List.length_cons]
    rw [← this]
    simp [Nat.add_assoc, Nat.add_comm, Nat.add_left_comm]

/-- What 'fill' makes: part by part. -/
theorem fill_step {place : Nat → Option (Nat × Nat)} {cells : Array Value} {i off size : Nat} {v : Value} {rest : List (Nat × Value)} (hp : place i = some (off, size)) (hv : v.cells.size = size) (hl : off + size ≤ cells.size) :
    Instr.fill place cells ((i, v) :: rest) = Instr.fill place (cells.toList.take off ++ v.cells.toList ++ cells.toList.drop (off + size)).toArray rest := by
  have e : (v.cells.zipIdx.foldl (fun cs (c, j) => cs.setIfInBounds (off + j) c) cells) = (cells.toList.take off ++ v.cells.toList ++ cells.toList.drop (off + size)).toArray := by
    apply Array.ext'
    rw [← Array.foldl_toList, Array.toList_zipIdx]
    have := foldl_set off v.cells.toList 0 cells (by simp; omega)
    simp only [Nat.add_zero, Array.length_toList, hv] at this
    simpa using this
  have hc : (v.cells.size ≠ size || off + v.cells.size > cells.size) = false := by
    simp [hv]; omega
  conv => lhs; unfold Instr.fill
  simp only [hp, hc, Bool.false_eq_true, if_false]
  rw [← e]

theorem fill_seq (size : Nat) : ∀ (vs : List Value) (i : Nat) (cur : Array Value), cur.size = (i + vs.length) * size → (∀ v ∈ vs, v.cells.size = size) →
    ∃ out, Instr.fill (fun i => some (i * size, size)) cur ((List.range' i vs.length).zip vs) = some out ∧ out.toList = cur.toList.take (i * size) ++ vs.flatMap (·.cells.toList)
  | [], i, cur, h, _ => ⟨cur, rfl, by simp at h ⊢; rw [List.take_of_length_le (by simp [h])]⟩
  | v :: r, i, cur, h, hv => by
    have h1 := hv v List.mem_cons_self
    have hsz : i * size + size + r.length * size = cur.size := by
      rw [h, List.length_cons, ← Nat.add_assoc, Nat.add_mul, Nat.add_mul]; omega
    have hl : i * size + size ≤ cur.size := by omega
    obtain ⟨out, ho, ht⟩ := fill_seq size r (i + 1) (cur.toList.take (i * size) ++ v.cells.toList ++ cur.toList.drop (i * size + size)).toArray (by
      simp only [List.size_toArray, List.length_append, List.length_take, List.length_drop, Array.length_toList, h1]
      rw [Nat.add_mul, Nat.add_mul]; omega) (fun u hu => hv u (List.mem_cons_of_mem _ hu))
    refine ⟨out, ?_, ?_⟩
    · rw [List.length_cons, List.range'_succ, List.zip_cons_cons, fill_step (off := i * size) (size := size) rfl h1 hl]
      exact ho
    · rw [ht, List.flatMap_cons]
      have : (cur.toList.take (i * size) ++ v.cells.toList ++ cur.toList.drop (i * size + size)).take ((i + 1) * size) = cur.toList.take (i * size) ++ v.cells.toList := by
        rw [List.take_left' (by simp [h1]; rw [Nat.add_mul]; omega)]
      show List.take ((i + 1) * size) (cur.toList.take (i * size) ++ v.cells.toList ++ cur.toList.drop (i * size + size)) ++ r.flatMap (·.cells.toList) = _
      rw [this, List.append_assoc]

section
variable {o : Oper} {a : Act} {K : GK} {w : World} {k : HV → Heap → Prop} {e : Env} {h : Heap} (base : Nat)

theorem V.cells_get {x : HV} {v : Value} (hx : V K w x v) (ht : ∀ cs, x ≠ .tuple cs) {j : Nat} {y : HV} (hy : x.cells[j]? = some y) : y.leaf = true ∧ ∃ u, v.cells[j]? = some u ∧ V K w y u := by
  obtain ⟨h1, h2, h3⟩ := hx.cells ht
  have hj := lt_of_get hy
  exact ⟨h2 y (List.mem_of_getElem? hy), v.cells[j]'(by omega), by simp [show j < v.cells.size by omega], h3 j y _ hy (by simp [show j < v.cells.size by omega])⟩

/-- The cells of a list of values, one behind the other. -/
theorem flat_vals : ∀ {xs : List HV} {vs : List Value}, xs.length = vs.length → (∀ x ∈ xs, ∀ cs, x ≠ .tuple cs) → (∀ (j : Nat) (x : HV) (v : Value), xs[j]? = some x → vs[j]? = some v → V K w x v) →
    (flat xs).length = (vs.flatMap (·.cells.toList)).length ∧ ∀ (j : Nat) (y : HV), (flat xs)[j]? = some y → y.leaf = true ∧ ∃ u, (vs.flatMap (·.cells.toList))[j]? = some u ∧ V K w y u
  | [], [], _, _, _ => ⟨rfl, fun j y hy => by simp [flat] at hy⟩
  | x :: xs, v :: vs, hl, ht, hv => by
    obtain ⟨h1, h2⟩ := flat_vals (xs := xs) (vs := vs) (by simpa using hl) (fun z hz => ht z (List.mem_cons_of_mem _ hz)) (fun j z u hz hu => hv (j + 1) z u hz hu)
    have hx := hv 0 x v rfl rfl
    have hxt := ht x List.mem_cons_self
    have hc := (hx.cells hxt).1
    rw [flat_cons, List.flatMap_cons]
    refine ⟨by simp [h1, hc], fun j y hy => ?_⟩
    rw [List.getElem?_append] at hy ⊢
    have hcl : v.cells.toList.length = x.cells.length := by simp [hc]
    rw [hcl]
    split at hy
    · rename_i hj
      rw [if_pos hj]
      obtain ⟨l, u, hu, hV⟩ := hx.cells_get hxt hy
      exact ⟨l, u, by simpa using hu, hV⟩
    · rename_i hj
      rw [if_neg hj]
      exact h2 _ y hy
  | [], _ :: _, hl, _, _ => by simp at hl
  | _ :: _, [], hl, _, _ => by simp at hl

theorem isTuple_false {x : HV} (hx : isTuple x = false) : ∀ cs, x ≠ .tuple cs := by
  intro cs e; subst e; simp [isTuple] at hx
theorem strip1_cells (x : HV) : x.strip1.cells.length = x.cells.length := by cases x <;> simp [HV.strip1, HV.cells]
theorem strip1_tuple {x : HV} (hx : isTuple x = false) : isTuple x.strip1 = false := by cases x <;> simp_all [HV.strip1, isTuple]

/-- A new list out of values. -/
theorem V_newlist {K' : GK} {w' : World} {xs : List HV} {us : List Value} {sz b cap : Nat} {tok : Tok} {c : Array Value} {et : TypeId} {fr : Nat × Nat}
    (hw : ∀ x ∈ xs, x.cells.length = sz) (hf : ∀ (j : Nat) (y : HV), (flat xs)[j]? = some y → y.leaf = true ∧ ∃ u, c[j]? = some u ∧ V K' w' y u)
    (hb : w'.heap[b]? = some (.cells c et fr)) (hl : (flat xs).length ≤ K'.lim b) (hcap : xs.length ≤ cap) (ht : TokOk K' w' b 0 xs.length (flat xs).length cap tok) : V K' w' (.list xs tok) (.slice (some ⟨b, 0, none⟩) xs.length cap) := by
  refine .list xs tok b 0 cap sz (fun j => (c[j]?).getD undef) hw (fun y hy => ?_) (fun j y hy => ?_) (fun j hj => ?_) (fun _ => by omega) hcap ht
  · obtain ⟨j, hj⟩ := mem_get hy
    exact (hf j y hj).1
  · obtain ⟨_, u, hu, hV⟩ := hf j y hy
    simp only [hu, Option.getD_some]; exact hV
  · obtain ⟨y, hy⟩ := get_of_lt hj
    obtain ⟨_, u, hu, hV⟩ := hf j y hy
    simp only [Nat.zero_add, hu, Option.getD_some]
    rw [cell_of_row w' b j c et fr hb]; exact hu

theorem zip_map_range' {α β : Type} (f : α → β) (l : List (Nat × α)) (n : Nat) (h : l.map (·.1) = List.range' 0 n) : l.map (fun p => (p.1, f p.2)) = (List.range' 0 n).zip (l.map fun p => f p.2) := by
  rw [← h]
  rw [List.zip_map']

theorem ok_mklist {t et : TypeId} {len sz : Nat} {parts : Array (Nat × Operand)} {ys : List X} {z : HV} (ho : o.op = .buildSlice t len parts) (ht : P.underlying t = some (.slice et)) (hsz : tsize P et = some sz) (hsz0 : sz ≠ 0) (hz : tzero P et = some z) (hzl : z.cells.length = sz)
    (hx : (parts.toList.map (·.2)).mapM cX = some ys) (hidx : parts.toList.map (·.1) = List.range len) (hbig : len * sz ≤ 2 ^ 24)
    (hs : hstep base (.mklist sz ys) e h k) (hh : HeapRel K h w) (he : EnvRel K w e a.tmps) : Ok P o a K w k := by
  simp only [hstep] at hs
  split at hs
  · rename_i vs hev
    obtain ⟨hwid, hk⟩ := hs
    obtain ⟨h1, h2⟩ := evs_sound he hx hev
    obtain ⟨i, u, hi, hu, hc⟩ := tzero_info hz
    have hucs := (V_hconst (K := K) (w := w) hc).cells (hconst_tuple hc)
    have hlen : vs.length = len := by
      rw [h1, List.length_map, ← List.length_map (f := (·.1)), hidx, List.length_range]
    have husz : u.cells.size = sz := by rw [← hucs.1]; exact hzl
    generalize hus : parts.toList.map (fun p => a.eval p.2) = us
    have husl : us.length = len := by rw [← hus, List.length_map, ← List.length_map (f := (·.1)), hidx, List.length_range]
    have hpair : ∀ (j : Nat) (x : HV) (v : Value), vs[j]? = some x → us[j]? = some v → V K w x v := by
      intro j x v hxj hvj
      rw [← hus, List.getElem?_map] at hvj
      obtain ⟨p, hp, rfl⟩ := Option.map_eq_some_iff.1 hvj
      exact h2 j x p.2 hxj (by rw [List.getElem?_map, hp]; rfl)
    have hcell : ∀ v ∈ us, v.cells.size = sz := by
      intro v hv
      obtain ⟨j, hj⟩ := mem_get hv
      obtain ⟨x, hxj⟩ := get_of_lt (l := vs) (j := j) (by rw [hlen, ← husl]; exact lt_of_get hj)
      have hm := hwid x (List.mem_of_getElem? hxj)
      rw [← ((hpair j x v hxj hj).cells (isTuple_false hm.2)).1]; exact hm.1
    -- the run
    generalize hzr : (Array.range (len * sz)).map (u.cells[· % u.cells.size]!) = cur
    have hcursz : cur.size = (0 + us.length) * sz := by rw [← hzr, husl]; simp
    obtain ⟨out, hfill, hout⟩ := fill_seq sz us 0 cur hcursz hcell
    have hparts : (parts.map fun (p : Nat × Operand) => (p.1, a.eval p.2)).toList = (List.range' 0 us.length).zip us := by
      rw [Array.toList_map, ← hus, List.length_map]
      have : parts.toList.length = len := by rw [← List.length_map (f := (·.1)), hidx, List.length_range]
      rw [this]
      exact zip_map_range' a.eval parts.toList len (by rw [hidx, List.range_eq_range'])
    have hrun : (execOp a.eval o).run P w = .ok (.value (.slice (some ⟨w.heap.size, 0, none⟩) len len)) (w.alloc (.cells out et)) := by
      simp only [execOp, ho, Sem.run_bind]
      have : (Instr.buildSlice t len (parts.map fun (p : Nat × Operand) => (p.1, a.eval p.2))).run P w = .ok (.slice (some ⟨w.heap.size, 0, none⟩) len len) (w.alloc (.cells out et)) := by
        simp only [Instr.buildSlice, Sem.run_bind, run_underlying ht, Result.andThen_ok, run_sizeOf' hsz]
        rw [if_neg (by omega)]
        by_cases hz0 : len * sz = 0
        · have hl0 : len = 0 := by
            rcases Nat.mul_eq_zero.1 hz0 with h | h
            · exact h
            · exact absurd h hsz0
          subst hl0
          have hus0 : us = [] := List.eq_nil_of_length_eq_zero husl
          subst hus0
          simp only [hz0, if_true, Sem.run_pure, Result.andThen_ok, hparts]
          simp [Instr.fill] at hfill hout
          subst hfill
          simp [Instr.fill, newRow, hout, Array.range_zero']
        · simp only [if_neg hz0, Sem.run_bind, run_zeroValue hi hu, Sem.run_pure, Result.andThen_ok, hparts, hzr, hfill, newRow, run_newObj]
          simp
      simp only [this, Result.andThen_ok, Sem.run_pure]
    have hxt : ∀ x ∈ vs.map HV.strip1, ∀ cs, x ≠ .tuple cs := by
      intro x hx
      obtain ⟨y, hy, rfl⟩ := List.mem_map.1 hx
      exact isTuple_false (strip1_tuple (hwid y hy).2)
    have hpair' : ∀ (j : Nat) (x : HV) (v : Value), (vs.map HV.strip1)[j]? = some x → us[j]? = some v → V K w x v := by
      intro j x v hx hv
      rw [List.getElem?_map] at hx
      obtain ⟨y, hy, rfl⟩ := Option.map_eq_some_iff.1 hx
      exact (hpair j y v hy hv).strip1
    obtain ⟨hf1, hf2⟩ := flat_vals (K := K) (w := w) (xs := vs.map HV.strip1) (vs := us) (by simp [hlen, husl]) hxt hpair'
    obtain ⟨s, hh'⟩ := push_list (w' := w.alloc (.cells out et)) (ob := .cells out et) hh (flat (vs.map HV.strip1)).length rfl rfl rfl rfl
    have hwid' : ∀ x ∈ vs.map HV.strip1, x.cells.length = sz := by
      intro x hx
      obtain ⟨y, hy, rfl⟩ := List.mem_map.1 hx
      rw [strip1_cells]; exact (hwid y hy).1
    have hV := V_newlist (K' := K.limAt w.heap.size (flat (vs.map HV.strip1)).length) (w' := w.alloc (.cells out et)) (xs := vs.map HV.strip1) (us := us) (sz := sz) (b := w.heap.size) (cap := len) (tok := .full) (c := out) (et := et) (fr := (0, 0)) hwid'
      (fun j y hy => by
        obtain ⟨l, u', hu', hV⟩ := hf2 j y hy
        refine ⟨l, u', ?_, hV.step s⟩
        rw [← Array.getElem?_toList, hout]
        simpa using hu')
      (heap_alloc_new w _) (by simp [GK.limAt]) (by simp [hlen]) (by simp [TokOk, hlen])
    refine ⟨_, _, _, _, _, .inl hrun, s, hh', ?_, hk⟩
    simpa [hlen] using hV
  · exact hs.elim

end
end Go.Hw
