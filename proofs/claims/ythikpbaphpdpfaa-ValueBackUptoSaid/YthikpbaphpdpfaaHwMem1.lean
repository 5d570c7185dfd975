/- Memory: new blocks, rows that are written, and what stays. -/
import Derived.Test.YthikpbaphpdpfaaHwOps4
import Derived.Laws.CopyRow
set_option linter.unusedVariables false
set_option linter.unusedSimpArgs false
namespace Go.Hw
open Go

variable {P : Program}

theorem ObjOk.keep {K K' : GK} {w w' : World} (s : Step K w K' w') {b : Nat} (hb : w'.heap[b]? = w.heap[b]?) : ∀ {o : HObj}, ObjOk K w b o → ObjOk K' w' b o
  | .cells cs, ⟨c, e, fr, h1, h2, h3, h4⟩ => ⟨c, e, fr, hb.trans h1, h2, h3, fun j x hx => let ⟨l, v, hv, hV⟩ := h4 j x hx; ⟨l, v, hv, hV.step s⟩⟩
  | .map es cl, ⟨ms, h1, h2, h5⟩ => ⟨ms, hb.trans h1, h2, fun j n x y hx => let ⟨m, hm, hn, t1, t2, hk, hv⟩ := h5 j n x y hx; ⟨m, hm, hn, t1, t2, hk.step s, hv.step s⟩⟩
  | .iter none since seen last, h => hb.trans h
  | .iter (some i) since seen last, ⟨b', h1, h2⟩ => ⟨b', s.rho _ _ h1, hb.trans h2⟩
  | .siter t pos, h => hb.trans h
  | .dead, _ => trivial
  | .tok _, h => h.elim
  | .res, h => h.elim

/-- The heap's last block is new. -/
theorem step_push {K K' : GK} {w w' : World} {h : Heap} {ob : Obj} (hh : HeapRel K h w) (hheap : w'.heap = w.heap.push ob) (hos : w'.os = w.os) (htape : w'.tape = w.tape) (hout : w'.output = w.output)
    (hlim : ∀ b, b ≠ w.heap.size → K'.lim b = K.lim b) (hrho : ∀ id b, K.rho id = some b → K'.rho id = some b) (hrho' : ∀ id b, K'.rho id = some b → K.rho id = some b ∨ b = w.heap.size)
    (hwm : ∀ k, K.wm k ≤ K'.wm k) (htok : ∀ k, K'.wm k = K.wm k → K'.tb k = K.tb k) (htb : ∀ k b, K'.tb k = some b → K.tb k = some b ∨ b = w.heap.size) : Step K w K' w' := by
  have hold : ∀ b, b < w.heap.size → w'.heap[b]? = w.heap[b]? := fun b hb => by rw [hheap, Array.getElem?_push, if_neg (by omega)]
  refine ⟨hos, htape, hout, by rw [hheap]; simp, fun b => ?_, hwm, fun k hk => ⟨htok k hk, fun b hb => hlim b (by have := (hh.tok k b hb).1; omega)⟩, hrho, fun b i v hi hc => ?_, fun b n hr => ?_, fun b hb ho => ?_, fun b hb ho => ⟨hold b hb, hlim b (by omega)⟩⟩
  · by_cases hb : b = w.heap.size
    · rw [hb, hh.limb _ (Nat.le_refl _)]; omega
    · rw [hlim b hb]; exact Nat.le_refl _
  · have hlt := World.block_lt_of_cell? w _ hc
    rw [World.cell?_of_block (hold b hlt)]; exact hc
  · obtain ⟨c, e, fr, hb, hn⟩ := hr
    exact ⟨c, e, fr, by rw [hold b (Array.getElem?_eq_some_iff.1 hb).1]; exact hb, hn⟩
  · rcases ho with ⟨id, ho⟩ | ⟨k, ho⟩
    · rcases hrho' id b ho with h | h
      · exact .inl ⟨id, h⟩
      · omega
    · rcases htb k b ho with h | h
      · exact .inr ⟨k, h⟩
      · omega

def GK.limAt (K : GK) (b n : Nat) : GK := { K with lim := fun x => if x = b then n else K.lim x }
def GK.rhoAt (K : GK) (id b : Nat) : GK := { K with rho := fun i => if i = id then some b else K.rho i }

/-- A new block of cells that never change. -/
theorem push_list {K : GK} {w w' : World} {h : Heap} {ob : Obj} (hh : HeapRel K h w) (n : Nat) (hheap : w'.heap = w.heap.push ob) (hos : w'.os = w.os) (htape : w'.tape = w.tape) (hout : w'.output = w.output) :
    Step K w (K.limAt w.heap.size n) w' ∧ HeapRel (K.limAt w.heap.size n) h w' := by
  have s : Step K w (K.limAt w.heap.size n) w' := step_push hh hheap hos htape hout (fun b hb => by simp [GK.limAt, hb]) (fun id b hr => hr) (fun id b hr => .inl hr) (fun k => Nat.le_refl _) (fun k _ => rfl) (fun k b hb => .inl hb)
  have hold : ∀ b, b < w.heap.size → w'.heap[b]? = w.heap[b]? := fun b hb => by rw [hheap, Array.getElem?_push, if_neg (by omega)]
  have hl : ∀ b, b < w.heap.size → (K.limAt w.heap.size n).lim b = K.lim b := fun b hb => by simp [GK.limAt, show b ≠ w.heap.size by omega]
  refine ⟨s, ⟨fun id b hr => ?_, hh.inj, hh.wm, fun k b hk => ?_, hh.tinj, fun b hb => ?_⟩⟩
  · obtain ⟨h1, o, h2, h3, h4⟩ := hh.obj id b hr
    exact ⟨by rw [hheap]; simp; omega, o, h2, h3.keep s (hold b h1), fun hlive => by rw [hl b h1]; exact h4 hlive⟩
  · obtain ⟨h1, h2, h3, c, e, fr, h4, h5, h6⟩ := hh.tok k b hk
    exact ⟨by rw [hheap]; simp; omega, h2, h3, c, e, fr, by rw [hold b h1]; exact h4, by rw [hl b h1]; exact h5, h6⟩
  · rw [hheap] at hb
    simp at hb
    have : b ≠ w.heap.size := by omega
    simp only [GK.limAt, if_neg this]
    exact hh.limb b (by omega)

/-- A new object of Hw's own. -/
theorem push_obj {K : GK} {w w' : World} {h h' : Heap} {ob : Obj} {x : HObj} {id : Nat} (hh : HeapRel K h w) (hheap : w'.heap = w.heap.push ob) (hos : w'.os = w.os) (htape : w'.tape = w.tape) (hout : w'.output = w.output)
    (hid : (h[id]? = some .res ∧ h' = h.set id x) ∨ (id = h.length ∧ h' = h ++ [x])) (hx : ∀ n, x ≠ .tok n) (hok : ∀ K' : GK, Step K w K' w' → ObjOk K' w' w.heap.size x) :
    Step K w (K.rhoAt id w.heap.size) w' ∧ HeapRel (K.rhoAt id w.heap.size) h' w' := by
  -- nothing was at id
  have hno : K.rho id = none := by
    cases hr : K.rho id with
    | none => rfl
    | some b =>
      obtain ⟨_, o, h2, h3, _⟩ := hh.obj id b hr
      rcases hid with ⟨h4, _⟩ | ⟨h4, _⟩
      · rw [h4] at h2; injection h2 with h2; subst h2; exact h3.elim
      · rw [List.getElem?_eq_none (by omega)] at h2; cases h2
  have hget : h'[id]? = some x := by
    rcases hid with ⟨h4, rfl⟩ | ⟨h4, rfl⟩
    · rw [List.getElem?_set_self (lt_of_get h4)]
    · simp [h4]
  have hoth : ∀ i, i ≠ id → h'[i]? = h[i]? := by
    intro i hi
    rcases hid with ⟨h4, rfl⟩ | ⟨h4, rfl⟩
    · rw [List.getElem?_set_ne (Ne.symm hi)]
    · rcases Nat.lt_or_ge i h.length with h5 | h5
      · rw [List.getElem?_append_left h5]
      · rw [List.getElem?_eq_none (by simp; omega), List.getElem?_eq_none h5]
  have hidtok : ∀ n, h[id]? ≠ some (.tok n) := by
    intro n hn
    rcases hid with ⟨h4, _⟩ | ⟨h4, _⟩
    · rw [h4] at hn; cases hn
    · rw [List.getElem?_eq_none (by omega)] at hn; cases hn
  have s : Step K w (K.rhoAt id w.heap.size) w' := step_push hh hheap hos htape hout (fun b hb => rfl) (fun i b hr => by
      have : i ≠ id := by intro e; subst e; rw [hno] at hr; cases hr
      simp [GK.rhoAt, this, hr]) (fun i b hr => by
      simp only [GK.rhoAt] at hr
      split at hr
      · injection hr with hr; exact .inr hr.symm
      · exact .inl hr) (fun k => Nat.le_refl _) (fun k _ => rfl) (fun k b hb => .inl hb)
  have hold : ∀ b, b < w.heap.size → w'.heap[b]? = w.heap[b]? := fun b hb => by rw [hheap, Array.getElem?_push, if_neg (by omega)]
  have hsz : w'.heap.size = w.heap.size + 1 := by rw [hheap]; simp
  refine ⟨s, ⟨fun i b hr => ?_, fun i j b y z hi hj h1 h2 hy hz => ?_, fun k => ?_, fun k b hk => ?_, hh.tinj, fun b hb => hh.limb b (by omega)⟩⟩
  · simp only [GK.rhoAt] at hr
    split at hr
    · rename_i e
      injection hr with hr
      subst hr; subst e
      exact ⟨by omega, x, hget, hok _ s, fun _ => hh.limb _ (Nat.le_refl _)⟩
    · rename_i e
      obtain ⟨h1, o, h2, h3, h4⟩ := hh.obj i b hr
      exact ⟨by omega, o, by rw [hoth i e]; exact h2, h3.keep s (hold b h1), h4⟩
  · simp only [GK.rhoAt] at hi hj
    split at hi <;> split at hj
    · simp_all
    · injection hi with hi
      have := (hh.obj j b hj).1
      omega
    · injection hj with hj
      have := (hh.obj i b hi).1
      omega
    · rename_i e1 e2
      exact hh.inj i j b y z hi hj (by rw [← hoth i e1]; exact h1) (by rw [← hoth j e2]; exact h2) hy hz
  · show K.wm k = _
    rw [hh.wm k]
    by_cases e : k = id
    · subst e
      rw [hget]
      cases hk : h[k]? with
      | none => cases x <;> first | rfl | exact absurd rfl (hx _)
      | some o => cases o <;> cases x <;> first | rfl | exact absurd rfl (hx _) | exact absurd hk (hidtok _)
    · rw [hoth k e]
  · obtain ⟨h1, ⟨n, h2⟩, h3, c, e, fr, h4, h5, h6⟩ := hh.tok k b hk
    have hne : k ≠ id := by intro e; subst e; exact hidtok n h2
    refine ⟨by omega, ⟨n, by rw [hoth k hne]; exact h2⟩, fun i o hi ho => ?_, c, e, fr, by rw [hold b h1]; exact h4, h5, h6⟩
    simp only [GK.rhoAt] at hi
    split at hi
    · injection hi with hi; omega
    · rename_i e'
      exact h3 i o hi (by rw [← hoth i e']; exact ho)

/-! ### cells written in a row -/
theorem run_storeCells_nofr (g o : Nat) (t : TypeId) (fr : Nat × Nat) : ∀ (vs : List Value) (i : Nat) (cur : Array Value) (w : World), w.heap[g]? = some (.cells cur t fr) → nofr cur fr → o + i + vs.length ≤ cur.size → (∀ v ∈ vs, v.oneCell' = true) →
    (storeCells ⟨g, o, none⟩ vs i).run P w = .ok () (w.setRow g (cur.toList.take (o + i) ++ vs ++ cur.toList.drop (o + i + vs.length)).toArray)
  | [], i, cur, w, hg, _, _, _ => by
    simp only [storeCells, List.append_nil, List.length_nil, Nat.add_zero, List.take_append_drop, Array.toArray_toList]
    rw [setRow_self w g cur t fr hg]
    rfl
  | v :: rest, i, cur, w, hg, hf, hl, h1 => by
    have hi : o + i < cur.size := by simp at hl; omega
    have hcell : w.cell? ⟨g, o + i, none⟩ = some cur[o + i] := by simp [World.cell?, hg, hi]
    have hfz : w.frozen? ⟨g, o + i, none⟩ = false := by
      simp only [World.frozen?, hg]
      have := hf (o + i) hi
      by_cases h : fr.1 ≤ o + i
      · simp [h]; omega
      · simp [h]
    have hset : w.setCell ⟨g, o + i, none⟩ v = w.setRow g (cur.setIfInBounds (o + i) v) := by
      unfold World.setCell World.setRow
      congr 1
      apply Array.ext_getElem?
      intro k
      simp only [Array.getElem?_modify]
      by_cases hk : g = k
      · subst hk
        simp [hg]
      · simp [hk]
    have ih := run_storeCells_nofr g o t fr rest (i + 1) (cur.setIfInBounds (o + i) v) (w.setRow g (cur.setIfInBounds (o + i) v)) (setRow_heap w g cur _ t fr hg) (by intro j hj; exact hf j (by simpa using hj)) (by simp at hl ⊢; omega) (fun u hu => h1 u (List.mem_cons_of_mem _ hu))
    simp only [storeCells, Sem.run_bind, Addr.add_lit]
    rw [run_store P w ⟨g, o + i, none⟩ v .plain (h1 v List.mem_cons_self)]
    simp only [hcell, hfz, Bool.false_eq_true, if_false, Result.andThen_ok]
    rw [hset, ih, setRow_setRow]
    congr 3
    have := list_seg_step cur.toList (o + i) v rest (by simp at hl ⊢; omega)
    simp only [Array.toList_setIfInBounds, List.length_cons]
    rw [← this]
    simp [Nat.add_assoc, Nat.add_comm, Nat.add_left_comm]

theorem putAt_length {cs vs : List HV} {off : Nat} (h : off + vs.length ≤ cs.length) : (putAt cs off vs).length = cs.length := by
  simp [putAt]; omega
theorem seg_get {α : Type} (l vs : List α) (off j : Nat) (h : off + vs.length ≤ l.length) : (l.take off ++ vs ++ l.drop (off + vs.length))[j]? = if j < off then l[j]? else if j < off + vs.length then vs[j - off]? else l[j]? := by
  rw [List.append_assoc, List.getElem?_append, List.length_take, Nat.min_eq_left (by omega)]
  split
  · rename_i h1; rw [List.getElem?_take, if_pos h1]
  · rw [List.getElem?_append]
    split
    · rename_i h1 h2; rw [if_pos (by omega)]
    · rename_i h1 h2
      rw [if_neg (by omega), List.getElem?_drop]
      congr 1
      omega

/-- A row of Hw's own is written. -/
theorem put_row {K : GK} {w : World} {h : Heap} {id b off : Nat} {cs : List HV} {vs : List HV} {us : List Value} (hh : HeapRel K h w) (hr : K.rho id = some b) (hc : h[id]? = some (.cells cs)) (hl : vs.length = us.length) (hoff : off + vs.length ≤ cs.length)
    (hleaf : ∀ v ∈ vs, v.leaf = true) (hv : ∀ (j : Nat) (v : HV) (u : Value), vs[j]? = some v → us[j]? = some u → V K w v u) :
    ∃ w', (storeCells ⟨b, off, none⟩ us).run P w = .ok () w' ∧ Step K w K w' ∧ HeapRel K (h.set id (.cells (putAt cs off vs))) w' := by
  obtain ⟨hb, o, ho, hok, hlim⟩ := hh.obj id b hr
  rw [hc] at ho
  injection ho with ho
  subst ho
  obtain ⟨c, e, fr, h1, h2, h3, h4⟩ := hok
  have hlim := hlim trivial
  have hone : ∀ u ∈ us, u.oneCell' = true := by
    intro u hu
    obtain ⟨j, hj⟩ := mem_get hu
    obtain ⟨v, hvj⟩ := get_of_lt (l := vs) (j := j) (by rw [hl]; exact lt_of_get hj)
    exact (hv j v u hvj hj).oneCell (hleaf v (List.mem_of_getElem? hvj))
  have hrun := run_storeCells_nofr (P := P) b off e fr us 0 c w h1 h3 (by omega) hone
  simp only [Nat.add_zero] at hrun
  generalize hcur : (c.toList.take off ++ us ++ c.toList.drop (off + us.length)).toArray = cur at hrun
  have hcsz : cur.size = c.size := by rw [← hcur]; simp; omega
  have hcget : ∀ j, cur[j]? = if j < off then c[j]? else if j < off + us.length then us[j - off]? else c[j]? := by
    intro j
    rw [← hcur]
    simp only [List.getElem?_toArray]
    rw [seg_get _ _ _ _ (by simp; omega)]
    simp
  have hoth : ∀ k, k ≠ b → (w.setRow b cur).heap[k]? = w.heap[k]? := fun k hk => setRow_other w b k cur hk
  have hsame := setRow_heap w b c cur e fr h1
  have s : Step K w K (w.setRow b cur) := by
    refine ⟨rfl, rfl, rfl, by simp, fun _ => Nat.le_refl _, fun _ => Nat.le_refl _, fun _ _ => ⟨rfl, fun _ _ => rfl⟩, fun _ _ h => h, fun x i v hi hcell => ?_, fun x n hr => ?_, fun _ _ h => h, fun x hx ho => ?_⟩
    · have hx : x ≠ b := by intro e; subst e; omega
      rw [cell_setRow_other w b cur _ hx]; exact hcell
    · obtain ⟨c', e', fr', hb', hn⟩ := hr
      by_cases hx : x = b
      · subst hx
        rw [h1] at hb'
        injection hb' with hb'
        injection hb' with hb'
        subst hb'
        exact ⟨cur, e, fr, hsame, by omega⟩
      · exact ⟨c', e', fr', by rw [hoth x hx]; exact hb', hn⟩
    · have hx' : x ≠ b := by intro e; subst e; exact ho (.inl ⟨id, hr⟩)
      exact ⟨hoth x hx', rfl⟩
  have hgetid : (h.set id (.cells (putAt cs off vs)))[id]? = some (.cells (putAt cs off vs)) := by rw [List.getElem?_set_self (lt_of_get hc)]
  have hgeto : ∀ i, i ≠ id → (h.set id (.cells (putAt cs off vs)))[i]? = h[i]? := fun i hi => by rw [List.getElem?_set_ne (Ne.symm hi)]
  refine ⟨w.setRow b cur, hrun, s, ⟨fun i b' hr' => ?_, fun i j b' y z hi hj hy hz ly lz => ?_, fun k => ?_, fun k b' hk => ?_, hh.tinj, fun x hx => hh.limb x (by simpa using hx)⟩⟩
  · obtain ⟨h5, o', h6, h7, h8⟩ := hh.obj i b' hr'
    refine ⟨by simpa using h5, ?_⟩
    by_cases hi : i = id
    · subst hi
      rw [hr] at hr'
      injection hr' with hr'
      subst hr'
      refine ⟨_, hgetid, ⟨cur, e, fr, hsame, by rw [putAt_length hoff]; omega, fun j hj => h3 j (by omega), fun j x hx => ?_⟩, fun _ => hlim⟩
      simp only [putAt] at hx
      rw [seg_get _ _ _ _ hoff] at hx
      rw [hcget j, ← hl]
      split at hx
      · rename_i hj
        obtain ⟨l, v, hv', hV⟩ := h4 j x hx
        exact ⟨l, v, by rw [if_pos hj]; exact hv', hV.step s⟩
      · rename_i hj
        split at hx
        · rename_i hj2
          obtain ⟨u, hu⟩ := get_of_lt (l := us) (j := j - off) (by rw [← hl]; exact lt_of_get hx)
          exact ⟨hleaf x (List.mem_of_getElem? hx), u, by rw [if_neg hj, if_pos hj2]; exact hu, (hv _ x u hx hu).step s⟩
        · rename_i hj2
          obtain ⟨l, v, hv', hV⟩ := h4 j x hx
          exact ⟨l, v, by rw [if_neg hj, if_neg hj2]; exact hv', hV.step s⟩
    · refine ⟨o', by rw [hgeto i hi]; exact h6, ?_, h8⟩
      by_cases hbb : b' = b
      · subst hbb
        have hdead : ¬ o'.live := fun hlive => hi (hh.inj i id b' o' (.cells cs) hr' hr h6 hc hlive trivial)
        cases o' with
        | dead => trivial
        | cells _ => exact absurd trivial hdead
        | map _ _ => exact absurd trivial hdead
        | iter _ _ _ _ => exact absurd trivial hdead
        | siter _ _ => exact absurd trivial hdead
        | tok _ => exact h7.elim
        | res => exact h7.elim
      · exact h7.keep s (hoth b' hbb)
  · have key : ∀ (i : Nat) (y : HObj), (h.set id (.cells (putAt cs off vs)))[i]? = some y → y.live → ∃ y', h[i]? = some y' ∧ y'.live := by
      intro i y hy ly
      by_cases hi : i = id
      · subst hi; exact ⟨_, hc, trivial⟩
      · exact ⟨y, by rw [← hgeto i hi]; exact hy, ly⟩
    obtain ⟨y', hy', ly'⟩ := key i y hy ly
    obtain ⟨z', hz', lz'⟩ := key j z hz lz
    exact hh.inj i j b' y' z' hi hj hy' hz' ly' lz'
  · rw [hh.wm k]
    by_cases hi : k = id
    · subst hi; rw [hgetid, hc]
    · rw [hgeto k hi]
  · obtain ⟨h5, ⟨n, h6⟩, h7, c', e', fr', h8, h9, h10⟩ := hh.tok k b' hk
    have hne : k ≠ id := by intro e'; subst e'; rw [hc] at h6; cases h6
    have hbb : b' ≠ b := by intro e'; subst e'; exact h7 id _ hr hc trivial
    refine ⟨by simpa using h5, ⟨n, by rw [hgeto k hne]; exact h6⟩, fun i o' hi ho' => ?_, c', e', fr', by rw [hoth b' hbb]; exact h8, h9, h10⟩
    by_cases hii : i = id
    · subst hii
      rw [hr] at hi
      injection hi with hi
      exact absurd hi.symm hbb
    · exact h7 i o' hi (by rw [← hgeto i hii]; exact ho')

/-- An object of Hw's own becomes another one, in its place. -/
theorem set_obj {K : GK} {w w' : World} {h : Heap} {id b : Nat} {old new : HObj} {ob : Obj} (hh : HeapRel K h w) (hr : K.rho id = some b) (hc : h[id]? = some old) (hlive : old.live) (hnew : new.live) (hheap : w'.heap = w.heap.setIfInBounds b ob) (hos : w'.os = w.os) (htape : w'.tape = w.tape) (hout : w'.output = w.output)
    (hroom : ∀ n, RoomAt w b n → RoomAt w' b n) (hok : Step K w K w' → ObjOk K w' b new) : Step K w K w' ∧ HeapRel K (h.set id new) w' := by
  obtain ⟨hb, o, h1, h2, h3⟩ := hh.obj id b hr
  rw [hc] at h1
  injection h1 with h1
  subst h1
  have hlim := h3 hlive
  have hoth : ∀ b', b' ≠ b → w'.heap[b']? = w.heap[b']? := fun b' hne => by rw [hheap]; simp [Ne.symm hne]
  have hidlt : id < h.length := (List.getElem?_eq_some_iff.1 hc).1
  have hgetid : (h.set id new)[id]? = some new := by simp [hidlt]
  have hgeto : ∀ i, i ≠ id → (h.set id new)[i]? = h[i]? := fun i hne => by rw [List.getElem?_set, if_neg (Ne.symm hne)]
  have s : Step K w K w' := by
    refine ⟨hos, htape, hout, by rw [hheap]; simp, fun _ => Nat.le_refl _, fun _ => Nat.le_refl _, fun _ _ => ⟨rfl, fun _ _ => rfl⟩, fun _ _ h => h, fun b' i v hi hcell => ?_, fun b' n hrm => ?_, fun _ _ h => h, fun b' hb' hno => ⟨hoth b' ?_, rfl⟩⟩
    · have hne : b' ≠ b := by intro e1; subst e1; omega
      have hlt := World.block_lt_of_cell? w _ hcell
      rw [World.cell?_of_block (hoth b' hne)]; exact hcell
    · by_cases hne : b' = b
      · subst hne; exact hroom n hrm
      · obtain ⟨c, e, fr, h4, h5⟩ := hrm
        exact ⟨c, e, fr, by rw [hoth b' hne]; exact h4, h5⟩
    · intro e1; subst e1; exact hno (.inl ⟨id, hr⟩)
  refine ⟨s, ⟨fun i b' hi => ?_, fun i j b' y z hi hj hy hz ly lz => ?_, fun k => ?_, fun k b' hk => ?_, hh.tinj, fun b' hb' => ?_⟩⟩
  · obtain ⟨h5, o', h6, h7, h8⟩ := hh.obj i b' hi
    refine ⟨by rw [hheap]; simpa using h5, ?_⟩
    by_cases hii : i = id
    · subst hii
      rw [hr] at hi
      injection hi with hi
      subst hi
      exact ⟨new, hgetid, hok s, fun _ => hlim⟩
    · refine ⟨o', by rw [hgeto i hii]; exact h6, ?_, h8⟩
      by_cases hbb : b' = b
      · subst hbb
        have hdead : ¬ o'.live := fun hl => hii (hh.inj i id b' o' old hi hr h6 hc hl hlive)
        cases o' with
        | dead => trivial
        | tok _ => exact h7.elim
        | res => exact h7.elim
        | _ => exact absurd trivial hdead
      · exact h7.keep s (hoth b' hbb)
  · have key : ∀ (i : Nat) (y : HObj), (h.set id new)[i]? = some y → y.live → ∃ y', h[i]? = some y' ∧ y'.live := by
      intro i y hy ly
      by_cases hi : i = id
      · subst hi; exact ⟨_, hc, hlive⟩
      · exact ⟨y, by rw [← hgeto i hi]; exact hy, ly⟩
    obtain ⟨y', hy', ly'⟩ := key i y hy ly
    obtain ⟨z', hz', lz'⟩ := key j z hz lz
    exact hh.inj i j b' y' z' hi hj hy' hz' ly' lz'
  · rw [hh.wm k]
    by_cases hi : k = id
    · subst hi
      rw [hgetid, hc]
      cases old <;> cases new <;> first | rfl | exact hlive.elim | exact hnew.elim
    · rw [hgeto k hi]
  · obtain ⟨h5, ⟨n, h6⟩, h7, c', e', fr', h8, h9, h10⟩ := hh.tok k b' hk
    have hne : k ≠ id := by
      intro e'
      subst e'
      rw [hc] at h6
      injection h6 with h6
      subst h6
      exact hlive.elim
    have hbb : b' ≠ b := by intro e'; subst e'; exact h7 id _ hr hc hlive
    refine ⟨by rw [hheap]; simpa using h5, ⟨n, by rw [hgeto k hne]; exact h6⟩, fun i o' hi ho' => ?_, c', e', fr', by rw [hoth b' hbb]; exact h8, h9, h10⟩
    by_cases hii : i = id
    · subst hii
      rw [hr] at hi
      injection hi with hi
      exact absurd hi.symm hbb
    · exact h7 i o' hi (by rw [← hgeto i hii]; exact ho')
  · rw [hheap] at hb'
    exact hh.limb b' (by simpa using hb')

end Go.Hw
