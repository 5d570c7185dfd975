import Derived.Shelf.SlSortCmp.NoneTotal
import Derived.Test.YtcenjonbenlfkaaHwF2
set_option linter.unusedVariables false
set_option linter.unusedSimpArgs false
namespace Go.Hw
open Go Go.Proofs Go.Sort
variable {P : Program}

theorem grow_old (w : World) (os : Array Obj) (b : Nat) (hb : b < w.heap.size) : (grow w os).heap[b]? = w.heap[b]? := by
  simp only [grow]
  rw [Array.getElem?_append_left hb]
theorem step_grow (K : GK) (w : World) (os : Array Obj) : Step K w K (grow w os) := by
  refine ⟨rfl, tk, rfl, by simp [grow], fun _ => Nat.le_refl _, fun _ => Nat.le_refl _, fun _ _ => ⟨rfl, fun _ _ => rfl⟩, fun _ _ h => h, fun b i v hi hc => ?_, fun b n hr => ?_, fun _ _ h => h, fun b hb _ => ⟨grow_old w os b hb, rfl⟩⟩
  · have hlt := World.block_lt_of_cell? w _ hc
    rw [World.cell?_of_block (grow_old w os b hlt)]; exact hc
  · obtain ⟨c, e, fr, h1, h2⟩ := hr
    have hb : b < w.heap.size := by
      rcases Nat.lt_or_ge b w.heap.size with h | h
      · exact h
      · rw [Array.getElem?_eq_none h] at h1; cases h1
    exact ⟨c, e, fr, by rw [grow_old w os b hb]; exact h1, h2⟩
theorem rel_grow {K : GK} {h : Heap} {w : World} (hh : HeapRel K h w) (os : Array Obj) : HeapRel K h (grow w os) := by
  have s := step_grow K w os
  refine ⟨fun id b hid => ?_, hh.inj, hh.wm, fun i b hi => ?_, hh.tinj, fun b hb => hh.limb b (Nat.le_trans s.size hb)⟩
  · obtain ⟨k1, ob, k2, k3, k4⟩ := hh.obj id b hid
    exact ⟨Nat.lt_of_lt_of_le k1 s.size, ob, k2, k3.keep s (grow_old w os b k1), k4⟩
  · obtain ⟨k1, k2, k3, c, e, fr, k4, k5, k6⟩ := hh.tok i b hi
    exact ⟨Nat.lt_of_lt_of_le k1 s.size, k2, k3, c, e, fr, by rw [grow_old w os b k1]; exact k4, k5, k6⟩

def KE : GK := { lim := fun _ => 0, rho := fun _ => none, tb := fun _ => none, wm := fun _ => 0 }
theorem rel_KE (w : World) : HeapRel KE [] w :=
  ⟨fun id b hr => by simp [KE] at hr, fun i j b x y hi => by simp [KE] at hi, fun k => by simp [KE], fun k b hk => by simp [KE] at hk, fun i j b hi => by simp [KE] at hi, fun _ _ => rfl⟩
theorem KE_grow {w w' : World} {K' : GK} (s : Step KE w K' w') : ∃ q os, w' = grow (w.drewN q) os := by
  refine ⟨w'.drawn - w.drawn, w'.heap.extract w.heap.size w'.heap.size, ?_⟩
  have hd := s.tape.2
  have hheap : w'.heap = w.heap ++ w'.heap.extract w.heap.size w'.heap.size := by
    apply Array.ext_getElem?
    intro i
    by_cases hi : i < w.heap.size
    · rw [Array.getElem?_append_left hi]
      exact (s.frame i hi (by rintro (⟨_, h⟩ | ⟨_, h⟩) <;> simp [KE] at h)).1
    · have hs := s.size
      rw [Array.getElem?_append_right (by omega), Array.getElem?_extract]
      split
      · rw [show w.heap.size + (i - w.heap.size) = i by omega]
      · rw [Array.getElem?_eq_none (by omega)]
  have h1 := s.os; have h2 := s.tape.1; have h3 := s.output
  obtain ⟨hp, tp, dr, os, ou⟩ := w'
  obtain ⟨hp0, tp0, dr0, os0, ou0⟩ := w
  simp only [grow, World.drewN] at *
  subst h1; subst h2; subst h3
  rw [← hheap]
  simp
  omega

structure FlatE {A : Type} (f : A → HV) (enc : A → List Value) (k : Nat) : Prop where
  len : ∀ x, (enc x).length = k
  one : ∀ x, ∀ v ∈ enc x, v.oneCell' = true
  agg : ∀ K w x, V K w (f x) (.agg (enc x).toArray)
  cell : ∀ (K : GK) (w : World) (x : A) (j : Nat) (c : HV), (f x).cells[j]? = some c → c.leaf = true ∧ ∀ v, V K w c v ↔ (enc x)[j]? = some v
  clen : ∀ x, (f x).cells.length = k

theorem flat_idx {A : Type} {f : A → HV} {k : Nat} (hc : ∀ x, (f x).cells.length = k) (l : List A) (j : Nat) (y : HV) (hj : (flat (l.map f))[j]? = some y) : ∃ x, l[j / k]? = some x ∧ (f x).cells[j % k]? = some y := by
  obtain ⟨x, h1, h2⟩ := flat_get (sz := k) (hs := l.map f) (by intro y hy; obtain ⟨a, _, rfl⟩ := List.mem_map.1 hy; exact hc a) j y hj
  rw [List.getElem?_map] at h1
  cases hl : l[j / k]? with
  | none => rw [hl] at h1; cases h1
  | some a => rw [hl] at h1; injection h1 with h1; subst h1; exact ⟨a, rfl, h2⟩
theorem flat_len {A : Type} {f : A → HV} {k : Nat} (hc : ∀ x, (f x).cells.length = k) (l : List A) : (flat (l.map f)).length = l.length * k := by
  rw [flat_length (sz := k) (by intro y hy; obtain ⟨a, _, rfl⟩ := List.mem_map.1 hy; exact hc a), List.length_map]

theorem enters_hc {f : FuncId} (h : ∃ fn, P.funcs[f]? = some fn ∧ fn.body.isSome = true ∧ fn.name ≠ "runtime.NumGoroutine") : ∀ args w, (callFunc f args).run P w = .ok (.enter f args) w := by
  obtain ⟨fn, h1, h2, h3⟩ := h
  cases hb : fn.body with
  | none => rw [hb] at h2; cases h2
  | some c => exact enters_of h1 (by simpa using h3) hb

theorem sort_call {ρ : _root_.Go.Shelf.Ren} (L : SlLaysF0.n6 P ρ) {A : Type} [Inhabited A] {f : A → HV} {enc : A → List Value} {k : Nat} (hF : FlatE f enc k)
    (aE : ∀ w, (isAgg (ρ.t 24)).run P w = .ok true w) (zE : ∀ w, (Go.sizeOf (ρ.t 24)).run P w = .ok k w)
    (hfn : ∃ fn, P.funcs[ρ.f 6]? = some fn ∧ fn.body.isSome = true ∧ fn.name ≠ "runtime.NumGoroutine")
    (cf : A → A → Int) (hO : SWO (ltOf cf)) (hT : ∀ x y, ltOf cf x y = false → ltOf cf y x = false → x = y) (g : FuncId)
    (hcmp : ∀ x y, PCall P g [f x, f y] (.int .i64 (cf x y))) (p : List A) (hlen : p.length < 4611686018427387904) (hk0 : 0 < k) :
    MC P (ρ.f 6) [.arr 0 0 p.length k, .func g []] [GA f p] (.tuple []) [GA f (p.mergeSort fun x y => !(ltOf cf) y x)] := by
  refine ⟨hfn, fun K w vs hh hl hv => ?_⟩
  obtain ⟨v0, v1, rfl⟩ : ∃ v0 v1, vs = [v0, v1] := by
    match vs, hl with
    | [a, b], _ => exact ⟨a, b, rfl⟩
  have h0 := hv 0 _ v0 rfl rfl
  have h1 := hv 1 _ v1 rfl rfl
  have h1' : v1 = .func (.func g) #[] #[] := by
    cases h1 with
    | func _ _ us hn hv' =>
      cases us with
      | nil => rfl
      | cons => simp at hn
  subst h1'
  have hnone : p.length = 0 → ∀ (pt : Option Addr) (cap : Nat), Calls P (ρ.f 6) [Value.slice pt 0 cap, .func (.func g) #[] #[]].toArray w fun en w' => ∃ v x K' h', en = .returned v ∧ Step K w K' w' ∧ HeapRel K' h' w' ∧ V K' w' x v ∧ (x = .tuple [] ∧ h' = [GA f (p.mergeSort fun x y => !(ltOf cf) y x)]) := by
    intro hp pt cap
    obtain rfl : p = [] := List.eq_nil_of_length_eq_zero hp
    refine (AnyF.slices_SortFunc_none L pt cap _ w).mono ?_
    rintro en w' ⟨rfl, rfl⟩
    refine ⟨_, .tuple [], K, [GA f []], rfl, .refl K w', hh, ?_, rfl, by simp⟩
    exact .tuple [] [] rfl (by simp)
  have hwid : ∀ v : Value, V K w (.arr 0 0 p.length k) v → (p.length = 0 ∧ ∃ pt cap, v = .slice pt 0 cap) ∨ (∃ b cap, 0 < p.length ∧ v = .slice (some ⟨b, 0, none⟩) p.length cap ∧ K.rho 0 = some b) := by
    intro v hV
    generalize hn : p.length = n at hV
    cases hV with
    | arr _ _ _ _ b cap off' hr hcap ho hroom =>
      by_cases hz : n = 0
      · subst hz; exact .inl ⟨rfl, _, _, rfl⟩
      · have hc : 0 < cap := by omega
        have := ho hc
        subst this
        exact .inr ⟨b, cap, by omega, rfl, hr⟩
    | arrn => exact .inl ⟨rfl, _, _, rfl⟩
    | arr0 => exact .inl ⟨rfl, _, _, rfl⟩
  rcases hwid v0 h0 with ⟨hz, pt, cap, rfl⟩ | ⟨b, cap, hpos, rfl, hr⟩
  · exact hnone hz pt cap
  obtain ⟨hb, o, ho1, ho2, ho3⟩ := hh.obj 0 b hr
  simp only [List.getElem?_cons_zero, Option.some.injEq] at ho1
  subst ho1
  obtain ⟨c, e, fr, hc1, hc2, hc3, hc4⟩ := ho2
  rw [flat_len hF.clen] at hc2
  have hnofr : ∀ j, j < p.length * k → w.frozen? ⟨b, j, none⟩ = false := by
    intro j hj
    have := hc3 j (by omega)
    simp only [World.frozen?, hc1]
    simpa using this
  have hHolds : HoldsK enc k w b 0 p.toArray := by
    intro j hj
    rw [size_flatK, List.size_toArray] at hj
    rw [get_flatK _ _ _ _ (by simpa using hj), Nat.zero_add]
    refine ⟨?_, hnofr j hj⟩
    have hj' : j < (flat (p.map f)).length := by rw [flat_len hF.clen]; exact hj
    obtain ⟨x, hx1, hx2⟩ := flat_idx hF.clen p j _ (List.getElem?_eq_getElem hj')
    obtain ⟨_, v, hv1, hv2⟩ := hc4 j _ (List.getElem?_eq_getElem hj')
    have hv3 := ((hF.cell K w x _ _ hx2).2 v).1 hv2
    have hpx : p.toArray[j / k]! = x := by
      have : p.toArray[j / k]? = some x := by simpa using hx1
      rw [getElem!_def, this]
    rw [hpx]
    have : (enc x)[j % k]! = v := by rw [getElem!_def, hv3]
    rw [this]
    simp only [World.cell?, hc1, hv1, id]
    simp
  have hcl : CmpLays P g #[] enc k cf b 0 p.toArray.size w := by
    intro m os dk hdk x y
    have hc := (hcmp x y).call.2 KE (sortWorldK enc k w b 0 m dk os) [.agg (enc x).toArray, .agg (enc y).toArray] (rel_KE _) rfl (by
      intro j z v hz hv
      match j with
      | 0 => simp at hz hv; subst hz; subst hv; exact hF.agg _ _ x
      | 1 => simp at hz hv; subst hz; subst hv; exact hF.agg _ _ y
      | j + 2 => simp at hz)
    refine Calls.mono hc ?_
    rintro en w' ⟨v, r, K', h', rfl, s, _, hV, hr⟩
    have hV := hV.strip1
    rw [hr] at hV
    cases hV
    exact ⟨rfl, KE_grow s⟩
  have main := AnyQ.slices_SortFunc_total L k aE zE enc hF.len hF.one cf hO g #[] b 0 cap p.toArray w (enters_hc (hcmp default default).call.1) hcl hHolds hb (by simpa using hlen) hT
  rw [List.size_toArray] at main
  refine Calls.mono main ?_
  rintro en w' ⟨rfl, n, os, hw⟩
  simp only [List.toList_toArray] at hw
  generalize hq : (p.mergeSort fun x y => !(ltOf cf) y x) = q at hw ⊢
  have hql : q.length = p.length := by rw [← hq]; exact List.length_mergeSort p
  -- the world behind the sort, without what it laid
  let F := flatK enc k q.toArray
  let w1 := putRowK enc k (Sort.ahead w n) b 0 q.toArray
  have hw1 : w' = grow w1 os := hw
  have hFs : F.size = p.length * k := by rw [size_flatK, List.size_toArray, hql]
  have hheap : w1.heap = w.heap.setIfInBounds b (.cells (putCells id 0 F c) e fr) := by
    apply Array.ext_getElem?
    intro i
    show (w.heap.modify b (onCells (putCells id 0 F)))[i]? = _
    rw [Array.getElem?_modify, Array.getElem?_setIfInBounds]
    by_cases hi : b = i
    · subst hi
      simp only [if_true, hc1, Option.map_some, onCells, hb]
    · simp [hi]
  have hput : ∀ j, j < p.length * k → (putCells id 0 F c)[j]? = some F[j]! := by
    intro j hj
    simp only [putCells, Array.getElem?_mapIdx]
    have hjc : j < c.size := by omega
    rw [Array.getElem?_eq_getElem hjc]
    simp only [Option.map_some, Option.some.injEq]
    rw [if_pos ⟨Nat.zero_le _, by omega⟩]
    rfl
  have hsz : (putCells id 0 F c).size = c.size := by simp [putCells]
  obtain ⟨s1, hh1⟩ := set_obj (w' := w1) (old := GA f p) (new := GA f q) hh hr rfl trivial trivial hheap rfl ⟨rfl, by show w.drawn ≤ w.drawn + n; omega⟩ rfl (by
    rintro n ⟨c', e', fr', h4, h5⟩
    rw [hc1] at h4
    injection h4 with h4
    injection h4 with h6 h7 h8
    refine ⟨putCells id 0 F c, e, fr, by rw [hheap]; simp [hb], ?_⟩
    rw [hsz]; subst h6; exact h5) (by
    intro s
    refine ⟨putCells id 0 F c, e, fr, by rw [hheap]; simp [hb], by rw [hsz, flat_len hF.clen, hql]; exact hc2, fun i hi => hc3 i (by rw [hsz] at hi; exact hi), fun j x hx => ?_⟩
    have hj : j < p.length * k := by
      have := (List.getElem?_eq_some_iff.1 hx).1
      rw [flat_len hF.clen, hql] at this
      exact this
    obtain ⟨y, hy1, hy2⟩ := flat_idx hF.clen q j x hx
    refine ⟨(hF.cell K w1 y _ _ hy2).1, F[j]!, hput j hj, ?_⟩
    refine ((hF.cell K w1 y _ _ hy2).2 _).2 ?_
    have hlt : j % k < k := Nat.mod_lt _ hk0
    rw [get_flatK _ _ _ _ (by rw [List.size_toArray, hql]; exact hj)]
    have hpx : q.toArray[j / k]! = y := by
      have : q.toArray[j / k]? = some y := by simpa using hy1
      rw [getElem!_def, this]
    rw [hpx, List.getElem?_eq_getElem (by rw [hF.len]; exact hlt)]
    rw [getElem!_pos (enc y) (j % k) (by rw [hF.len]; exact hlt)])
  refine ⟨_, .tuple [], K, [GA f q], rfl, ?_, ?_, ?_, rfl, rfl⟩
  · rw [hw1]; exact s1.trans (step_grow K w1 os)
  · rw [hw1]; exact rel_grow hh1 os
  · exact .tuple [] [] rfl (by simp)
end Go.Hw

