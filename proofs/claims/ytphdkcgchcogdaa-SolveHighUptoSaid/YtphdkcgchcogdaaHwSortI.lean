import Derived.Shelf.Sort.Plain
import Derived.Shelf.Slices.CompactI
import Derived.Shelf.Slices.In.SortNone
import Derived.Test.YtphdkcgchcogdaaHwS3
import Derived.Test.YtphdkcgchcogdaaHwF3
set_option linter.unusedVariables false
set_option linter.unusedSimpArgs false
namespace Go.Hw.VE
open Go Go.Proofs Go.Shelf Go.Sort

theorem flatI (l : List Int) : flat (l.map (eInt .i64)) = l.map (eInt .i64) := by
  induction l with
  | nil => rfl
  | cons a l ih =>
    have h : flat ((a :: l).map (eInt .i64)) = (eInt .i64 a).cells ++ flat (l.map (eInt .i64)) := by simp [flat]
    rw [h, ih]
    rfl
theorem grow_oldI (w : World) (os : Array Obj) (b : Nat) (hb : b < w.heap.size) : (grow w os).heap[b]? = w.heap[b]? := by
  simp only [grow]
  rw [Array.getElem?_append_left hb]
theorem step_growI (K : GK) (w : World) (os : Array Obj) : Step K w K (grow w os) := by
  refine ⟨rfl, tk, rfl, by simp [grow], fun _ => Nat.le_refl _, fun _ => Nat.le_refl _, fun _ _ => ⟨rfl, fun _ _ => rfl⟩, fun _ _ h => h, fun b i v hi hc => ?_, fun b n hr => ?_, fun _ _ h => h, fun b hb _ => ⟨grow_oldI w os b hb, rfl⟩⟩
  · have hlt := World.block_lt_of_cell? w _ hc
    rw [World.cell?_of_block (grow_oldI w os b hlt)]; exact hc
  · obtain ⟨c, e, fr, h1, h2⟩ := hr
    have hb : b < w.heap.size := by
      rcases Nat.lt_or_ge b w.heap.size with h | h
      · exact h
      · rw [Array.getElem?_eq_none h] at h1; cases h1
    exact ⟨c, e, fr, by rw [grow_oldI w os b hb]; exact h1, h2⟩
theorem rel_growI {K : GK} {h : Heap} {w : World} (hh : HeapRel K h w) (os : Array Obj) : HeapRel K h (grow w os) := by
  have s := step_growI K w os
  refine ⟨fun id b hid => ?_, hh.inj, hh.wm, fun i b hi => ?_, hh.tinj, fun b hb => hh.limb b (Nat.le_trans s.size hb)⟩
  · obtain ⟨k1, ob, k2, k3, k4⟩ := hh.obj id b hid
    exact ⟨Nat.lt_of_lt_of_le k1 s.size, ob, k2, k3.keep s (grow_oldI w os b k1), k4⟩
  · obtain ⟨k1, k2, k3, c, e, fr, k4, k5, k6⟩ := hh.tok i b hi
    exact ⟨Nat.lt_of_lt_of_le k1 s.size, k2, k3, c, e, fr, by rw [grow_oldI w os b k1]; exact k4, k5, k6⟩

theorem holds_ints {K : GK} {w : World} {p : List Int} {b : Nat} (hh : HeapRel K [GA (eInt .i64) p] w) (hr : K.rho 0 = some b) : Holds (Value.int .i64) w b 0 p.toArray ∧ b < w.heap.size := by
  obtain ⟨hb, o, ho1, ho2, ho3⟩ := hh.obj 0 b hr
  simp only [List.getElem?_cons_zero, Option.some.injEq] at ho1
  subst ho1
  obtain ⟨c, e, fr, hc1, hc2, hc3, hc4⟩ := ho2
  rw [flatI, List.length_map] at hc2
  refine ⟨fun j hj => ?_, hb⟩
  have hj' : j < p.length := by simpa using hj
  rw [Nat.zero_add]
  obtain ⟨_, v, hv1, hv2⟩ := hc4 j (eInt .i64 p[j]) (by rw [flatI]; simp [hj'])
  have : p.toArray[j]! = p[j] := by
    rw [getElem!_def]
    simp [hj']
  rw [this]
  constructor
  · have : v = .int .i64 p[j] := by cases hv2; rfl
    subst this
    simp only [World.cell?, hc1, hv1, id]
    simp
  · have := hc3 j (by omega)
    simp only [World.frozen?, hc1]
    simp only [Bool.and_eq_false_imp, decide_eq_true_eq, decide_eq_false_iff_not, Nat.not_lt]
    intro hle
    omega
theorem put_ints {K : GK} {w : World} {p q : List Int} {b n : Nat} (hh : HeapRel K [GA (eInt .i64) p] w) (hr : K.rho 0 = some b) (hql : q.length = p.length) :
    Step K w K (putRow (Value.int .i64) (Sort.ahead w n) b 0 q.toArray) ∧ HeapRel K [GA (eInt .i64) q] (putRow (Value.int .i64) (Sort.ahead w n) b 0 q.toArray) := by
  obtain ⟨hb, o, ho1, ho2, ho3⟩ := hh.obj 0 b hr
  simp only [List.getElem?_cons_zero, Option.some.injEq] at ho1
  subst ho1
  obtain ⟨c, e, fr, hc1, hc2, hc3, hc4⟩ := ho2
  rw [flatI, List.length_map] at hc2
  let F := q.toArray
  let w1 := putRow (Value.int .i64) (Sort.ahead w n) b 0 q.toArray
  have hFs : F.size = p.length := by show q.toArray.size = _; simp [hql]
  have hheap : w1.heap = w.heap.setIfInBounds b (.cells (putCells (Value.int .i64) 0 F c) e fr) := by
    apply Array.ext_getElem?
    intro i
    show (w.heap.modify b (onCells (putCells (Value.int .i64) 0 F)))[i]? = _
    rw [Array.getElem?_modify, Array.getElem?_setIfInBounds]
    by_cases hi : b = i
    · subst hi
      simp only [if_true, hc1, Option.map_some, onCells, hb]
    · simp [hi]
  have hput : ∀ j, j < p.length → (putCells (Value.int .i64) 0 F c)[j]? = some (Value.int .i64 F[j]!) := by
    intro j hj
    simp only [putCells, Array.getElem?_mapIdx]
    have hjc : j < c.size := by omega
    rw [Array.getElem?_eq_getElem hjc]
    simp only [Option.map_some, Option.some.injEq]
    rw [if_pos ⟨Nat.zero_le _, by omega⟩]
    rfl
  have hsz : (putCells (Value.int .i64) 0 F c).size = c.size := by simp [putCells]
  exact set_obj (w' := w1) (old := GA (eInt .i64) p) (new := GA (eInt .i64) q) hh hr rfl trivial trivial hheap rfl ⟨rfl, Nat.zero_le _⟩ rfl (by
    rintro n ⟨c', e', fr', h4, h5⟩
    rw [hc1] at h4
    injection h4 with h4
    injection h4 with h6 h7 h8
    refine ⟨putCells (Value.int .i64) 0 F c, e, fr, by rw [hheap]; simp [hb], ?_⟩
    rw [hsz]; subst h6; exact h5) (by
    intro s
    refine ⟨putCells (Value.int .i64) 0 F c, e, fr, by rw [hheap]; simp [hb], by rw [hsz, flatI, List.length_map, hql]; exact hc2, fun i hi => hc3 i (by rw [hsz] at hi; exact hi), fun j x hx => ?_⟩
    rw [flatI, List.getElem?_map] at hx
    obtain ⟨y, hy, rfl⟩ := Option.map_eq_some_iff.1 hx
    have hj : j < p.length := by rw [← hql]; exact lt_of_get hy
    refine ⟨rfl, _, hput j hj, ?_⟩
    have : F[j]! = y := by
      have hF : F[j]? = some y := by
        show q.toArray[j]? = some y
        simp [hy]
      rw [getElem!_def, hF]
    rw [this]
    exact .int _ _)
theorem wid_ints {K : GK} {w : World} {n : Nat} {v : Value} (hV : V K w (.arr 0 0 n 1) v) : (n = 0 ∧ ∃ pt cap, v = .slice pt 0 cap) ∨ (∃ b cap, 0 < n ∧ n ≤ cap ∧ v = .slice (some ⟨b, 0, none⟩) n cap ∧ K.rho 0 = some b ∧ RoomAt w b cap) := by
  cases hV with
  | arr _ _ _ _ b cap off' hr hcap ho hroom =>
    by_cases hz : n = 0
    · subst hz; exact .inl ⟨rfl, _, _, rfl⟩
    · have hc : 0 < cap := by omega
      have := ho hc
      subst this
      exact .inr ⟨b, cap, by omega, hcap, rfl, hr, by simpa using hroom⟩
  | arrn => exact .inl ⟨rfl, _, _, rfl⟩
  | arr0 => exact .inl ⟨rfl, _, _, rfl⟩
def qρ : _root_.Go.Shelf.Ren := ⟨fun k => if k = 125 then 35 else if k = 128 then 56 else if k = 129 then 57 else if k = 189 then 17 else if k = 215 then 77 else if k = 216 then 53 else if k = 257 then 34 else if k = 294 then 47 else if k = 295 then 48 else if k = 296 then 49 else if k = 297 then 50 else if k = 298 then 51 else if k = 299 then 52 else if k = 300 then 54 else if k = 301 then 55 else if k = 328 then 78 else if k = 329 then 79 else if k = 330 then 80 else if k = 331 then 81 else if k = 332 then 82 else if k = 343 then 90 else k, fun k => if k = 28 then 22 else if k = 46 then 70 else if k = 51 then 89 else if k = 53 then 91 else if k = 131 then 86 else if k = 182 then 81 else if k = 183 then 82 else if k = 218 then 107 else if k = 222 then 111 else if k = 228 then 119 else if k = 229 then 120 else k, fun k => k⟩
theorem qL : Lays.n189 Try.prog qρ where
  mixed := by kernel_rfl
  f125 := by kernel_rfl
  f128 := by kernel_rfl
  f129 := by kernel_rfl
  f189 := by kernel_rfl
  f215 := by kernel_rfl
  f216 := by kernel_rfl
  f257 := by kernel_rfl
  f294 := by kernel_rfl
  f295 := by kernel_rfl
  f296 := by kernel_rfl
  f297 := by kernel_rfl
  f298 := by kernel_rfl
  f299 := by kernel_rfl
  f300 := by kernel_rfl
  f301 := by kernel_rfl
  f328 := by kernel_rfl
  f329 := by kernel_rfl
  f330 := by kernel_rfl
  f331 := by kernel_rfl
  f332 := by kernel_rfl
  f343 := by kernel_rfl
  t0 := by kernel_rfl
  a0 := fun w => by kernel_rfl
  z0 := fun w => by kernel_rfl
  v0 := fun w => by kernel_rfl
  t3 := by kernel_rfl
  a3 := fun w => by kernel_rfl
  z3 := fun w => by kernel_rfl
  v3 := fun w => by kernel_rfl
  t4 := by kernel_rfl
  a4 := fun w => by kernel_rfl
  z4 := fun w => by kernel_rfl
  v4 := fun w => by kernel_rfl
  t5 := by kernel_rfl
  a5 := fun w => by kernel_rfl
  z5 := fun w => by kernel_rfl
  v5 := fun w => by kernel_rfl
  t9 := by kernel_rfl
  a9 := fun w => by kernel_rfl
  z9 := fun w => by kernel_rfl
  v9 := fun w => by kernel_rfl
  t28 := by kernel_rfl
  a28 := fun w => by kernel_rfl
  z28 := fun w => by kernel_rfl
  v28 := fun w => by kernel_rfl
  t46 := by kernel_rfl
  a46 := fun w => by kernel_rfl
  z46 := fun w => by kernel_rfl
  v46 := fun w => by kernel_rfl
  t51 := by kernel_rfl
  a51 := fun w => by kernel_rfl
  z51 := fun w => by kernel_rfl
  v51 := fun w => by kernel_rfl
  t53 := by kernel_rfl
  a53 := fun w => by kernel_rfl
  z53 := fun w => by kernel_rfl
  v53 := fun w => by kernel_rfl
  t131 := by kernel_rfl
  a131 := fun w => by kernel_rfl
  z131 := fun w => by kernel_rfl
  v131 := fun w => by kernel_rfl
  t182 := by kernel_rfl
  a182 := fun w => by kernel_rfl
  z182 := fun w => by kernel_rfl
  v182 := fun w => by kernel_rfl
  t183 := by kernel_rfl
  a183 := fun w => by kernel_rfl
  z183 := fun w => by kernel_rfl
  v183 := fun w => by kernel_rfl
  t218 := by kernel_rfl
  a218 := fun w => by kernel_rfl
  z218 := fun w => by kernel_rfl
  v218 := fun w => by kernel_rfl
  t222 := by kernel_rfl
  a222 := fun w => by kernel_rfl
  z222 := fun w => by kernel_rfl
  v222 := fun w => by kernel_rfl
  t228 := by kernel_rfl
  a228 := fun w => by kernel_rfl
  z228 := fun w => by kernel_rfl
  v228 := fun w => by kernel_rfl
  t229 := by kernel_rfl
  a229 := fun w => by kernel_rfl
  z229 := fun w => by kernel_rfl
  v229 := fun w => by kernel_rfl
def zρ : _root_.Go.Shelf.Ren := ⟨fun k => if k = 20 then 18 else k, fun k => k, fun k => k⟩
theorem zL : Lays2.n20 Try.prog zρ where
  mixed := by kernel_rfl
  f20 := by kernel_rfl
  t0 := by kernel_rfl
  a0 := fun w => by kernel_rfl
  z0 := fun w => by kernel_rfl
  v0 := fun w => by kernel_rfl
  t3 := by kernel_rfl
  a3 := fun w => by kernel_rfl
  z3 := fun w => by kernel_rfl
  v3 := fun w => by kernel_rfl
  t4 := by kernel_rfl
  a4 := fun w => by kernel_rfl
  z4 := fun w => by kernel_rfl
  v4 := fun w => by kernel_rfl
  t22 := by kernel_rfl
  a22 := fun w => by kernel_rfl
  z22 := fun w => by kernel_rfl
  v22 := fun w => by kernel_rfl
  i3 := by kernel_rfl
theorem s17 (p : List Int) (hp : p.length ≤ 1000000) : sp17 p (p.mergeSort fun x y => decide (x ≤ y)) := by
  refine ⟨⟨_, Try.func17, rfl, by decide⟩, fun K w vs hh hl hv => ?_⟩
  obtain ⟨v0, rfl⟩ : ∃ v0, vs = [v0] := by
    match vs, hl with
    | [a], _ => exact ⟨a, rfl⟩
  have h0 := hv 0 _ v0 rfl rfl
  rcases wid_ints h0 with ⟨hz, pt, cap, rfl⟩ | ⟨b, cap, hpos, hcap, rfl, hr, hroom⟩
  · obtain rfl : p = [] := List.eq_nil_of_length_eq_zero hz
    refine (Any.slices_Sort_int_none qL pt cap w).mono ?_
    rintro en w' ⟨rfl, rfl⟩
    exact ⟨_, .tuple [], K, [GA (eInt .i64) []], rfl, .refl K w', hh, .tuple [] [] rfl (by simp), rfl, by simp⟩
  · obtain ⟨hH, hb⟩ := holds_ints hh hr
    refine (Any.slices_Sort_int qL b 0 cap p w hH hb (by omega)).mono ?_
    rintro en w' ⟨rfl, n, os, rfl⟩
    obtain ⟨s1, hh1⟩ := put_ints (n := n) hh hr (List.length_mergeSort p : (p.mergeSort fun x y => decide (x ≤ y)).length = p.length)
    exact ⟨_, .tuple [], K, _, rfl, s1.trans (step_growI K _ os), rel_growI hh1 os, .tuple [] [] rfl (by simp), rfl, rfl⟩
theorem comp_len (l : List Int) : ∀ m, (Lib.compactUpTo l.toArray m).length ≤ m
  | 0 => by simp [Lib.compactUpTo]
  | m + 1 => by
    have := comp_len l m
    rw [Lib.compactUpTo_succ]
    split <;> simp <;> omega
theorem rel_pre {K : GK} {w : World} {p q : List Int} (hh : HeapRel K [GA (eInt .i64) (p ++ q)] w) : HeapRel K [GA (eInt .i64) p] w := by
  have hget : ∀ {i : Nat} {o : HObj}, ([GA (eInt .i64) p] : Heap)[i]? = some o → i = 0 ∧ o = GA (eInt .i64) p := fun {i o} ho => by
    cases i with
    | zero => simp at ho; exact ⟨rfl, ho.symm⟩
    | succ i => simp at ho
  refine ⟨fun i b hr => ?_, fun i j b x y hi hj hx hy lx ly => ?_, fun k => ?_, fun k b hk => ?_, hh.tinj, hh.limb⟩
  · obtain ⟨h1, o, h2, h3, h4⟩ := hh.obj i b hr
    cases i with
    | succ i => simp at h2
    | zero =>
      simp only [List.getElem?_cons_zero, Option.some.injEq] at h2
      subst h2
      obtain ⟨c, et, fr, k1, k2, k3, k4⟩ := h3
      refine ⟨h1, _, rfl, ⟨c, et, fr, k1, ?_, k3, fun q' x hx => k4 q' x ?_⟩, fun _ => h4 trivial⟩
      · rw [flatI, List.length_map] at k2 ⊢
        rw [List.length_append] at k2
        omega
      · rw [flatI] at hx ⊢
        rw [List.map_append, List.getElem?_append_left (lt_of_get hx)]
        exact hx
  · obtain ⟨rfl, _⟩ := hget hx
    obtain ⟨rfl, _⟩ := hget hy
    rfl
  · rw [hh.wm k]
    cases k with
    | zero => rfl
    | succ k => rfl
  · obtain ⟨_, ⟨n, h2⟩, _⟩ := hh.tok k b hk
    cases k with
    | zero => simp at h2
    | succ k => simp at h2
theorem s18 (p : List Int) (hp : p.length ≤ 1000000) : sp18 p (Lib.compact p) := by
  refine ⟨⟨_, Try.func18, rfl, by decide⟩, fun K w vs hh hl hv => ?_⟩
  obtain ⟨v0, rfl⟩ : ∃ v0, vs = [v0] := by
    match vs, hl with
    | [a], _ => exact ⟨a, rfl⟩
  have h0 := hv 0 _ v0 rfl rfl
  rcases wid_ints h0 with ⟨hz, pt, cap, rfl⟩ | ⟨b, cap, hpos, hcap, rfl, hr, hroom⟩
  · obtain rfl : p = [] := List.eq_nil_of_length_eq_zero hz
    refine (Any.slices_Compact_int_empty zL pt cap w).mono ?_
    rintro en w' ⟨rfl, rfl⟩
    obtain ⟨K', s, hh', hV⟩ := freeze_one (hs := []) (sz := 1) hh rfl nofun h0
    exact ⟨_, _, K', _, rfl, s, hh', hV, rfl, rfl⟩
  · obtain ⟨hH, hb⟩ := holds_ints hh hr
    have hcl : (Lib.compact p).length ≤ p.length := comp_len p p.length
    refine (Any.slices_Compact_int zL b 0 cap p w hH (by omega) hcap).mono ?_
    rintro en w' ⟨rfl, n, rfl⟩
    obtain ⟨s1, hh1⟩ := put_ints (n := n) (q := Lib.compact p ++ List.replicate (p.length - (Lib.compact p).length) 0) hh hr (by simp; omega)
    have hh2 := rel_pre hh1
    have hV2 : V K (putRow (Value.int .i64) (Sort.ahead w n) b 0 (Lib.compact p ++ List.replicate (p.length - (Lib.compact p).length) 0).toArray) (.arr 0 0 ((Lib.compact p).map (eInt .i64)).length 1) (.slice (some ⟨b, 0, none⟩) (Lib.compact p).length cap) := by
      rw [List.length_map]
      exact .arr 0 0 _ 1 b cap 0 hr (by omega) (fun _ => rfl) (by simpa using s1.shape _ _ hroom)
    obtain ⟨K', s, hh', hV⟩ := freeze_one (hs := (Lib.compact p).map (eInt .i64)) hh2 rfl (wid_map (enc_int .i64) _) hV2
    exact ⟨_, _, K', _, rfl, s1.trans s, hh', hV, rfl, rfl⟩
end Go.Hw.VE

