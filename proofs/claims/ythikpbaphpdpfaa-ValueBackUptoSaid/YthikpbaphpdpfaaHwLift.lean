/- From what a law's arguments read as to Hw's values, and back to the given statement. -/
import Derived.Test.YthikpbaphpdpfaaHwLib
import Derived.ChangeSame
import Derived.ChangeReads
import Derived.RowKit
set_option linter.unusedVariables false
set_option linter.unusedSimpArgs false
namespace Go.Hw
open Go

section
variable {H : Type} {enc : TypeId × Value → H} {P : Program}

/-- Types of plain data: whole numbers, bools, strings, and slices and structs of these. -/
def plainT (P : Program) : Nat → TypeId → Bool
  | 0, _ => false
  | d + 1, t => match P.underlying t with
    | some .bool | some (.int _) | some .string => true
    | some (.slice e) => plainT P d e && P.cellsOf e != 0
    | some (.struct fs) => fs.toList.all fun f => plainT P d f.type
    | _ => false
mutual
def hvOf : DataW H → HV
  | .lit (.bool b) => .bool b
  | .lit (.int k n) => .int k n
  | .lit (.string s) => .str s
  | .nil => .list [] .none
  | .slice es _ => .list (hvOfs es) .none
  | .agg ps => .agg (hvCells ps)
  | _ => .any
def hvOfs : List (DataW H) → List HV
  | [] => []
  | d :: r => hvOf d :: hvOfs r
def hvCells : List (DataW H) → List HV
  | [] => []
  | d :: r => (hvOf d).cells ++ hvCells r
end
theorem hvOfs_map : ∀ (l : List (DataW H)), hvOfs l = l.map hvOf
  | [] => by simp [hvOfs]
  | d :: r => by simp [hvOfs, hvOfs_map r]
theorem hvCells_flat : ∀ (l : List (DataW H)), hvCells l = flat (l.map hvOf)
  | [] => by simp [hvCells, flat]
  | d :: r => by rw [hvCells, hvCells_flat r, List.map_cons, flat_cons]

/-- All blocks as they stand: never changed. -/
def K0 (W : World) : GK := { lim := fun b => match W.heap[b]? with | some (.cells c _ _) => c.size | _ => 0, rho := fun _ => none, tb := fun _ => none, wm := fun _ => 0 }
theorem heap0 (W : World) : HeapRel (K0 W) [] W :=
  ⟨fun id b hr => by simp [K0] at hr, fun i j b x y hi => by simp [K0] at hi, fun k => by simp [K0], fun k b hk => by simp [K0] at hk, fun i j b hi => by simp [K0] at hi, fun b hb => by simp [K0, Array.getElem?_eq_none hb]⟩
theorem cell_lim {W : World} {b i : Nat} {v : Value} (h : W.cell? ⟨b, i, none⟩ = some v) : i < (K0 W).lim b := by
  unfold World.cell? at h
  simp only [K0]
  split at h
  · rename_i c e fr hc
    rw [hc]
    simp only at h ⊢
    have h' : c[i]? = some v := by simpa using h
    exact (Array.getElem?_eq_some_iff.1 h').1
  · cases h
theorem cell_spot {W : World} {a : Addr} {v : Value} (h : W.cell? a = some v) : a.spot = none := World.cell?_spot h

/-- Cells, one by one. -/
def Vs (W : World) (hs : List HV) (cs : List Value) : Prop := hs.length = cs.length ∧ (∀ y ∈ hs, y.leaf = true) ∧ ∀ (j : Nat) (y : HV) (v : Value), hs[j]? = some y → cs[j]? = some v → V (K0 W) W y v
theorem Vs.append {W : World} {a b : List HV} {c d : List Value} (h1 : Vs W a c) (h2 : Vs W b d) : Vs W (a ++ b) (c ++ d) := by
  refine ⟨by simp [h1.1, h2.1], fun y hy => ?_, fun j y v hy hv => ?_⟩
  · rcases List.mem_append.1 hy with h | h
    · exact h1.2.1 y h
    · exact h2.2.1 y h
  · rw [List.getElem?_append] at hy hv
    rw [h1.1] at hy
    split at hy
    · rename_i hlt; rw [if_pos hlt] at hv; exact h1.2.2 j y v hy hv
    · rename_i hlt; rw [if_neg hlt] at hv; exact h2.2.2 _ y v hy hv
/-- The layout of a struct: field behind field. -/
def tiledL (P : Program) : List Field → Nat → Bool
  | [], _ => true
  | f :: r, o => f.offset == o && tiledL P r (o + P.cellsOf f.type)
def sizesOf (P : Program) : List Field → Nat
  | [] => 0
  | f :: r => P.cellsOf f.type + sizesOf P r
/-- The same, with the layout checked. -/
def plainL (P : Program) : Nat → TypeId → Bool
  | 0, _ => false
  | d + 1, t => match P.underlying t with
    | some .bool | some (.int _) | some .string => true
    | some (.slice e) => plainL P d e && P.cellsOf e != 0
    | some (.struct fs) => fs.toList.all (fun f => plainL P d f.type) && tiledL P fs.toList 0 && sizesOf P fs.toList == P.cellsOf t
    | _ => false

theorem flat_get {sz : Nat} : ∀ {hs : List HV}, (∀ y ∈ hs, y.cells.length = sz) → ∀ (j : Nat) (y : HV), (flat hs)[j]? = some y → ∃ x, hs[j / sz]? = some x ∧ x.cells[j % sz]? = some y
  | [], _, j, y, h => by simp [flat] at h
  | x :: r, hw, j, y, h => by
    have hx := hw x (by simp)
    rw [flat_cons, List.getElem?_append, hx] at h
    split at h
    · rename_i hlt
      rw [Nat.div_eq_of_lt hlt, Nat.mod_eq_of_lt hlt]
      exact ⟨x, rfl, h⟩
    · rename_i hge
      obtain ⟨z, h1, h2⟩ := flat_get (fun y hy => hw y (by simp [hy])) _ y h
      have hpos : 0 < sz := by
        rcases Nat.eq_zero_or_pos sz with h0 | h0
        · subst h0
          have : z.cells = [] := List.eq_nil_of_length_eq_zero (hw z (by simp [List.mem_of_getElem? h1]))
          rw [this] at h2
          simp at h2
        · exact h0
      have e1 : j / sz = (j - sz) / sz + 1 := by rw [← Nat.sub_add_cancel (show sz ≤ j by omega), Nat.add_div_right _ hpos]; simp
      have e2 : j % sz = (j - sz) % sz := Nat.mod_eq_sub_mod (by omega)
      rw [e1, e2]
      exact ⟨z, by simpa using h1, h2⟩

theorem trod_V {W : World} {held : Bool} : ∀ (d fuel : Nat) (t : TypeId) (cs : List Value) (x : DataW H × List MemPlace), plainL P d t = true → DataW.trod enc P W 0 (fun _ => true) held fuel t cs = some x → Vs W (hvOf x.1).cells cs ∧ (hvOf x.1).cells.length = P.cellsOf t ∧ isTuple (hvOf x.1) = false ∨ (P.cellsOf t ≠ 1 ∧ ∀ fs, P.underlying t ≠ some (.struct fs))
  | 0, fuel, t, cs, x, hp, h => by simp [plainL] at hp
  | d + 1, fuel, t, cs, x, hp, h => by
    by_cases hone : P.cellsOf t ≠ 1 ∧ ∀ fs, P.underlying t ≠ some (.struct fs)
    · exact .inr hone
    refine .inl ?_
    have hc1 : (∀ fs, P.underlying t ≠ some (.struct fs)) → P.cellsOf t = 1 := fun hn => Classical.byContradiction fun h1 => hone ⟨h1, hn⟩
    unfold plainL at hp
    have leaf1 : ∀ {y : HV} {v : Value}, y.cells = [y] → y.leaf = true → isTuple y = false → V (K0 W) W y v → P.cellsOf t = 1 → Vs W y.cells [v] ∧ y.cells.length = P.cellsOf t ∧ isTuple y = false := by
      intro y v h1 h2 h3 h4 h5
      rw [h1]
      refine ⟨⟨rfl, by simpa using h2, fun j z u hz hu => ?_⟩, by rw [h5]; rfl, h3⟩
      cases j with
      | zero => simp at hz hu; subst hz; subst hu; exact h4
      | succ j => simp at hz
    split at hp
    · rename_i hu
      obtain ⟨b, rfl, rfl⟩ := DataW.trod_bool hu h
      exact leaf1 rfl rfl rfl (.bool b) (hc1 (by simp [hu]))
    · rename_i k hu
      obtain ⟨n, rfl, rfl, _⟩ := DataW.trod_int hu h
      exact leaf1 rfl rfl rfl (.int k n) (hc1 (by simp [hu]))
    · rename_i hu
      obtain ⟨s, rfl, rfl, _⟩ := DataW.trod_string hu h
      refine leaf1 rfl rfl rfl ?_ (hc1 (by simp [hu]))
      have := V.str (K := K0 W) (w := W) s.data.toList
      simp only [hvOf]
      simpa using this
    · rename_i e hu
      simp only [Bool.and_eq_true, bne_iff_ne, ne_eq] at hp
      obtain ⟨hpe, hsz⟩ := hp
      have hct := hc1 (by simp [hu])
      rcases DataW.trod_slice hu h with ⟨rfl, rfl⟩ | ⟨a, len, cap, elems, rest, n, rfl, rfl, rfl, _, hlc, hcm, hlen, hel, hsp, _⟩
      · exact leaf1 (by simp [hvOf, HV.cells]) rfl rfl (by simp only [hvOf]; exact .nil _ trivial) hct
      · refine leaf1 (by simp [hvOf, HV.cells]) (by simp [hvOf, HV.leaf]) (by simp [hvOf, isTuple]) ?_ hct
        simp only [hvOf, hvOfs_map, List.map_map]
        show V (K0 W) W (.list (elems.map (hvOf ∘ Prod.fst)) .none) _
        obtain ⟨hrl, hr⟩ := hsp rfl
        -- each element
        have each : ∀ i y, elems[i]? = some y → ∃ cs', W.cells? 0 (a.add (i * P.cellsOf e)) (P.cellsOf e) = some cs' ∧ DataW.trod enc P W 0 (fun _ => true) held n e cs' = some y := by
          intro i y hy
          have hi : i < len := by rw [← hlen]; exact lt_of_get hy
          have := hel i hi
          rw [hy, Option.bind_eq_some_iff] at this
          exact this
        have hspot : 0 < cap → a.spot = none := by
          intro h0
          have h1 : ∃ cs', W.cells? 0 (a.add (0 * P.cellsOf e)) (P.cellsOf e) = some cs' := by
            rcases Nat.eq_zero_or_pos len with hl0 | hl0
            · have hj := hr 0 (by omega)
              obtain ⟨y, hy⟩ := get_of_lt (l := rest) (j := 0) (by omega)
              rw [hy, Option.bind_eq_some_iff, hl0] at hj
              obtain ⟨cs', h1, _⟩ := hj
              exact ⟨cs', by simpa using h1⟩
            · obtain ⟨y, hy⟩ := get_of_lt (l := elems) (j := 0) (by omega)
              obtain ⟨cs', h1, _⟩ := each 0 y hy
              exact ⟨cs', h1⟩
          obtain ⟨cs', h1⟩ := h1
          obtain ⟨_, h2, h3⟩ := World.cells?_some h1
          have h4 := h3 0 (by omega)
          obtain ⟨v, hv⟩ := get_of_lt (l := cs') (j := 0) (by omega)
          rw [hv] at h4
          have := cell_spot h4
          simpa [Addr.add] using this
        rcases Nat.eq_zero_or_pos cap with hc0 | hc0
        · obtain rfl : len = 0 := by omega
          subst hc0
          have : elems = [] := List.eq_nil_of_length_eq_zero hlen
          subst this
          exact .list0 .none trivial a
        · obtain ⟨b, o, sp⟩ := a
          obtain rfl : sp = none := hspot hc0
          have hadd : ∀ i, (⟨b, o, none⟩ : Addr).add i = ⟨b, o + i, none⟩ := fun i => Addr.add_lit ..
          have ih : ∀ i y, elems[i]? = some y → (∃ cs', W.cells? 0 ⟨b, o + i * P.cellsOf e, none⟩ (P.cellsOf e) = some cs' ∧ Vs W (hvOf y.1).cells cs') ∧ (hvOf y.1).cells.length = P.cellsOf e ∧ isTuple (hvOf y.1) = false := by
            intro i y hy
            obtain ⟨cs', h1, h2⟩ := each i y hy
            rw [hadd] at h1
            rcases trod_V d n e cs' y hpe h2 with ⟨h3, h4, h5⟩ | ⟨h3, h4⟩
            · exact ⟨⟨cs', h1, h3⟩, h4, h5⟩
            · exfalso
              -- a type of one cell
              have hl := (World.cells?_some h1).2.1
              cases d with
              | zero => simp [plainL] at hpe
              | succ d =>
                unfold plainL at hpe
                split at hpe
                · rename_i hu'; obtain ⟨_, rfl, _⟩ := DataW.trod_bool hu' h2; simp at hl; exact h3 hl.symm
                · rename_i hu'; obtain ⟨_, rfl, _⟩ := DataW.trod_int hu' h2; simp at hl; exact h3 hl.symm
                · rename_i hu'; obtain ⟨_, rfl, _⟩ := DataW.trod_string hu' h2; simp at hl; exact h3 hl.symm
                · rename_i hu'; rcases DataW.trod_slice hu' h2 with ⟨rfl, _⟩ | ⟨_, _, _, _, _, _, _, rfl, _⟩ <;> (simp at hl; exact h3 hl.symm)
                · rename_i fs hu'; exact h4 fs hu'
                · cases hpe
          have hw : ∀ y ∈ elems.map (hvOf ∘ Prod.fst), y.cells.length = P.cellsOf e := by
            intro y hy
            obtain ⟨z, hz, rfl⟩ := List.mem_map.1 hy
            obtain ⟨i, hi⟩ := mem_get hz
            exact (ih i z hi).2.1
          have hfl := flat_length hw
          have hcell : ∀ (j : Nat) (y : HV), (flat (elems.map (hvOf ∘ Prod.fst)))[j]? = some y → y.leaf = true ∧ ∃ v, W.cell? ⟨b, o + j, none⟩ = some v ∧ V (K0 W) W y v := by
            intro j y hy
            obtain ⟨x, h1, h2⟩ := flat_get hw j y hy
            rw [List.getElem?_map] at h1
            obtain ⟨z, h3, rfl⟩ := Option.map_eq_some_iff.1 h1
            obtain ⟨⟨cs', h4, h5⟩, h6, _⟩ := ih _ z h3
            obtain ⟨_, h7, h8⟩ := World.cells?_some h4
            have hlt : j % P.cellsOf e < P.cellsOf e := Nat.mod_lt _ (by omega)
            obtain ⟨v, hv⟩ := get_of_lt (l := cs') (j := j % P.cellsOf e) (by omega)
            have h9 := h8 _ hlt
            rw [hv, Addr.add_lit] at h9
            refine ⟨h5.2.1 y (List.mem_of_getElem? h2), v, ?_, h5.2.2 _ y v h2 hv⟩
            have : o + j / P.cellsOf e * P.cellsOf e + j % P.cellsOf e = o + j := by
              have := Nat.div_add_mod j (P.cellsOf e)
              rw [Nat.mul_comm] at this
              omega
            rwa [this] at h9
          have hlen' : len = (elems.map (hvOf ∘ Prod.fst)).length := by simp [hlen]
          rw [hlen']
          refine .list _ .none b o cap (P.cellsOf e) (fun j => (W.cell? ⟨b, o + j, none⟩).getD undef) hw (fun y hy => ?_) (fun j y hy => ?_) (fun j hj => ?_) (fun h0 => ?_) (by rw [← hlen']; exact hlc) trivial
          · obtain ⟨j, hj⟩ := mem_get hy
            exact (hcell j y hj).1
          · obtain ⟨_, v, h1, h2⟩ := hcell j y hy
            simp only [h1, Option.getD_some]
            exact h2
          · obtain ⟨y, hy⟩ := get_of_lt hj
            obtain ⟨_, v, h1, h2⟩ := hcell j y hy
            simp only [h1, Option.getD_some]
          · obtain ⟨y, hy⟩ := get_of_lt (l := flat (elems.map (hvOf ∘ Prod.fst))) (j := (flat (elems.map (hvOf ∘ Prod.fst))).length - 1) (by omega)
            obtain ⟨_, v, h1, _⟩ := hcell _ y hy
            have := cell_lim h1
            omega
    · rename_i fs hu
      simp only [Bool.and_eq_true, beq_iff_eq, List.all_eq_true] at hp
      obtain ⟨⟨hpf, htile⟩, hsize⟩ := hp
      obtain ⟨xs, n, rfl, rfl, hl, hxl, hx⟩ := DataW.trod_struct hu h
      have hL : fs.toList.length = xs.length := by simp [hxl]
      have hx' : ∀ (i : Nat) (f : Field), fs.toList[i]? = some f → DataW.trod enc P W 0 (fun _ => true) held n f.type ((cs.drop f.offset).take (P.cellsOf f.type)) = xs[i]? := fun i f hf => hx i f (by simpa using hf)
      simp only [hvOf, HV.cells, hvCells_flat, List.map_map]
      -- field by field
      have key : ∀ (L : List Field) (ys : List (DataW H × List MemPlace)) (off : Nat), L.length = ys.length → (∀ f ∈ L, plainL P d f.type = true) → tiledL P L off = true → (∀ (i : Nat) (f : Field), L[i]? = some f → DataW.trod enc P W 0 (fun _ => true) held n f.type ((cs.drop f.offset).take (P.cellsOf f.type)) = ys[i]?) → off + sizesOf P L ≤ cs.length →
          Vs W (flat (ys.map (hvOf ∘ Prod.fst))) ((cs.drop off).take (sizesOf P L)) := by
        intro L
        induction L with
        | nil =>
          intro ys off h1 _ _ _ _
          have : ys = [] := List.eq_nil_of_length_eq_zero h1.symm
          subst this
          exact ⟨by simp [flat, sizesOf], by simp [flat], fun j y v hy => by simp [flat] at hy⟩
        | cons f L ihL =>
          intro ys off h1 h2 h3 h4 h5
          cases ys with
          | nil => simp at h1
          | cons y ys =>
            simp only [tiledL, Bool.and_eq_true, beq_iff_eq] at h3
            simp only [sizesOf] at h5 ⊢
            have hy := h4 0 f rfl
            rw [h3.1] at hy
            simp only [List.getElem?_cons_zero] at hy
            have hV := trod_V d n f.type _ y (h2 f (by simp)) hy
            have hlen1 : ((cs.drop off).take (P.cellsOf f.type)).length = P.cellsOf f.type := by simp; omega
            have hV' : Vs W (hvOf y.1).cells ((cs.drop off).take (P.cellsOf f.type)) := by
              rcases hV with hV | ⟨q1, q2⟩
              · exact hV.1
              · exfalso
                have hpf := h2 f (by simp)
                generalize hcs : (cs.drop off).take (P.cellsOf f.type) = cs' at hy hlen1
                cases d with
                | zero => simp [plainL] at hpf
                | succ d =>
                  unfold plainL at hpf
                  split at hpf
                  · rename_i hu'; obtain ⟨_, rfl, _⟩ := DataW.trod_bool hu' hy; simp at hlen1; exact q1 hlen1.symm
                  · rename_i hu'; obtain ⟨_, rfl, _⟩ := DataW.trod_int hu' hy; simp at hlen1; exact q1 hlen1.symm
                  · rename_i hu'; obtain ⟨_, rfl, _⟩ := DataW.trod_string hu' hy; simp at hlen1; exact q1 hlen1.symm
                  · rename_i hu'; rcases DataW.trod_slice hu' hy with ⟨rfl, _⟩ | ⟨_, _, _, _, _, _, _, rfl, _⟩ <;> (simp at hlen1; exact q1 hlen1.symm)
                  · rename_i fs' hu'; exact q2 fs' hu'
                  · cases hpf
            have hR := ihL ys (off + P.cellsOf f.type) (by simpa using h1) (fun g hg => h2 g (by simp [hg])) h3.2 (fun i g hg => by simpa using h4 (i + 1) g (by simpa using hg)) (by omega)
            rw [List.map_cons, flat_cons]
            have e1 : (cs.drop off).take (P.cellsOf f.type + sizesOf P L) = (cs.drop off).take (P.cellsOf f.type) ++ (cs.drop (off + P.cellsOf f.type)).take (sizesOf P L) := by
              rw [List.take_add, List.drop_drop]
            rw [e1]
            exact hV'.append hR
      have hfin := key fs.toList xs 0 hL hpf htile hx' (by omega)
      rw [List.drop_zero, hsize, ← hl, List.take_length] at hfin
      exact ⟨hfin, by rw [hfin.1, hl], rfl⟩
    · cases hp
end
end Go.Hw
