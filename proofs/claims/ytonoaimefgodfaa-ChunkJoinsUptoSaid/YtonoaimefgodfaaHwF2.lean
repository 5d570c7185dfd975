import Derived.Test.YtonoaimefgodfaaHwF1
import Derived.ChangeSame
import Derived.ChangeReads
import Derived.RowKit
import Derived.WideKeyArgs
import Derived.OpenShut
set_option linter.unusedVariables false
set_option linter.unusedSimpArgs false
namespace Go.Hw
open Go

section
variable {H : Type} {enc : TypeId × Value → H} {P : Program}

mutual
def hvOf : DataW H → HV
  | .lit (.bool b) => .bool b
  | .lit (.int k n) => .int k n
  | .lit (.string s) => .str s
  | .nil => .list [] .none
  | .slice es _ => .list (hvOfs es) .none
  | .agg ps => .agg (hvCells ps)
  | _ => .any
def hvOfs : List (DataW H) → List HV
  | [] => []
  | d :: r => hvOf d :: hvOfs r
def hvCells : List (DataW H) → List HV
  | [] => []
  | d :: r => (hvOf d).cells ++ hvCells r
end
theorem hvOfs_map : ∀ (l : List (DataW H)), hvOfs l = l.map hvOf
  | [] => by simp [hvOfs]
  | d :: r => by simp [hvOfs, hvOfs_map r]
theorem hvCells_flat : ∀ (l : List (DataW H)), hvCells l = flat (l.map hvOf)
  | [] => by simp [hvCells, flat]
  | d :: r => by rw [hvCells, hvCells_flat r, List.map_cons, flat_cons]

def K0 (W : World) : GK := { lim := fun b => match W.heap[b]? with | some (.cells c _ _) => c.size | _ => 0, rho := fun _ => none, tb := fun _ => none, wm := fun _ => 0 }
theorem heap0 (W : World) : HeapRel (K0 W) [] W :=
  ⟨fun id b hr => by simp [K0] at hr, fun i j b x y hi => by simp [K0] at hi, fun k => by simp [K0], fun k b hk => by simp [K0] at hk, fun i j b hi => by simp [K0] at hi, fun b hb => by simp [K0, Array.getElem?_eq_none hb]⟩
theorem cell_lim {W : World} {b i : Nat} {v : Value} (h : W.cell? ⟨b, i, none⟩ = some v) : i < (K0 W).lim b := by
  unfold World.cell? at h
  simp only [K0]
  split at h
  · rename_i c e fr hc
    rw [hc]
    simp only at h ⊢
    have h' : c[i]? = some v := by simpa using h
    exact (Array.getElem?_eq_some_iff.1 h').1
  · cases h
theorem cell_spot {W : World} {a : Addr} {v : Value} (h : W.cell? a = some v) : a.spot = none := World.cell?_spot h

def Vs (W : World) (hs : List HV) (cs : List Value) : Prop := hs.length = cs.length ∧ (∀ y ∈ hs, y.leaf = true) ∧ ∀ (j : Nat) (y : HV) (v : Value), hs[j]? = some y → cs[j]? = some v → V (K0 W) W y v
theorem Vs.append {W : World} {a b : List HV} {c d : List Value} (h1 : Vs W a c) (h2 : Vs W b d) : Vs W (a ++ b) (c ++ d) := by
  refine ⟨by simp [h1.1, h2.1], fun y hy => ?_, fun j y v hy hv => ?_⟩
  · rcases List.mem_append.1 hy with h | h
    · exact h1.2.1 y h
    · exact h2.2.1 y h
  · rw [List.getElem?_append] at hy hv
    rw [h1.1] at hy
    split at hy
    · rename_i hlt; rw [if_pos hlt] at hv; exact h1.2.2 j y v hy hv
    · rename_i hlt; rw [if_neg hlt] at hv; exact h2.2.2 _ y v hy hv
def tiledL (P : Program) : List Field → Nat → Bool
  | [], _ => true
  | f :: r, o => f.offset == o && tiledL P r (o + P.cellsOf f.type)
def sizesOf (P : Program) : List Field → Nat
  | [] => 0
  | f :: r => P.cellsOf f.type + sizesOf P r
def plainL (P : Program) : Nat → TypeId → Bool
  | 0, _ => false
  | d + 1, t => match P.underlying t with
    | some .bool | some (.int _) | some .string => true
    | some (.slice e) => plainL P d e && P.cellsOf e != 0
    | some (.struct fs) => fs.toList.all (fun f => plainL P d f.type) && tiledL P fs.toList 0 && sizesOf P fs.toList == P.cellsOf t
    | _ => false

theorem flat_get {sz : Nat} : ∀ {hs : List HV}, (∀ y ∈ hs, y.cells.length = sz) → ∀ (j : Nat) (y : HV), (flat hs)[j]? = some y → ∃ x, hs[j / sz]? = some x ∧ x.cells[j % sz]? = some y
  | [], _, j, y, h => by simp [flat] at h
  | x :: r, hw, j, y, h => by
    have hx := hw x (by simp)
    rw [flat_cons, List.getElem?_append, hx] at h
    split at h
    · rename_i hlt
      rw [Nat.div_eq_of_lt hlt, Nat.mod_eq_of_lt hlt]
      exact ⟨x, rfl, h⟩
    · rename_i hge
      obtain ⟨z, h1, h2⟩ := flat_get (fun y hy => hw y (by simp [hy])) _ y h
      have hpos : 0 < sz := by
        rcases Nat.eq_zero_or_pos sz with h0 | h0
        · subst h0
          have : z.cells = [] := List.eq_nil_of_length_eq_zero (hw z (by simp [List.mem_of_getElem? h1]))
          rw [this] at h2
          simp at h2
        · exact h0
      have e1 : j / sz = (j - sz) / sz + 1 := by rw [← Nat.sub_add_cancel (show sz ≤ j by omega), Nat.add_div_right _ hpos]; simp
      have e2 : j % sz = (j - sz) % sz := Nat.mod_eq_sub_mod (by omega)
      rw [e1, e2]
      exact ⟨z, by simpa using h1, h2⟩

theorem trod_V {W : World} {held : Bool} : ∀ (d fuel : Nat) (t : TypeId) (cs : List Value) (x : DataW H × List MemPlace), plainL P d t = true → DataW.trod enc P W 0 (fun _ => true) held fuel t cs = some x → Vs W (hvOf x.1).cells cs ∧ (hvOf x.1).cells.length = P.cellsOf t ∧ isTuple (hvOf x.1) = false ∨ (P.cellsOf t ≠ 1 ∧ ∀ fs, P.underlying t ≠ some (.struct fs))
  | 0, fuel, t, cs, x, hp, h => by simp [plainL] at hp
  | d + 1, fuel, t, cs, x, hp, h => by
    by_cases hone : P.cellsOf t ≠ 1 ∧ ∀ fs, P.underlying t ≠ some (.struct fs)
    · exact .inr hone
    refine .inl ?_
    have hc1 : (∀ fs, P.underlying t ≠ some (.struct fs)) → P.cellsOf t = 1 := fun hn => Classical.byContradiction fun h1 => hone ⟨h1, hn⟩
    unfold plainL at hp
    have leaf1 : ∀ {y : HV} {v : Value}, y.cells = [y] → y.leaf = true → isTuple y = false → V (K0 W) W y v → P.cellsOf t = 1 → Vs W y.cells [v] ∧ y.cells.length = P.cellsOf t ∧ isTuple y = false := by
      intro y v h1 h2 h3 h4 h5
      rw [h1]
      refine ⟨⟨rfl, by simpa using h2, fun j z u hz hu => ?_⟩, by rw [h5]; rfl, h3⟩
      cases j with
      | zero => simp at hz hu; subst hz; subst hu; exact h4
      | succ j => simp at hz
    split at hp
    · rename_i hu
      obtain ⟨b, rfl, rfl⟩ := DataW.trod_bool hu h
      exact leaf1 rfl rfl rfl (.bool b) (hc1 (by simp [hu]))
    · rename_i k hu
      obtain ⟨n, rfl, rfl, _⟩ := DataW.trod_int hu h
      exact leaf1 rfl rfl rfl (.int k n) (hc1 (by simp [hu]))
    · rename_i hu
      obtain ⟨s, rfl, rfl, _⟩ := DataW.trod_string hu h
      refine leaf1 rfl rfl rfl ?_ (hc1 (by simp [hu]))
      have := V.str (K := K0 W) (w := W) s.data.toList
      simp only [hvOf]
      simpa using this
    · rename_i e hu
      simp only [Bool.and_eq_true, bne_iff_ne, ne_eq] at hp
      obtain ⟨hpe, hsz⟩ := hp
      have hct := hc1 (by simp [hu])
      rcases DataW.trod_slice hu h with ⟨rfl, rfl⟩ | ⟨a, len, cap, elems, rest, n, rfl, rfl, rfl, _, hlc, hcm, hlen, hel, hsp, _⟩
      · exact leaf1 (by simp [hvOf, HV.cells]) rfl rfl (by simp only [hvOf]; exact .nil _ trivial) hct
      · refine leaf1 (by simp [hvOf, HV.cells]) (by simp [hvOf, HV.leaf]) (by simp [hvOf, isTuple]) ?_ hct
        simp only [hvOf, hvOfs_map, List.map_map]
        show V (K0 W) W (.list (elems.map (hvOf ∘ Prod.fst)) .none) _
        obtain ⟨hrl, hr⟩ := hsp rfl
        -- each element
        have each : ∀ i y, elems[i]? = some y → ∃ cs', W.cells? 0 (a.add (i * P.cellsOf e)) (P.cellsOf e) = some cs' ∧ DataW.trod enc P W 0 (fun _ => true) held n e cs' = some y := by
          intro i y hy
          have hi : i < len := by rw [← hlen]; exact lt_of_get hy
          have := hel i hi
          rw [hy, Option.bind_eq_some_iff] at this
          exact this
        have hspot : 0 < cap → a.spot = none := by
          intro h0
          have h1 : ∃ cs', W.cells? 0 (a.add (0 * P.cellsOf e)) (P.cellsOf e) = some cs' := by
            rcases Nat.eq_zero_or_pos len with hl0 | hl0
            · have hj := hr 0 (by omega)
              obtain ⟨y, hy⟩ := get_of_lt (l := rest) (j := 0) (by omega)
              rw [hy, Option.bind_eq_some_iff, hl0] at hj
              obtain ⟨cs', h1, _⟩ := hj
              exact ⟨cs', by simpa using h1⟩
            · obtain ⟨y, hy⟩ := get_of_lt (l := elems) (j := 0) (by omega)
              obtain ⟨cs', h1, _⟩ := each 0 y hy
              exact ⟨cs', h1⟩
          obtain ⟨cs', h1⟩ := h1
          obtain ⟨_, h2, h3⟩ := World.cells?_some h1
          have h4 := h3 0 (by omega)
          obtain ⟨v, hv⟩ := get_of_lt (l := cs') (j := 0) (by omega)
          rw [hv] at h4
          have := cell_spot h4
          simpa [Addr.add] using this
        rcases Nat.eq_zero_or_pos cap with hc0 | hc0
        · obtain rfl : len = 0 := by omega
          subst hc0
          have : elems = [] := List.eq_nil_of_length_eq_zero hlen
          subst this
          exact .list0 .none trivial a
        · obtain ⟨b, o, sp⟩ := a
          obtain rfl : sp = none := hspot hc0
          have hadd : ∀ i, (⟨b, o, none⟩ : Addr).add i = ⟨b, o + i, none⟩ := fun i => Addr.add_lit ..
          have ih : ∀ i y, elems[i]? = some y → (∃ cs', W.cells? 0 ⟨b, o + i * P.cellsOf e, none⟩ (P.cellsOf e) = some cs' ∧ Vs W (hvOf y.1).cells cs') ∧ (hvOf y.1).cells.length = P.cellsOf e ∧ isTuple (hvOf y.1) = false := by
            intro i y hy
            obtain ⟨cs', h1, h2⟩ := each i y hy
            rw [hadd] at h1
            rcases trod_V d n e cs' y hpe h2 with ⟨h3, h4, h5⟩ | ⟨h3, h4⟩
            · exact ⟨⟨cs', h1, h3⟩, h4, h5⟩
            · exfalso
              -- a type of one cell
              have hl := (World.cells?_some h1).2.1
              cases d with
              | zero => simp [plainL] at hpe
              | succ d =>
                unfold plainL at hpe
                split at hpe
                · rename_i hu'; obtain ⟨_, rfl, _⟩ := DataW.trod_bool hu' h2; simp at hl; exact h3 hl.symm
                · rename_i hu'; obtain ⟨_, rfl, _⟩ := DataW.trod_int hu' h2; simp at hl; exact h3 hl.symm
                · rename_i hu'; obtain ⟨_, rfl, _⟩ := DataW.trod_string hu' h2; simp at hl; exact h3 hl.symm
                · rename_i hu'; rcases DataW.trod_slice hu' h2 with ⟨rfl, _⟩ | ⟨_, _, _, _, _, _, _, rfl, _⟩ <;> (simp at hl; exact h3 hl.symm)
                · rename_i fs hu'; exact h4 fs hu'
                · cases hpe
          have hw : ∀ y ∈ elems.map (hvOf ∘ Prod.fst), y.cells.length = P.cellsOf e := by
            intro y hy
            obtain ⟨z, hz, rfl⟩ := List.mem_map.1 hy
            obtain ⟨i, hi⟩ := mem_get hz
            exact (ih i z hi).2.1
          have hfl := flat_length hw
          have hcell : ∀ (j : Nat) (y : HV), (flat (elems.map (hvOf ∘ Prod.fst)))[j]? = some y → y.leaf = true ∧ ∃ v, W.cell? ⟨b, o + j, none⟩ = some v ∧ V (K0 W) W y v := by
            intro j y hy
            obtain ⟨x, h1, h2⟩ := flat_get hw j y hy
            rw [List.getElem?_map] at h1
            obtain ⟨z, h3, rfl⟩ := Option.map_eq_some_iff.1 h1
            obtain ⟨⟨cs', h4, h5⟩, h6, _⟩ := ih _ z h3
            obtain ⟨_, h7, h8⟩ := World.cells?_some h4
            have hlt : j % P.cellsOf e < P.cellsOf e := Nat.mod_lt _ (by omega)
            obtain ⟨v, hv⟩ := get_of_lt (l := cs') (j := j % P.cellsOf e) (by omega)
            have h9 := h8 _ hlt
            rw [hv, Addr.add_lit] at h9
            refine ⟨h5.2.1 y (List.mem_of_getElem? h2), v, ?_, h5.2.2 _ y v h2 hv⟩
            have : o + j / P.cellsOf e * P.cellsOf e + j % P.cellsOf e = o + j := by
              have := Nat.div_add_mod j (P.cellsOf e)
              rw [Nat.mul_comm] at this
              omega
            rwa [this] at h9
          have hlen' : len = (elems.map (hvOf ∘ Prod.fst)).length := by simp [hlen]
          rw [hlen']
          refine .list _ .none b o cap (P.cellsOf e) (fun j => (W.cell? ⟨b, o + j, none⟩).getD undef) hw (fun y hy => ?_) (fun j y hy => ?_) (fun j hj => ?_) (fun h0 => ?_) (by rw [← hlen']; exact hlc) trivial
          · obtain ⟨j, hj⟩ := mem_get hy
            exact (hcell j y hj).1
          · obtain ⟨_, v, h1, h2⟩ := hcell j y hy
            simp only [h1, Option.getD_some]
            exact h2
          · obtain ⟨y, hy⟩ := get_of_lt hj
            obtain ⟨_, v, h1, h2⟩ := hcell j y hy
            simp only [h1, Option.getD_some]
          · obtain ⟨y, hy⟩ := get_of_lt (l := flat (elems.map (hvOf ∘ Prod.fst))) (j := (flat (elems.map (hvOf ∘ Prod.fst))).length - 1) (by omega)
            obtain ⟨_, v, h1, _⟩ := hcell _ y hy
            have := cell_lim h1
            omega
    · rename_i fs hu
      simp only [Bool.and_eq_true, beq_iff_eq, List.all_eq_true] at hp
      obtain ⟨⟨hpf, htile⟩, hsize⟩ := hp
      obtain ⟨xs, n, rfl, rfl, hl, hxl, hx⟩ := DataW.trod_struct hu h
      have hL : fs.toList.length = xs.length := by simp [hxl]
      have hx' : ∀ (i : Nat) (f : Field), fs.toList[i]? = some f → DataW.trod enc P W 0 (fun _ => true) held n f.type ((cs.drop f.offset).take (P.cellsOf f.type)) = xs[i]? := fun i f hf => hx i f (by simpa using hf)
      simp only [hvOf, HV.cells, hvCells_flat, List.map_map]
      -- field by field
      have key : ∀ (L : List Field) (ys : List (DataW H × List MemPlace)) (off : Nat), L.length = ys.length → (∀ f ∈ L, plainL P d f.type = true) → tiledL P L off = true → (∀ (i : Nat) (f : Field), L[i]? = some f → DataW.trod enc P W 0 (fun _ => true) held n f.type ((cs.drop f.offset).take (P.cellsOf f.type)) = ys[i]?) → off + sizesOf P L ≤ cs.length →
          Vs W (flat (ys.map (hvOf ∘ Prod.fst))) ((cs.drop off).take (sizesOf P L)) := by
        intro L
        induction L with
        | nil =>
          intro ys off h1 _ _ _ _
          have : ys = [] := List.eq_nil_of_length_eq_zero h1.symm
          subst this
          exact ⟨by simp [flat, sizesOf], by simp [flat], fun j y v hy => by simp [flat] at hy⟩
        | cons f L ihL =>
          intro ys off h1 h2 h3 h4 h5
          cases ys with
          | nil => simp at h1
          | cons y ys =>
            simp only [tiledL, Bool.and_eq_true, beq_iff_eq] at h3
            simp only [sizesOf] at h5 ⊢
            have hy := h4 0 f rfl
            rw [h3.1] at hy
            simp only [List.getElem?_cons_zero] at hy
            have hV := trod_V d n f.type _ y (h2 f (by simp)) hy
            have hlen1 : ((cs.drop off).take (P.cellsOf f.type)).length = P.cellsOf f.type := by simp; omega
            have hV' : Vs W (hvOf y.1).cells ((cs.drop off).take (P.cellsOf f.type)) := by
              rcases hV with hV | ⟨q1, q2⟩
              · exact hV.1
              · exfalso
                have hpf := h2 f (by simp)
                generalize hcs : (cs.drop off).take (P.cellsOf f.type) = cs' at hy hlen1
                cases d with
                | zero => simp [plainL] at hpf
                | succ d =>
                  unfold plainL at hpf
                  split at hpf
                  · rename_i hu'; obtain ⟨_, rfl, _⟩ := DataW.trod_bool hu' hy; simp at hlen1; exact q1 hlen1.symm
                  · rename_i hu'; obtain ⟨_, rfl, _⟩ := DataW.trod_int hu' hy; simp at hlen1; exact q1 hlen1.symm
                  · rename_i hu'; obtain ⟨_, rfl, _⟩ := DataW.trod_string hu' hy; simp at hlen1; exact q1 hlen1.symm
                  · rename_i hu'; rcases DataW.trod_slice hu' hy with ⟨rfl, _⟩ | ⟨_, _, _, _, _, _, _, rfl, _⟩ <;> (simp at hlen1; exact q1 hlen1.symm)
                  · rename_i fs' hu'; exact q2 fs' hu'
                  · cases hpf
            have hR := ihL ys (off + P.cellsOf f.type) (by simpa using h1) (fun g hg => h2 g (by simp [hg])) h3.2 (fun i g hg => by simpa using h4 (i + 1) g (by simpa using hg)) (by omega)
            rw [List.map_cons, flat_cons]
            have e1 : (cs.drop off).take (P.cellsOf f.type + sizesOf P L) = (cs.drop off).take (P.cellsOf f.type) ++ (cs.drop (off + P.cellsOf f.type)).take (sizesOf P L) := by
              rw [List.take_add, List.drop_drop]
            rw [e1]
            exact hV'.append hR
      have hfin := key fs.toList xs 0 hL hpf htile hx' (by omega)
      rw [List.drop_zero, hsize, ← hl, List.take_length] at hfin
      exact ⟨hfin, by rw [hfin.1, hl], rfl⟩
    · cases hp
end
end Go.Hw

set_option linter.unusedVariables false
set_option linter.unusedSimpArgs false
namespace Go.Hw
open Go

section
variable {H : Type} {enc : TypeId × Value → H} {P : Program} {W : World}


def Rd (enc : TypeId × Value → H) (P : Program) (W : World) (t : TypeId) (d : DataW H) : Prop := ∃ fuel cs ps, DataW.trod enc P W 0 (fun _ => true) true fuel t cs = some (d, ps)
theorem rd_of {t : TypeId} {v : Value} {d : DataW H} {ps : List MemPlace} (h : DataW.Trod enc P W 0 (fun _ => true) true t v d ps) : Rd enc P W t d := by
  obtain ⟨n, hn⟩ := h
  exact ⟨n, _, ps, hn⟩
theorem rd_int {t : TypeId} {k : IntKind} {d : DataW H} (ht : P.underlying t = some (.int k)) (h : Rd enc P W t d) : ∃ n, hvOf d = .int k n ∧ k.min ≤ n ∧ n ≤ k.max := by
  obtain ⟨n, cs, ps, h⟩ := h
  obtain ⟨m, _, hx, hw⟩ := DataW.trod_int ht h
  injection hx with hx _
  subst hx
  simp only [Lit.wf, Bool.and_eq_true, decide_eq_true_eq] at hw
  exact ⟨m, by simp [hvOf], hw.1, hw.2⟩
theorem rd_list {A : Type} {t e : TypeId} {f : A → HV} {p : A → Prop} (ht : P.underlying t = some (.slice e)) (he : ∀ y : DataW H, Rd enc P W e y → ∃ a, hvOf y = f a ∧ p a) {d : DataW H} (h : Rd enc P W t d) : ∃ l : List A, hvOf d = .list (l.map f) .none ∧ l.length ≤ 9223372036854775807 ∧ ∀ a ∈ l, p a := by
  obtain ⟨n, cs, ps, h⟩ := h
  rcases DataW.trod_slice ht h with ⟨_, hx⟩ | ⟨a, len, cap, elems, rest, n, rfl, rfl, hx, _, hlc, hcm, hlen, hel, hsp, _⟩
  · injection hx with hx _
    subst hx
    exact ⟨[], by simp [hvOf], by simp, by simp⟩
  · injection hx with hx _
    subst hx
    have each : ∀ y ∈ elems, Rd enc P W e y.1 := by
      intro y hy
      obtain ⟨i, hi⟩ := mem_get hy
      have := hel i (by rw [← hlen]; exact lt_of_get hi)
      rw [hi, Option.bind_eq_some_iff] at this
      obtain ⟨cs', _, h2⟩ := this
      exact ⟨n, cs', y.2, h2⟩
    have hl : elems.length ≤ 9223372036854775807 := by rw [hlen]; exact Nat.le_trans hlc hcm
    clear hel hlen hsp h
    have key : ∀ l : List (DataW H × List MemPlace), (∀ y ∈ l, Rd enc P W e y.1) → ∃ r : List A, l.map (hvOf ∘ Prod.fst) = r.map f ∧ r.length = l.length ∧ ∀ a ∈ r, p a := by
      intro l
      induction l with
      | nil => intro _; exact ⟨[], rfl, rfl, by simp⟩
      | cons y l ih =>
        intro h
        obtain ⟨r, h1, h2, h3⟩ := ih fun z hz => h z (by simp [hz])
        obtain ⟨a, h4, h5⟩ := he y.1 (h y (by simp))
        refine ⟨a :: r, by simp [h1, h4], by simp [h2], fun b hb => ?_⟩
        simp at hb
        rcases hb with rfl | hb
        · exact h5
        · exact h3 b hb
    obtain ⟨r, h1, h2, h3⟩ := key elems each
    exact ⟨r, by simp only [hvOf, hvOfs_map, List.map_map]; rw [← h1], by rw [h2]; exact hl, h3⟩
theorem rd_bytes {t e : TypeId} {d : DataW H} (ht : P.underlying t = some (.slice e)) (he : P.underlying e = some (.int .u8)) (h : Rd enc P W t d) : ∃ s : List UInt8, hvOf d = eB s ∧ s.length ≤ 9223372036854775807 := by
  obtain ⟨l, h1, h2, _⟩ := rd_list (f := fun c : UInt8 => .int .u8 c.toNat) (p := fun _ => True) ht (fun y hy => by
    obtain ⟨n, h1, h2, h3⟩ := rd_int he hy
    refine ⟨UInt8.ofNat n.toNat, ?_, trivial⟩
    simp only [IntKind.min, IntKind.max, IntKind.signed, IntKind.bits] at h2 h3
    rw [h1]
    congr 1
    simp at h2 h3 ⊢
    try omega) h
  exact ⟨l, h1, h2⟩
def scalarB (P : Program) (t : TypeId) : Bool :=
  (match P.underlying t with
    | some .bool | some (.int _) | some .string | some (.slice _) => true
    | _ => false) && P.cellsOf t == 1
theorem arg_V {t : TypeId} {v : Value} {d : DataW H} {ps : List MemPlace} {n base : Nat} (hp : plainL P n t = true) (hs : scalarB P t = true) (hok : Value.okWide P W .any base t v) (h : DataW.Trod enc P W 0 (fun _ => true) true t v d ps) : V (K0 W) W (hvOf d) v := by
  obtain ⟨m, hm⟩ := h
  simp only [scalarB, Bool.and_eq_true, beq_iff_eq] at hs
  obtain ⟨hk, hc⟩ := hs
  rcases trod_V n m t _ _ hp hm with ⟨⟨h1, h2, h3⟩, h4, _⟩ | ⟨h1, _⟩
  · simp only at h1 h3 h4
    have hcells : v.cells = #[v] := by
      cases v <;> first | rfl | skip
      exfalso
      unfold Value.okWide at hok
      split at hk <;> first | (cases hk; done) | (rename_i hu; simp only [hu, Cell.okWide, Cell.ok] at hok)
    rw [hcells] at h1 h3
    -- one cell
    have hy : ∃ y, (hvOf d).cells = [y] := by
      match hh : (hvOf d).cells, h4 with
      | [y], _ => exact ⟨y, rfl⟩
      | [], h => rw [hc] at h; simp at h
      | _ :: _ :: _, h => rw [hc] at h; simp at h
    obtain ⟨y, hy⟩ := hy
    have hV := h3 0 y v (by rw [hy]; rfl) rfl
    have : hvOf d = y := by
      cases hd : hvOf d <;> rw [hd] at hy <;> simp only [HV.cells] at hy <;> first
        | (injection hy with hy _)
        | skip
      -- an aggregate
      exfalso
      rename_i cs
      split at hk
      · rename_i hu; obtain ⟨_, _, hx⟩ := DataW.trod_bool hu hm; injection hx with hx _; subst hx; simp [hvOf] at hd
      · rename_i hu; obtain ⟨_, _, hx, _⟩ := DataW.trod_int hu hm; injection hx with hx _; subst hx; simp [hvOf] at hd
      · rename_i hu; obtain ⟨_, _, hx, _⟩ := DataW.trod_string hu hm; injection hx with hx _; subst hx; simp [hvOf] at hd
      · rename_i hu; rcases DataW.trod_slice hu hm with ⟨_, hx⟩ | ⟨_, _, _, _, _, _, _, _, hx, _⟩ <;> (injection hx with hx _; subst hx; simp [hvOf] at hd)
      · cases hk
    rw [this]
    exact hV
  · exact absurd hc h1


theorem kept_of {W' : World} {K' : GK} (s : Step (K0 W) W K' W') : ∀ b, b < W.heap.size → W'.heap[b]? = W.heap[b]? := fun b hb =>
  (s.frame b hb (by rintro (⟨i, h⟩ | ⟨i, h⟩) <;> simp [K0] at h)).1
theorem keptBut_of {W' : World} {K' : GK} (s : Step (K0 W) W K' W') (may : MemPlace → Prop) : W.keptBut W' may := by
  refine ⟨s.os, s.output, fun i hi => ?_⟩
  rw [kept_of s i hi]
  cases hw : W.heap[i]? with
  | none => trivial
  | some o => cases o <;> first | rfl | exact ⟨rfl, rfl, rfl, fun _ _ => rfl⟩ | exact .inr ⟨rfl, rfl⟩
theorem args_stay {W' : World} {K' : GK} (s : Step (K0 W) W K' W') (hl : laidOutB P = true) : ∀ {ts : List TypeId} {vs : List Value} {ds : List (DataW H)} {ps : List MemPlace}, (∀ t ∈ ts, P.readableRec t = true ∧ t < P.types.size) → DataW.TrodAll enc P W 0 (fun _ => true) true ts vs ds ps → (∀ p ∈ ps, p.block < W.heap.size) → ∀ sp : Nat → Bool, (∀ p ∈ ps, sp p.block = true) → DataW.TrodAll enc P W' 0 sp true ts vs ds ps
  | [], [], [], _, _, h, _, _, _ => h
  | t :: ts, v :: vs, d :: ds, _, ht, ⟨p, q, h1, h2, rfl⟩, hlt, sp, hsp => by
    have hsame : ∀ x ∈ p, W.sameAt W' x := by
      intro x hx
      have hb := kept_of s x.block (hlt x (by simp [hx]))
      cases x with
      | cell b off => exact World.cell?_of_block hb
      | map b => exact hb
    exact ⟨p, q, WideElems.Trod_stays hl (ht t (by simp)).1 (ht t (by simp)).2 h1 hsame (fun x hx => hsp x (by simp [hx])), args_stay s hl (fun t ht' => ht t (by simp [ht'])) h2 (fun x hx => hlt x (by simp [hx])) sp (fun x hx => hsp x (by simp [hx])), rfl⟩
  | [], [], _ :: _, _, _, h, _, _, _ => h.elim
  | [], _ :: _, _, _, _, h, _, _, _ => h.elim
  | _ :: _, [], _, _, _, h, _, _, _ => h.elim
  | _ :: _, _ :: _, [], _, _, h, _, _, _ => h.elim
theorem post_same {f : Func} {s : ChangeSpec} {apart fresh handsOn again : Bool} {W' : World} {args : Array Value} {v : Value} {ds gs : List (DataW H)} {before pa pv : List MemPlace}
    (hW : DataW.Whole enc P f.params.toList s.vars apart W args.toList ds gs before)
    (hres : ∀ (b : Nat) (sp : Nat → Bool) (hd : Bool), DataW.TrodAll enc P W' b sp hd f.resultTypes.toList (v.resultList f.resultTypes.size) (s.fn H (ds ++ gs)).results [])
    (hargs : ∀ sp : Nat → Bool, (∀ p ∈ before, sp p.block = true) → DataW.TrodAll enc P W' 0 sp true f.params.toList args.toList (s.fn H (ds ++ gs)).args pa)
    (hvars : ∀ sp : Nat → Bool, (∀ p ∈ before, sp p.block = true) → DataW.TrodVars enc P W' sp s.vars (s.fn H (ds ++ gs)).vars pv)
    (hps : before = pa ++ pv) (hk : W.keptBut W' (· ∈ before)) (hfz : ∀ a : Addr, a.block < W.heap.size → W'.frozen? a = W.frozen? a)
    (hok : ∀ (j : Nat) (t : TypeId) (r : Value), f.resultTypes[j]? = some t → (v.resultList f.resultTypes.size)[j]? = some r → Value.okWide P W' .any 0 t r) :
    s.post enc P f apart fresh handsOn again W args v W' := by
  have hlt : ∀ p ∈ before, p.block < W.heap.size := fun p hp => hW.lt p hp
  have hold : ∀ p ∈ before, (fun b => decide (b < W.heap.size)) p.block = true := fun p hp => by simpa using hlt p hp
  refine ⟨ds, gs, before, [], pa, pv, hW, hres _ _ _, hargs _ hold, hvars _ hold, World.keptBut_mono (fun p hp => ⟨hp, ?_⟩) hk, fun _ => ?_⟩
  · rw [hps, List.mem_append] at hp
    exact Or.inr hp
  · obtain ⟨_, _, _, _, _, hz, hn⟩ := hW
    refine ⟨hok, _, _, ([] ++ pa) ++ pv, ⟨[] ++ pa, pv, ChangeShapes.trodAll_append (hargs _ (fun _ _ => rfl)) (hres _ _ _), hvars _ (fun _ _ => rfl), rfl, ?_, ?_⟩, ?_⟩
    · intro b off hp
      have hb : MemPlace.cell b off ∈ before := by rw [hps]; simpa using hp
      rw [hfz _ (hlt _ hb)]
      exact hz b off hb
    · intro ha
      have := hn ha
      rw [hps] at this
      simpa using this
    · intro p hp _
      rw [hps]
      simpa using hp

theorem law_contract {f : FuncId} {fn : Func} {s : ChangeSpec} {apart fresh handsOn again : Bool} {tb : TypeId} {base n : Nat} {args : Array Value} {ds gs : List (DataW H)} {before : List MemPlace} (hl : laidOutB P = true) (hvars : s.vars = [])
    (hres : fn.resultTypes = #[tb]) (htb : P.underlying tb = some .bool) (hpl : fn.params.toList.all (fun t => plainL P n t && scalarB P t && P.readableRec t && decide (t < P.types.size)) = true)
    (hspec : (s.fn H ds).results = [.lit (.bool true)] ∧ (s.fn H ds).args = ds ∧ (s.fn H ds).vars = [])
    (hval : ∀ (j : Nat) t v, fn.params[j]? = some t → args[j]? = some v → Value.okWide P W .any base t v)
    (hW : DataW.Whole enc P fn.params.toList s.vars apart W args.toList ds gs before)
    (hcall : HCalls P f (ds.map hvOf) [] fun x _ => x = .bool true) :
    Calls P f args W fun e W' => ∃ v, e = .returned v ∧ s.post enc P fn apart fresh handsOn again W args v W' := by
  have hlt : ∀ p ∈ before, p.block < W.heap.size := fun p hp => hW.lt p hp
  have hW' := hW
  obtain ⟨p, q, hA, hV, hpq, hfz, hnd⟩ := hW
  rw [hvars] at hV
  obtain ⟨rfl, rfl⟩ := ChangeShapes.trodVars_none hV
  simp only [List.append_nil] at hpq
  subst hpq
  -- the values
  have hall : ∀ {ts : List TypeId} {vs : List Value} {ds : List (DataW H)} {ps : List MemPlace}, ts.all (fun t => plainL P n t && scalarB P t && P.readableRec t && decide (t < P.types.size)) = true → (∀ (j : Nat) t v, ts[j]? = some t → vs[j]? = some v → Value.okWide P W .any base t v) → DataW.TrodAll enc P W 0 (fun _ => true) true ts vs ds ps →
      ds.length = vs.length ∧ ∀ (j : Nat) (x : HV) (v : Value), (ds.map hvOf)[j]? = some x → vs[j]? = some v → V (K0 W) W x v := by
    intro ts
    induction ts with
    | nil =>
      intro vs ds ps _ _ h
      cases vs <;> cases ds <;> first | exact h.elim | skip
      exact ⟨rfl, fun j x v hx => by simp at hx⟩
    | cons t ts ih =>
      intro vs ds ps hp hv h
      cases vs with
      | nil => cases ds <;> exact h.elim
      | cons v vs =>
        cases ds with
        | nil => exact h.elim
        | cons d ds =>
          obtain ⟨p, q, h1, h2, _⟩ := h
          simp only [List.all_cons, Bool.and_eq_true] at hp
          obtain ⟨g1, g2⟩ := ih hp.2 (fun j t v ht hvv => hv (j + 1) t v (by simpa using ht) (by simpa using hvv)) h2
          refine ⟨by simp [g1], fun j x u hx hu => ?_⟩
          cases j with
          | zero =>
            simp at hx hu
            subst hx; subst hu
            exact arg_V hp.1.1.1.1 hp.1.1.1.2 (hv 0 t v rfl rfl) h1
          | succ j => exact g2 j x u (by simpa using hx) (by simpa using hu)
  obtain ⟨g1, g2⟩ := hall hpl (fun j t v ht hv => hval j t v (by simpa using ht) (by simpa using hv)) hA
  have := hcall.2 (K0 W) W args.toList (heap0 W) (by simpa using g1) g2
  simp only [Array.toArray_toList] at this
  refine this.mono ?_
  rintro e W' ⟨v, x, K', h', rfl, s', hh', hVx, rfl⟩
  cases hVx
  refine ⟨_, rfl, post_same (pa := before) (pv := []) hW' (fun b sp hd => ?_) (fun sp hsp => ?_) (fun sp _ => ?_) (by simp) (keptBut_of s' _) (fun a ha => ?_) (RowKit.ok_one hres rfl (RowKit.okWide_bool_mk htb _))⟩
  · rw [List.append_nil, hspec.1, hres]
    exact ChangeShapes.trodAll_mk1 (RowKit.shut_bool htb _)
  · rw [List.append_nil, hspec.2.1]
    refine args_stay s' hl (fun t ht => ?_) hA hlt sp hsp
    have := List.all_eq_true.1 hpl t ht
    simp only [Bool.and_eq_true, decide_eq_true_eq] at this
    exact ⟨this.1.2, this.2⟩
  · rw [List.append_nil, hspec.2.2, hvars]
    rfl
  · unfold World.frozen?
    rw [kept_of s' a.block ha]
end
end Go.Hw

set_option linter.unusedVariables false
set_option linter.unusedSimpArgs false
namespace Go.Hw
open Go

abbrev GA {A : Type} (f : A → HV) (l : List A) : HObj := .cells (flat (l.map f))


theorem freeze_one {K : GK} {w : World} {h : Heap} {id sz : Nat} {hs : List HV} {v : Value} (hh : HeapRel K h w) (hc : h[id]? = some (.cells (flat hs))) (hw : ∀ x ∈ hs, x.cells.length = sz) (hV : V K w (.arr id 0 hs.length sz) v) :
    ∃ K', Step K w K' w ∧ HeapRel K' (h.set id .dead) w ∧ V K' w (.list hs .none) v := by
  have hd := heap_dead hh hc
  have hfl := flat_length hw
  generalize hn : hs.length = n at hV hfl
  cases hV with
  | arrn =>
    obtain rfl : hs = [] := List.eq_nil_of_length_eq_zero hn
    exact ⟨K, .refl K w, hd, V.nil _ (show TokNil K .none from trivial)⟩
  | arr0 _ _ _ ad =>
    obtain rfl : hs = [] := List.eq_nil_of_length_eq_zero hn
    exact ⟨K, .refl K w, hd, V.list0 _ (show TokNil K .none from trivial) ad⟩
  | arr _ _ _ _ b cap off' hr hcap hoff hroom =>
    obtain ⟨hb1, o0, ho0, hok, hlim⟩ := hh.obj id b hr
    rw [hc] at ho0; injection ho0 with ho0; subst ho0
    have hlim := hlim trivial
    obtain ⟨c, et', fr, hb, hlen, hfr, hvs⟩ := hok
    have hntb : ∀ k, K.tb k ≠ some b := fun k hk => (hh.tok k b hk).2.2.1 id _ hr hc trivial
    have hl : ∀ q, q ≠ b → (K.limAt b (flat hs).length).lim q = K.lim q := fun q hq => by simp [GK.limAt, hq]
    have hlb : (K.limAt b (flat hs).length).lim b = (flat hs).length := by simp [GK.limAt]
    have s : Step K w (K.limAt b (flat hs).length) w := by
      refine ⟨rfl, tk, rfl, Nat.le_refl _, fun q => ?_, fun _ => Nat.le_refl _, fun k _ => ⟨rfl, fun q hq => hl q fun e => hntb k (e ▸ hq)⟩, fun _ _ h => h, fun _ _ _ _ h => h, fun _ _ h => h, fun _ _ h => h, fun q _ ho => ⟨rfl, hl q fun e => ho (e ▸ .inl ⟨id, hr⟩)⟩⟩
      by_cases e : q = b
      · subst e; rw [hlim]; exact Nat.zero_le _
      · rw [hl q e]; exact Nat.le_refl _
    have hfree : ∀ (i : Nat) (x : HObj), K.rho i = some b → (h.set id HObj.dead)[i]? = some x → ¬ x.live := by
      intro i x hi hx lx
      by_cases e : i = id
      · subst e; rw [List.getElem?_set_self (lt_of_get hc)] at hx; injection hx with hx; subst hx; exact lx.elim
      · rw [List.getElem?_set_ne (Ne.symm e)] at hx
        exact e (hh.inj i id b x _ hi hr hx hc lx trivial)
    refine ⟨_, s, ⟨fun i q hi => ?_, hd.inj, hd.wm, fun k q hk => ?_, hd.tinj, fun q hq => ?_⟩, ?_⟩
    · obtain ⟨h1, o, h2, h3, h4⟩ := hd.obj i q hi
      refine ⟨h1, o, h2, ObjOk.keep s rfl h3, fun hlive => ?_⟩
      have : q ≠ b := fun e => hfree i o (e ▸ hi) h2 hlive
      rw [hl q this]; exact h4 hlive
    · obtain ⟨h1, h2, h3, c', e', fr', h4, h5, h6⟩ := hd.tok k q hk
      have : q ≠ b := fun e => hntb k (e ▸ hk)
      exact ⟨h1, h2, h3, c', e', fr', h4, by rw [hl q this]; exact h5, h6⟩
    · have : q ≠ b := by omega
      rw [hl q this]; exact hd.limb q hq
    · subst hn
      refine .list hs .none b off' cap sz (fun j => (c[j]?).getD undef) hw (fun x hx => ?_) (fun j x hx => ?_) (fun j hj => ?_) (fun hp => ?_) hcap trivial
      · obtain ⟨j, hj⟩ := mem_get hx
        exact (hvs j x hj).1
      · obtain ⟨_, v, h7, h8⟩ := hvs j x hx
        rw [h7]
        exact h8.step s
      · have hpos : 0 < hs.length := by
          rcases Nat.eq_zero_or_pos hs.length with e | e
          · rw [hfl, e] at hj; simp at hj
          · exact e
        obtain rfl : off' = 0 := hoff (by omega)
        rw [Nat.zero_add, cell_of_row w b j c et' fr hb, Array.getElem?_eq_getElem (by omega)]
        simp [show j < c.size by omega]
      · have hpos : 0 < hs.length := by
          rcases Nat.eq_zero_or_pos hs.length with e | e
          · rw [hfl, e] at hp; simp at hp
          · exact e
        obtain rfl : off' = 0 := hoff (by omega)
        rw [hlb]; omega

variable {P : Program} {N m : Nat} {S D : CallP} {b : Nat} {r : List Op} {e e' : Env} {h h' : Heap} {Q : Env → Heap → Prop} {QQ : Ex → Env → Heap → Prop} {d : Nat} {x y z : X}

theorem HCalls.freeze {f : FuncId} {vs : List HV} {id sz : Nat} {hs : List HV} {R : HV → Heap → Prop} (j : Nat) (hj : vs[j]? = some (.arr id 0 hs.length sz)) (hc : h[id]? = some (.cells (flat hs))) (hw : ∀ x ∈ hs, x.cells.length = sz)
    (hcall : HCalls P f (vs.set j (.list hs .none)) (h.set id .dead) R) : HCalls P f vs h R := by
  refine ⟨hcall.1, fun K w us hh hl hv => ?_⟩
  have hjl := lt_of_get hj
  obtain ⟨v, hvj⟩ := get_of_lt (l := us) (j := j) (by omega)
  obtain ⟨K', s, hh', hV⟩ := freeze_one hh hc hw (hv j _ v hj hvj)
  refine (hcall.2 K' w us hh' (by simpa using hl) fun q x u hq hu => ?_).mono ?_
  · rw [List.getElem?_set] at hq
    split at hq
    · rename_i e1
      subst e1
      rw [hvj] at hu
      injection hu with hu; subst hu
      injection hq with hq; subst hq; exact hV
    · exact (hv q x u hq hu).step s
  · rintro en w' ⟨u, x, K2, h2, h3, s2, h5, h6, h7⟩
    exact ⟨u, x, K2, h2, h3, s.trans s2, h5, h6, h7⟩

theorem k_callF {f : FuncId} (hS : SubH P S f) {A B : Type} {fb : B → HV} {l : List B} {sz n id : Nat} {xs : List X} {vs ws as : List HV} {g : A → HV} {K : A → Prop} (j : Nat) (hf : Enc fb sz) (hx : evs e xs = some vs) (ha : vs.map HV.strip1 = ws) (hj : ws[j]? = some (.arr id 0 n sz)) (hn : l.length = n) (hc : h[id]? = some (GA fb l))
    (has : ws.set j (.list (l.map fb) .none) = as) (hh : h.set id .dead = h') (hw : ∃ a, PCall P f as (g a) ∧ K a) (k : ∀ a, K a → HO S b r ((d, g a) :: e) h' Q) : HO S b (⟨some d, .call f xs, none⟩ :: r) e h Q := by
  obtain ⟨a, h1, h2⟩ := hw
  subst ha; subst has; subst hh; subst hn
  refine ⟨?_⟩
  simp only [hops, hcall, hx]
  exact hS _ _ _ (HCalls.freeze j (by simpa using hj) hc (wid_map hf l) (h1.use (k a h2).out))


theorem rn_arr {σ : List Nat} {i j n sz : Nat} (h : σ[i]? = some j) : Ren σ (.arr i 0 n sz) (.arr j 0 n sz) := .arr i j 0 n sz h
end Go.Hw

set_option linter.unusedVariables false
set_option linter.unusedSimpArgs false
namespace Go.Hw
open Go
variable {P : Program} {N m : Nat} {S D : CallP} {b : Nat} {r : List Op} {e e' : Env} {h h' : Heap} {Q : Env → Heap → Prop} {QQ : Ex → Env → Heap → Prop} {d : Nat} {x y z : X}

theorem g_mkar {A : Type} {f : A → HV} {sz n : Nat} {xs : List X} {vs : List HV} (hf : Enc f sz) (l : List A) (hx : evs e xs = some vs) (hl : vs.map HV.strip1 = l.map f) (hv : ∀ v ∈ vs, v.cells.length = sz ∧ isTuple v = false) (hN : h.length = n)
    (k : HO S b r ((d, .arr n 0 l.length sz) :: e) (h ++ [GA f l]) Q) : HO S b (⟨some d, .op (.mkarr none sz xs), none⟩ :: r) e h Q := by
  subst hN
  have hlen : vs.length = l.length := by have := congrArg List.length hl; simpa using this
  have hk := k.out
  refine ⟨?_⟩
  simp only [hops, hcall, hstep, hx, hnew, hl, hlen]
  exact ⟨hv, hk⟩
theorem g_mark {A : Type} {f : A → HV} {sz id n : Nat} {l : List A} {K : Prop} (hx : x.ev e = some (.arr id 0 n sz)) (hc : h[id]? = some (GA f l)) (hw : 0 < n ∧ K) (k : K → HO S b r ((d, .arr id 0 n sz) :: e) h Q) : HO S b (⟨some d, .op (.conv .mark x), none⟩ :: r) e h Q := by
  have hk := (k hw.2).out
  refine ⟨?_⟩
  have h2 : Heap.cells h id = some (flat (l.map f)) := by simp [Heap.cells, hc]
  simp only [hops, hcall, hstep, hx, h2]
  exact ⟨hw.1, hk⟩
structure ASrc {A : Type} (f : A → HV) (sz : Nat) (h : Heap) (v : HV) (l : List A) : Prop where
  ok : srcOk sz h v
  len : srcLen v = l.length
  cells : srcCells h v = flat (l.map f)
end Go.Hw

set_option linter.unusedVariables false
set_option linter.unusedSimpArgs false
namespace Go.Hw
open Go
class EncC {A : Type} (f : A → HV) (sz : outParam Nat) : Prop where
  out : Enc f sz
instance (k : IntKind) : EncC (eInt k) 1 := ⟨enc_int k⟩
instance : EncC eBool 1 := ⟨enc_bool⟩
instance : EncC eStr 1 := ⟨enc_str⟩
instance : EncC eB 1 := ⟨enc_bytes⟩
instance : EncC (fun c : UInt8 => HV.int .u8 c.toNat) 1 := ⟨enc_byte⟩
instance {A : Type} {f : A → HV} {sz : Nat} [e : EncC f sz] : EncC (eLst f) 1 := ⟨enc_lst e.out⟩
class PVi (x : HV) : Prop where
  out : PV x
class PVl (l : List HV) : Prop where
  out : ∀ x ∈ l, PV x
instance : PVl [] := ⟨pvn⟩
instance {x : HV} {l : List HV} [a : PVi x] [b : PVl l] : PVl (x :: l) := ⟨pvc a.out b.out⟩
instance (k : IntKind) (n : Int) : PVi (.int k n) := ⟨.int k n⟩
instance (b : Bool) : PVi (.bool b) := ⟨.bool b⟩
instance (s : List UInt8) : PVi (.str s) := ⟨.str s⟩
instance {A : Type} {f : A → HV} {sz : Nat} {l : List A} [e : EncC f sz] : PVi (.list (List.map f l) .none) := ⟨pv_lst e.out l .none (by simp)⟩
instance {A : Type} {f : A → HV} {sz : Nat} {l : List A} [e : EncC f sz] : PVi (.list (List.map f l) .full) := ⟨pv_lst e.out l .full (by simp)⟩
instance {l : List UInt8} : PVi (.list (bytesOf l) .none) := ⟨pv_lst enc_byte l .none (by simp)⟩
instance {l : List UInt8} : PVi (.list (bytesOf l) .full) := ⟨pv_lst enc_byte l .full (by simp)⟩
instance : PVi (.list [] .full) := ⟨pv_nil⟩
instance : PVi .nilslice := ⟨.nilslice⟩
instance : PVi .nilptr := ⟨.nilptr⟩
instance : PVi .nilmap := ⟨.nilmap⟩
instance : PVi .nilfunc := ⟨.nilfunc⟩
instance : PVi .nilif := ⟨.nilif⟩
instance {cs : List HV} [a : PVl cs] : PVi (.agg cs) := ⟨.agg cs a.out⟩
instance {cs : List HV} [a : PVl cs] : PVi (.tuple cs) := ⟨.tuple cs a.out⟩
instance {cs : List HV} [a : PVl cs] : PVi (.rptr cs) := ⟨.rptr cs a.out⟩
instance {f : FuncId} {cs : List HV} [a : PVl cs] : PVi (.func f cs) := ⟨.func f cs a.out⟩
theorem rnI {σ : List Nat} {x : HV} [a : PVi x] : Ren σ x x := .pv x a.out
theorem en {e : Env} : evs e [] = some [] := rfl
theorem ec {e : Env} {x : X} {xs : List X} {v : HV} {vs : List HV} (h1 : x.ev e = some v) (h2 : evs e xs = some vs) : evs e (x :: xs) = some (v :: vs) := ev_cons h1 h2
theorem mz {a : HV} {l : List HV} {sz : Nat} (h2 : ∀ v ∈ l, v.cells.length = sz ∧ isTuple v = false) (h1 : a.cells.length = sz ∧ isTuple a = false := by exact ⟨rfl, rfl⟩) : ∀ v ∈ a :: l, v.cells.length = sz ∧ isTuple v = false := mkc h1 h2
theorem lb {a b : Nat} (h : Nat.ble a b = true) : a ≤ b := Nat.le_of_ble_eq_true h

variable {P : Program} {N m : Nat} {S D : CallP} {b : Nat} {r : List Op} {e e' : Env} {h h' : Heap} {Q : Env → Heap → Prop} {QQ : Ex → Env → Heap → Prop} {d : Nat} {x y z : X}
theorem ws (h1 : Env.sub e' e := by repeat (first | exact sub_nil | refine sub_cons rfl (.inl rfl) ?_ | refine sub_cons rfl (.inr rfl) ?_)) : WeakF m e h e' h := WeakF.of (Weak.sub h1)
theorem wr (σ : List Nat) (hh : RenH σ h σ h' := by repeat (first | exact ro_nil | refine ro_tok rfl ?_ | refine ro_cells rfl ?_ ?_ | exact rl_nil | refine rl_cons (by first | exact rnI | exact .ptr _ _ _ rfl | exact .own _ _ _ _ _ rfl (pv_flat EncC.out _) | exact .map _ _ rfl | exact rn_arr rfl) rfl ?_))
    (he : RenE σ e e' := by repeat (first | exact re_nil | refine re_cons rfl (by first | exact rnI | exact .ptr _ _ _ rfl | exact .own _ _ _ _ _ rfl (pv_flat EncC.out _) | exact .map _ _ rfl | exact rn_arr rfl) ?_ | refine re_cons1 rfl rnI ?_))
    (hid : ∀ i, i < m → σ[i]? = some i := by simp) (hnd : σ.Nodup := by decide) : WeakF m e h e' h' := weak_ren σ hid hnd hh he
theorem gr {A : Type} {a r0 : A} {g : A → HV} {ho : A → Heap} {rs : List RS} {ex : Ex} (vs ws : List HV) (ha : a = r0) (hq : ex = .normal ∨ ex = .ret) (hk : WeakF m (argEnv vs) h (argEnv ws) (ho a)) (hv : resVals2 e h rs = some vs := by rfl) (hl : ws.length = vs.length := by rfl) (hf : retV ws = g a := by rfl) : RetS2 rs m (fun x h' => x = g r0 ∧ h' = ho r0) ex e h :=
  g_hret3 ha hq hv _ _ rfl rfl hl hk hf
theorem gr1 {A : Type} {a r0 : A} {g : A → HV} {ho : A → Heap} {rs : List RS} {ex : Ex} (vs : List HV) (ha : a = r0) (hq : ex = .normal ∨ ex = .ret) (hk : WeakF m (argEnv vs) h (argEnv vs) (ho a)) (hv : resVals2 e h rs = some vs := by rfl) (hf : retV vs = g a := by rfl) : RetS2 rs m (fun x h' => x = g r0 ∧ h' = ho r0) ex e h :=
  g_hret3 ha hq hv _ _ rfl rfl rfl hk hf
section
variable {f : FuncId} {xs : List X} {vs as caps : List HV} {A : Type} {h0 : Heap} {g g2 : A → HV} {ho H2 : A → Heap} {K : A → Prop}
end
theorem zf {P : Program} {f : FuncId} {fn : Func} {code : Code} {c : C} {ann : Ann} {rs : List RS} {args : List HV} {A : Type} {g : A → HV} {a : A} (hf : P.funcs[f]? = some fn) (hc : comp P ann fn.ntmps code = some c)
    (hw : SC P fn.ntmps 0 c (RetS2 rs 0 fun x h' => x = g a ∧ h' = []) (argEnv args) []) (hb : fn.body = some code := by rfl) (hn : fn.name ≠ "runtime.NumGoroutine" := by decide)
    (hres : resTags P fn.results.toList = some rs := by kernel_rfl) (hargs : args.length ≤ fn.ntmps := by exact lb rfl) [hpv : PVl args] [hpr : PVi (g a)] (hs : (g a).strip1 = g a := by rfl) : PCall P f args (g a) :=
  p_func2 hf hb hn hres hargs hc hpv.out hpr.out hs hw
@[reducible] def ii (n : Int) : HV := .int .i64 n
@[reducible] def ln {A : Type} (f : A → HV) (l : List A) : HV := .list (l.map f) .none
instance (n : Nat) : OfNat X n := ⟨.t n⟩
abbrev R64 (n : Int) : Prop := -9223372036854775808 ≤ n ∧ n ≤ 9223372036854775807
@[reducible] def nl {A : Type} (f : A → HV) : HV := .list (List.map f []) .full
instance {A : Type} {f : A → HV} {sz : Nat} [e : EncC f sz] : PVi (nl f) := ⟨pv_lst e.out [] .full (by simp)⟩
@[reducible] def bn (l : List UInt8) : HV := .list (bytesOf l) .none
@[reducible] def mo (d t : Nat) : Op := oo d (.mv (.t t))
end Go.Hw

