/- Keys of maps; structs and arrays that are compared. -/
import Derived.Test.YthikpbaphpdpfaaHwMem6
import Derived.Laws.StructEq
set_option linter.unusedVariables false
set_option linter.unusedSimpArgs false
namespace Go.Hw
open Go

variable {P : Program} {K : GK} {w : World}

theorem scOf_bool {t : TypeId} (h : scOf P t = some .b) : P.underlying t = some .bool := by
  unfold scOf at h; split at h <;> simp_all
theorem scOf_int {t : TypeId} (h : scOf P t = some .i) : ∃ k, P.underlying t = some (.int k) := by
  unfold scOf at h; split at h <;> simp_all
theorem scOf_str {t : TypeId} (h : scOf P t = some .s) : P.underlying t = some .string := by
  unfold scOf at h; split at h <;> simp_all
theorem scOf_isAgg {k : Sc} {t : TypeId} (h : scOf P t = some k) : (isAgg t).run P w = .ok false w := by
  cases k with
  | b => exact run_isAgg (scOf_bool h) w
  | i => obtain ⟨_, hu⟩ := scOf_int h; exact run_isAgg hu w
  | s => exact run_isAgg (scOf_str h) w
theorem run_part1 {k : Sc} {t : TypeId} (h : scOf P t = some k) {us : Array Value} {i : Nat} {v : Value} (hv : us[i]? = some v) : (part t us i).run P w = .ok v w := by
  simp only [part, Sem.run_bind, scOf_isAgg h, Result.andThen_ok, Bool.false_eq_true, if_false, hv, Sem.run_pure]

/-- Single cells: compared. -/
theorem sc_run {k : Sc} {t : TypeId} {x y : HV} {u v : Value} {b : Bool} (ht : scOf P t = some k) (hx : V K w x u) (hy : V K w y v) (h : Sc.eq k x y = some b) :
    (∀ d, (Op.equalIn (d + 1) t u v).run P w = .ok b w) ∧ (∃ d, P.underlying t = some d ∧ Instr.sameNow d u v = some b) ∧ (b = true → v = u ∧ ∀ n, Instr.sameBits n u u = true) := by
  cases k with
  | b =>
    have hu := scOf_bool ht
    cases x <;> cases y <;> simp [Sc.eq] at h
    cases hx; cases hy
    subst h
    refine ⟨fun d => run_equalIn_bool' w d t _ _ hu, ⟨_, hu, rfl⟩, fun hb => ⟨?_, fun n => by cases n <;> simp [Instr.sameBits]⟩⟩
    rw [eq_of_beq hb]
  | i =>
    obtain ⟨q, hu⟩ := scOf_int ht
    cases x <;> cases y <;> simp [Sc.eq] at h
    obtain ⟨rfl, h⟩ := h
    cases hx; cases hy
    subst h
    refine ⟨fun d => run_equalIn_int w d t _ _ _ _ hu, ⟨_, hu, by simp [Instr.sameNow]⟩, fun hb => ⟨?_, fun n => by cases n <;> simp [Instr.sameBits]⟩⟩
    rw [eq_of_beq hb]
  | s =>
    have hu := scOf_str ht
    cases x <;> cases y <;> simp [Sc.eq] at h
    rename_i s1 s2
    cases hx; cases hy
    subst h
    refine ⟨fun d => ?_, ⟨_, hu, by rw [← str_eq]; rfl⟩, fun hb => ⟨?_, fun n => ?_⟩⟩
    · rw [run_equalIn_string w d t _ _ hu, ← beq_toListBytes, str_eq]
    · rw [eq_of_beq hb]
    · have : ((ByteArray.mk s1.toArray) == (ByteArray.mk s1.toArray)) = true := by rw [str_eq]; simp
      cases n <;> simpa [Instr.sameBits] using this

/-! ### structs and arrays -/
def Cells (K : GK) (w : World) (cs : List HV) (us : Array Value) (i : Nat) : Prop := ∀ (j : Nat) (z : HV), cs[j]? = some z → ∃ v, us[i + j]? = some v ∧ V K w z v
theorem Cells.tail {c : HV} {cs : List HV} {us : Array Value} {i : Nat} (h : Cells K w (c :: cs) us i) : Cells K w cs us (i + 1) := fun j z hz => by
  have := h (j + 1) z (by simpa using hz)
  rwa [Nat.add_assoc, Nat.add_comm 1 j]
theorem Cells.head {c : HV} {cs : List HV} {us : Array Value} {i : Nat} (h : Cells K w (c :: cs) us i) : ∃ v, us[i]? = some v ∧ V K w c v := by
  have := h 0 c rfl
  rwa [Nat.add_zero] at this
theorem Cells.ofAgg {cs : List HV} {us : List Value} (hn : cs.length = us.length) (hv : ∀ (j : Nat) (h : HV) (v : Value), cs[j]? = some h → us[j]? = some v → V K w h v) : Cells K w cs us.toArray 0 := fun j z hz => by
  obtain ⟨v, hvv⟩ := get_of_lt (l := us) (j := j) (by rw [← hn]; exact lt_of_get hz)
  exact ⟨v, by simpa using hvv, hv j z v hz hvv⟩
/-- The fields' layout. -/
def flds (P : Program) (L : List Field) (i : Nat) : Prop := (L.zipIdx i).all (fun (f, j) => tsize P f.type == some 1 && f.offset == j && f.name != "_") = true
theorem flds_cons {f : Field} {L : List Field} {i : Nat} (h : flds P (f :: L) i) : f.offset = i ∧ f.name ≠ "_" ∧ flds P L (i + 1) := by
  unfold flds at h
  rw [List.zipIdx_cons, List.all_cons] at h
  simp only [Bool.and_eq_true, beq_iff_eq, bne_iff_ne] at h
  exact ⟨h.1.1.2, h.1.2, h.2⟩
theorem mapM_cons {α β : Type} {f : α → Option β} {a : α} {l : List α} {r : List β} (h : (a :: l).mapM f = some r) : ∃ b r', f a = some b ∧ l.mapM f = some r' ∧ r = b :: r' := by
  rw [List.mapM_cons] at h
  cases h1 : f a with
  | none => simp [h1] at h
  | some b =>
    cases h2 : l.mapM f with
    | none => simp [h1, h2] at h
    | some r' => simp [h1, h2] at h; exact ⟨b, r', rfl, rfl, h.symm⟩
theorem eqCells_cons {k : Sc} {ks : List Sc} {cs ds : List HV} {b : Bool} (h : eqCells (k :: ks) cs ds = some b) : ∃ c cs' d ds' p q, cs = c :: cs' ∧ ds = d :: ds' ∧ Sc.eq k c d = some p ∧ eqCells ks cs' ds' = some q ∧ b = (p && q) := by
  cases cs with
  | nil => simp [eqCells] at h
  | cons c cs =>
    cases ds with
    | nil => simp [eqCells] at h
    | cons d ds =>
      simp only [eqCells] at h
      split at h
      · rename_i p q h1 h2
        exact ⟨c, cs, d, ds, p, q, rfl, rfl, h1, h2, by injection h with h; exact h.symm⟩
      · cases h
theorem eqCells_nil {cs ds : List HV} {b : Bool} (h : eqCells [] cs ds = some b) : cs = [] ∧ ds = [] ∧ b = true := by
  cases cs <;> cases ds <;> simp [eqCells] at h
  exact ⟨rfl, rfl, h⟩
theorem run_fields (d : Nat) {us vs : Array Value} : ∀ (L : List Field) (i : Nat) (ks : List Sc) (cs ds : List HV) (b : Bool), flds P L i → L.mapM (fun f => scOf P f.type) = some ks → Cells K w cs us i → Cells K w ds vs i → eqCells ks cs ds = some b →
    (Op.eqFields (d + 1) us vs L).run P w = .ok b w
  | [], i, ks, cs, ds, b, _, hk, _, _, he => by
    simp at hk
    subst hk
    obtain ⟨_, _, rfl⟩ := eqCells_nil he
    rfl
  | f :: L, i, ks, cs, ds, b, hf, hk, hc, hd, he => by
    obtain ⟨h1, h2, h3⟩ := flds_cons hf
    obtain ⟨k, ks, h4, h5, rfl⟩ := mapM_cons hk
    obtain ⟨c, cs, d', ds, p, q, rfl, rfl, h6, h7, rfl⟩ := eqCells_cons he
    obtain ⟨u, hu, hU⟩ := hc.head
    obtain ⟨v, hv, hV⟩ := hd.head
    have ih := run_fields d L (i + 1) ks cs ds q h3 h5 hc.tail hd.tail h7
    have := (sc_run h4 hU hV h6).1 d
    simp only [Op.eqFields, if_pos h2, h1, Sem.run_bind, run_part1 h4 hu, run_part1 h4 hv, this, Result.andThen_ok]
    cases p with
    | false => rfl
    | true => simpa using ih
theorem run_items (d : Nat) {e : TypeId} {k : Sc} (he : scOf P e = some k) {us vs : Array Value} : ∀ (n i : Nat) (cs ds : List HV) (b : Bool), Cells K w cs us i → Cells K w ds vs i → eqCells (List.replicate n k) cs ds = some b →
    (Op.eqItems (d + 1) e 1 us vs (List.range' i n)).run P w = .ok b w
  | 0, i, cs, ds, b, _, _, h => by
    obtain ⟨_, _, rfl⟩ := eqCells_nil h
    rfl
  | n + 1, i, cs, ds, b, hc, hd, h => by
    obtain ⟨c, cs, d', ds, p, q, rfl, rfl, h6, h7, rfl⟩ := eqCells_cons h
    obtain ⟨u, hu, hU⟩ := hc.head
    obtain ⟨v, hv, hV⟩ := hd.head
    have ih := run_items d he n (i + 1) cs ds q hc.tail hd.tail h7
    have := (sc_run he hU hV h6).1 d
    rw [List.range'_succ]
    simp only [Op.eqItems, Nat.mul_one, Sem.run_bind, run_part1 he hu, run_part1 he hv, this, Result.andThen_ok]
    cases p with
    | false => rfl
    | true => simpa using ih

/-- What eqKind says of a type of structs or arrays. -/
theorem eqKind_agg {t : TypeId} {ks : List Sc} (h : eqKind P t = some (.agg ks)) :
    (∃ fs, P.underlying t = some (.struct fs) ∧ flds P fs.toList 0 ∧ fs.toList.mapM (fun f => scOf P f.type) = some ks ∧ P.stoodInHeld t = false ∧ P.eqGuardType P.depth t = false) ∨
    ∃ n e k, P.underlying t = some (.array n e) ∧ tsize P e = some 1 ∧ scOf P e = some k ∧ ks = List.replicate n k ∧ P.eqGuardType P.depth t = false := by
  unfold eqKind at h
  split at h <;> try (cases h; done)
  · rename_i fs hu
    split at h
    · rename_i hc
      obtain ⟨l, h1, h2⟩ := Option.map_eq_some_iff.1 h
      injection h2 with h2
      subst h2
      simp only [Bool.and_eq_true, Bool.not_eq_true'] at hc
      exact .inl ⟨fs, hu, hc.1.1, h1, hc.1.2, hc.2⟩
    · cases h
  · rename_i n e hu
    split at h
    · rename_i hc
      obtain ⟨k, h1, h2⟩ := Option.map_eq_some_iff.1 h
      injection h2 with h2
      simp only [Bool.and_eq_true, Bool.not_eq_true', beq_iff_eq] at hc
      exact .inr ⟨n, e, k, hu, hc.2, h1, h2.symm, hc.1⟩
    · cases h
theorem info_of_tsize {e : TypeId} {n : Nat} (h : tsize P e = some n) : ∃ i, P.info? e = some i ∧ P.cellsOf e = n := by
  unfold tsize at h
  cases hi : P.info? e with
  | none => simp [hi] at h
  | some i => simp [hi] at h; exact ⟨i, rfl, by simp [Program.cellsOf, hi, h]⟩
theorem agg_run {t : TypeId} {ks : List Sc} {cs ds : List HV} {us vs : Array Value} {b : Bool} (ht : eqKind P t = some (.agg ks)) (hc : Cells K w cs us 0) (hd : Cells K w ds vs 0) (h : eqCells ks cs ds = some b) (d : Nat) :
    (Op.equalIn (d + 2) t (.agg us) (.agg vs)).run P w = .ok b w := by
  rcases eqKind_agg ht with ⟨fs, hu, hf, hk, hst, _⟩ | ⟨n, e, k, hu, hsz, hk, rfl, _⟩
  · have hu' : P.underlying t = some (.struct (P.fieldsOf t)) := by rw [hu]; simp [Program.fieldsOf, hu]
    rw [show d + 2 = (d + 1) + 1 from rfl, run_equalIn_struct w (d + 1) t us vs hu' hst, show P.fieldsOf t = fs by simp [Program.fieldsOf, hu]]
    exact run_fields d fs.toList 0 ks cs ds b hf hk hc hd h
  · obtain ⟨i, hi, hcell⟩ := info_of_tsize hsz
    rw [show d + 2 = (d + 1) + 1 from rfl, run_equalIn_array w (d + 1) us vs hu hi, hcell, List.range_eq_range']
    exact run_items d hk n 0 cs ds b hc hd h

section
variable {o : Oper} {a : Act} {k : HV → Heap → Prop} {e : Env} {h : Heap} (base : Nat)
theorem ok_eqagg {neg : Bool} {ks : List Sc} {t yt : TypeId} {x y : Operand} {x' y' : X} (ho : o.op = .binOp (if neg then .neq else .eql) t x y yt) (hkd : eqKind P t = some (.agg ks)) (hx : cXe x = some x') (hy : cXe y = some y')
    (hs : hstep base (.eqv neg (.agg ks) x' y') e h k) (hh : HeapRel K h w) (he : EnvRel K w e a.tmps) : Ok P o a K w k := by
  simp only [hstep] at hs
  split at hs
  · rename_i p q h1 h2
    split at hs
    · rename_i cs ds
      split at hs
      · rename_i b hb
        have hx' := eve_sound hx he h1
        have hy' := eve_sound hy he h2
        generalize hcx : a.eval x = cx at hx'
        generalize hcy : a.eval y = cy at hy'
        cases hx' with
        | agg _ us hn _ hv =>
          cases hy' with
          | agg _ vs hn' _ hv' =>
            have hrun := agg_run (P := P) hkd (Cells.ofAgg hn hv) (Cells.ofAgg hn' hv') hb 9998
            have hg : P.eqGuardType P.depth t = false := by
              rcases eqKind_agg hkd with ⟨_, _, _, _, _, hg⟩ | ⟨_, _, _, _, _, _, _, hg⟩ <;> exact hg
            cases neg with
            | false =>
              refine Ok.pure (v := .bool b) ?_ hh (.bool _) (by simpa using hs)
              simp [execOp, ho, hcx, hcy, run_eqGuard_agg w _ t x y _ _ hg, run_eql_struct, hrun, Result.andThen]
            | true =>
              refine Ok.pure (v := .bool (!b)) ?_ hh (.bool _) (by simpa using hs)
              simp [execOp, ho, hcx, hcy, run_eqGuard_agg w _ t x y _ _ hg, run_neq_struct, hrun, Result.andThen]
      · exact hs.elim
    · exact hs.elim
  · exact hs.elim
end
end Go.Hw
