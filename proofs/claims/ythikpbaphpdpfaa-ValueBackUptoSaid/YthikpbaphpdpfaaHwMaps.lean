/- Maps. -/
import Derived.Test.YthikpbaphpdpfaaHwKeys
import Derived.MapKept
set_option linter.unusedVariables false
set_option linter.unusedSimpArgs false
namespace Go.Hw
open Go

variable {P : Program} {K : GK} {w : World}

/-! ### keys -/
theorem eqKind_sc {t : TypeId} {kd : EqK} (h : eqKind P t = some kd) : (kd = .bool → scOf P t = some .b) ∧ (kd = .int → scOf P t = some .i) ∧ (kd = .str → scOf P t = some .s) := by
  unfold eqKind at h
  split at h <;> refine ⟨fun hk => ?_, fun hk => ?_, fun hk => ?_⟩ <;> subst hk <;> first
    | (cases h; done)
    | (rename_i hu; simp only [scOf, hu]; done)
    | (split at h <;> first | (cases h; done) | (obtain ⟨_, _, h⟩ := Option.map_eq_some_iff.1 h; cases h))
/-- Scalars, or cells of a struct or an array. -/
theorem keq_cases {kd : EqK} {x y : HV} {b : Bool} (h : keq kd x y = some b) : ((kd = .bool ∧ Sc.eq .b x y = some b) ∨ (kd = .int ∧ Sc.eq .i x y = some b) ∨ (kd = .str ∧ Sc.eq .s x y = some b)) ∨ ∃ ks cs ds, kd = .agg ks ∧ x = .agg cs ∧ y = .agg ds ∧ eqCells ks cs ds = some b := by
  unfold keq at h
  split at h
  · exact .inl (.inl ⟨rfl, h⟩)
  · exact .inl (.inr (.inl ⟨rfl, h⟩))
  · exact .inl (.inr (.inr ⟨rfl, h⟩))
  · rename_i ks cs ds
    exact .inr ⟨ks, cs, ds, rfl, rfl, rfl, h⟩
  · cases h
theorem keq_sc {t : TypeId} {kd : EqK} (ht : eqKind P t = some kd) {x y : HV} {b : Bool} (h : keq kd x y = some b) : (∃ k, scOf P t = some k ∧ Sc.eq k x y = some b) ∨ ∃ ks cs ds, kd = .agg ks ∧ x = .agg cs ∧ y = .agg ds ∧ eqCells ks cs ds = some b := by
  obtain ⟨h1, h2, h3⟩ := eqKind_sc ht
  rcases keq_cases h with (⟨e1, e2⟩ | ⟨e1, e2⟩ | ⟨e1, e2⟩) | h
  · exact .inl ⟨.b, h1 e1, e2⟩
  · exact .inl ⟨.i, h2 e1, e2⟩
  · exact .inl ⟨.s, h3 e1, e2⟩
  · exact .inr h
theorem cells_same {ks : List Sc} {t : TypeId} : ∀ {cs ds : List HV} {us vs : List Value}, cs.length = us.length → ds.length = vs.length → (∀ (j : Nat) (h : HV) (v : Value), cs[j]? = some h → us[j]? = some v → V K w h v) → (∀ (j : Nat) (h : HV) (v : Value), ds[j]? = some h → vs[j]? = some v → V K w h v) →
    eqCells ks cs ds = some true → us = vs ∧ ∀ n u, u ∈ us → Instr.sameBits n u u = true := by
  induction ks with
  | nil =>
    intro cs ds us vs h1 h2 _ _ h
    obtain ⟨rfl, rfl, _⟩ := eqCells_nil h
    have e1 : us = [] := List.eq_nil_of_length_eq_zero h1.symm
    have e2 : vs = [] := List.eq_nil_of_length_eq_zero h2.symm
    subst e1; subst e2
    exact ⟨rfl, by simp⟩
  | cons k ks ih =>
    intro cs ds us vs h1 h2 hc hd h
    obtain ⟨c, cs, d, ds, p, q, rfl, rfl, h6, h7, h8⟩ := eqCells_cons h
    cases p <;> cases q <;> simp at h8
    cases us with
    | nil => simp at h1
    | cons u us =>
      cases vs with
      | nil => simp at h2
      | cons v vs =>
        obtain ⟨e1, e2⟩ := ih (by simpa using h1) (by simpa using h2) (fun j a b ha hb => hc (j + 1) a b (by simpa using ha) (by simpa using hb)) (fun j a b ha hb => hd (j + 1) a b (by simpa using ha) (by simpa using hb)) h7
        have hU := hc 0 c u rfl rfl
        have hV := hd 0 d v rfl rfl
        have hh : u = v ∧ ∀ n, Instr.sameBits n u u = true := by
          cases k <;> cases c <;> cases d <;> simp [Sc.eq] at h6 <;> cases hU <;> cases hV
          · subst h6; exact ⟨rfl, fun n => by cases n <;> simp [Instr.sameBits]⟩
          · obtain ⟨rfl, rfl⟩ := h6; exact ⟨rfl, fun n => by cases n <;> simp [Instr.sameBits]⟩
          · subst h6
            rename_i s
            have : ((ByteArray.mk s.toArray) == (ByteArray.mk s.toArray)) = true := by rw [str_eq]; simp
            exact ⟨rfl, fun n => by cases n <;> simpa [Instr.sameBits] using this⟩
        refine ⟨by rw [hh.1, e1], fun n z hz => ?_⟩
        simp at hz
        rcases hz with rfl | hz
        · exact hh.2 n
        · exact e2 n z hz
theorem key_same {t : TypeId} {kd : EqK} (ht : eqKind P t = some kd) {x y : HV} {u v : Value} (hx : V K w x u) (hy : V K w y v) (h : keq kd x y = some true) : v = u ∧ Instr.sameBits 10000 u u = true := by
  rcases keq_sc ht h with ⟨k, h1, h2⟩ | ⟨ks, cs, ds, rfl, rfl, rfl, h2⟩
  · obtain ⟨_, _, h3⟩ := sc_run h1 hx hy h2
    exact ⟨(h3 rfl).1, (h3 rfl).2 _⟩
  · cases hx with
    | agg _ us hn _ hv =>
      cases hy with
      | agg _ vs hn' _ hv' =>
        obtain ⟨rfl, h4⟩ := cells_same (t := t) hn hn' hv hv' h2
        refine ⟨rfl, ?_⟩
        simp only [Instr.sameBits, beq_self_eq_true, Bool.true_and, List.all_eq_true]
        intro p hp
        obtain ⟨a, b⟩ := p
        have hz : ∀ (l : List Value) (a b : Value), (a, b) ∈ l.zip l → a = b ∧ a ∈ l := by
          intro l
          induction l with
          | nil => intro a b h; simp at h
          | cons c l ih =>
            intro a b h
            simp only [List.zip_cons_cons, List.mem_cons, Prod.mk.injEq] at h
            rcases h with ⟨rfl, rfl⟩ | h
            · exact ⟨rfl, by simp⟩
            · obtain ⟨e1, e2⟩ := ih a b h; exact ⟨e1, by simp [e2]⟩
        obtain ⟨rfl, hm⟩ := hz us a b (by simpa using hp)
        exact h4 _ a hm
theorem run_stays {t : TypeId} {kd : EqK} (ht : eqKind P t = some kd) {x y : HV} {u v : Value} (hx : V K w x u) (hy : V K w y v) (h : keq kd x y = some true) (w' : World) : (Instr.keyThatStays v u).run P w' = .ok u w' := by
  obtain ⟨rfl, h1⟩ := key_same ht hx hy h
  simp [Instr.keyThatStays, h1]

theorem check_sc {k : Sc} {t : TypeId} {x : HV} {u : Value} (ht : scOf P t = some k) (hx : V K w x u) (h : Sc.eq k x x = some true) (em : Bool) (n : Nat) : (Instr.checkKey em (n + 1) t u).run P w = .ok () w := by
  unfold Instr.checkKey
  cases k with
  | b =>
    cases x <;> simp [Sc.eq] at h
    cases hx
    simp only [Sem.run_bind, run_underlying (scOf_bool ht), Result.andThen_ok]; rfl
  | i =>
    cases x <;> simp [Sc.eq] at h
    cases hx
    obtain ⟨q, hu⟩ := scOf_int ht
    simp only [Sem.run_bind, run_underlying hu, Result.andThen_ok]; rfl
  | s =>
    cases x <;> simp [Sc.eq] at h
    cases hx
    simp only [Sem.run_bind, run_underlying (scOf_str ht), Result.andThen_ok]; rfl
theorem check_run {t : TypeId} {kd : EqK} (ht : eqKind P t = some kd) {x : HV} {u : Value} (hx : V K w x u) (h : keq kd x x = some true) (em : Bool) : (Instr.checkKey em 10000 t u).run P w = .ok () w := by
  rcases keq_sc ht h with ⟨k, h1, h2⟩ | ⟨ks, cs, ds, rfl, rfl, hd, h2⟩
  · exact check_sc h1 hx h2 em 9999
  · injection hd with hd
    subst hd
    cases hx with
    | agg _ us hn hlf hv =>
      have hc := Cells.ofAgg hn hv
      clear hlf
      show (Instr.checkKey em (9998 + 1 + 1) t (.agg us.toArray)).run P w = .ok () w
      rw [Instr.checkKey]
      rcases eqKind_agg ht with ⟨fs, hu, hf, hk, _, _⟩ | ⟨n, e, k, hu, hsz, hk, rfl, _⟩
      · simp only [Sem.run_bind, run_underlying hu, Result.andThen_ok]
        rw [← Array.forIn_toList]
        generalize fs.toList = L at hf hk
        generalize 0 = i at hf hc
        clear ht hu hn hv
        induction L generalizing i ks cs with
        | nil => rfl
        | cons f L ih =>
          obtain ⟨g1, g2, g3⟩ := flds_cons hf
          obtain ⟨k, ks, g4, g5, rfl⟩ := mapM_cons hk
          obtain ⟨c, cs', d', ds', p, q, rfl, hd2, g6, g7, g8⟩ := eqCells_cons h2
          simp only [List.cons.injEq] at hd2
          obtain ⟨rfl, rfl⟩ := hd2
          cases p <;> cases q <;> simp at g8
          obtain ⟨u, hu, hU⟩ := hc.head
          have := check_sc g4 hU g6 em 9998
          simp only [List.forIn_cons, Sem.run_bind, if_pos g2, g1, run_part1 g4 hu, Result.andThen_ok, this, Sem.run_pure]
          exact ih ks cs' (by simpa [keq] using g7) g7 g5 (i + 1) g3 hc.tail
      · obtain ⟨i, hi, hcell⟩ := info_of_tsize hsz
        simp only [Sem.run_bind, run_underlying hu, Result.andThen_ok, Std.Legacy.Range.forIn_eq_forIn_range', Std.Legacy.Range.size, Nat.sub_zero, Nat.add_one_sub_one, Nat.div_one]
        generalize 0 = i at hc
        clear ht hu hn hv h
        induction n generalizing i cs with
        | zero => rfl
        | succ n ih =>
          obtain ⟨c, cs', d', ds', p, q, rfl, hd2, g6, g7, g8⟩ := eqCells_cons (k := k) (ks := List.replicate n k) h2
          simp only [List.cons.injEq] at hd2
          obtain ⟨rfl, rfl⟩ := hd2
          cases p <;> cases q <;> simp at g8
          obtain ⟨u, hu, hU⟩ := hc.head
          have := check_sc hk hU g6 em 9998
          simp only [List.range'_succ, List.forIn_cons, Sem.run_bind, run_sizeOf' hsz, Nat.mul_one, run_part1 hk hu, Result.andThen_ok, this, Sem.run_pure]
          exact ih cs' g7 (i + 1) hc.tail

/-! ### to find a key -/
def EntRel (K : GK) (w : World) (es : List (Nat × HV × HV)) (ms : List MapEntry) : Prop := ms.length = es.length ∧ ∀ (j n : Nat) (x y : HV), es[j]? = some (n, x, y) → ∃ m : MapEntry, ms[j]? = some m ∧ m.born = n ∧ isTuple x = false ∧ isTuple y = false ∧ V K w x m.key ∧ V K w y m.val
theorem EntRel.cons {p : Nat × HV × HV} {es : List (Nat × HV × HV)} {ms : List MapEntry} (h : EntRel K w (p :: es) ms) : ∃ m ms', ms = m :: ms' ∧ m.born = p.1 ∧ V K w p.2.1 m.key ∧ V K w p.2.2 m.val ∧ EntRel K w es ms' := by
  obtain ⟨h1, h2⟩ := h
  cases ms with
  | nil => simp at h1
  | cons m ms =>
    obtain ⟨m', h3, h4, _, _, h5, h6⟩ := h2 0 p.1 p.2.1 p.2.2 rfl
    simp at h3
    subst h3
    exact ⟨m, ms, rfl, h4, h5, h6, by simpa using h1, fun j n x y hj => by simpa using h2 (j + 1) n x y (by simpa using hj)⟩
def found (ms : List MapEntry) (i : Nat) : Option Nat → Option (Nat × Value)
  | none => none
  | some j => (ms[j]?).map fun m => (i + j, m.val)
theorem mfind_cons {kd : EqK} {x : HV} {p : Nat × HV × HV} {es : List (Nat × HV × HV)} {r : Option Nat} (h : mfind kd x (p :: es) = some r) : (keq kd x p.2.1 = some true ∧ r = some 0) ∨ (keq kd x p.2.1 = some false ∧ ∃ r', mfind kd x es = some r' ∧ r = r'.map (· + 1)) := by
  obtain ⟨n, kx, vx⟩ := p
  simp only [mfind] at h
  split at h
  · rename_i hq; injection h with h; exact .inl ⟨hq, h.symm⟩
  · rename_i hq
    obtain ⟨r', h1, h2⟩ := Option.map_eq_some_iff.1 h
    exact .inr ⟨hq, r', h1, h2.symm⟩
  · cases h
theorem found_succ {m : MapEntry} {ms : List MapEntry} {i : Nat} : ∀ (r : Option Nat), found (m :: ms) i (r.map (· + 1)) = found ms (i + 1) r
  | none => rfl
  | some j => by
    simp only [found, Option.map_some, List.getElem?_cons_succ]
    congr 1
    funext m
    simp
    omega
theorem run_find {t : TypeId} {kd : EqK} (ht : eqKind P t = some kd) {x : HV} {u : Value} (hx : V K w x u) (hself : keq kd x x = some true) {es : List (Nat × HV × HV)} {ms : List MapEntry} {r : Option Nat} (hr : EntRel K w es ms) (h : mfind kd x es = some r) : (Instr.findKey t u ms).run P w = .ok (found ms 0 r) w := by
  rcases keq_sc ht hself with ⟨k, h1, h2⟩ | ⟨ks, cs, ds, rfl, rfl, hd, h2⟩
  · obtain ⟨_, ⟨d, hu, _⟩, _⟩ := sc_run h1 hx hx h2
    refine MapKept.run_findKey hu ?_
    generalize 0 = i
    induction es generalizing ms r i with
    | nil =>
      simp [mfind] at h
      subst h
      have : ms = [] := List.eq_nil_of_length_eq_zero hr.1
      subst this
      rfl
    | cons p es ih =>
      obtain ⟨m, ms, rfl, _, hk, hv, hr'⟩ := hr.cons
      have hsc : ∀ b, keq kd x p.2.1 = some b → Instr.sameNow d u m.key = some b := by
        intro b hb
        rcases keq_sc ht hb with ⟨k', g1, g2⟩ | ⟨ks, cs, ds, rfl, rfl, _, _⟩
        · obtain ⟨_, ⟨d', g3, g4⟩, _⟩ := sc_run g1 hx hk g2
          rw [hu] at g3
          injection g3 with g3
          subst g3
          exact g4
        · exfalso
          cases k <;> simp [Sc.eq] at h2
      rcases mfind_cons h with ⟨g1, rfl⟩ | ⟨g1, r', g2, rfl⟩
      · simp only [Instr.findNow, hsc _ g1, found]
        simp
      · simp only [Instr.findNow, hsc _ g1]
        rw [ih hr' g2, found_succ]
  · injection hd with hd
    subst hd
    cases hx with
    | agg _ us hn _ hv =>
    have hnow : ∀ (d : TypeDesc) (z : Value), Instr.sameNow d (.agg us.toArray) z = none := fun d z => by cases d <;> rfl
    have hask : ∀ (es : List (Nat × HV × HV)) (ms : List MapEntry) (r : Option Nat) (i : Nat), EntRel K w es ms → mfind (.agg ks) (.agg cs) es = some r → (Instr.findAsking t (.agg us.toArray) ms i).run P w = .ok (found ms i r) w := by
      intro es
      induction es with
      | nil =>
        intro ms r i hr h
        simp [mfind] at h
        subst h
        have : ms = [] := List.eq_nil_of_length_eq_zero hr.1
        subst this
        rfl
      | cons p es ih =>
        intro ms r i hr h
        obtain ⟨m, ms, rfl, _, hk, hv', hr'⟩ := hr.cons
        have heq : ∀ b, keq (.agg ks) (.agg cs) p.2.1 = some b → (Op.equal t (.agg us.toArray) m.key).run P w = .ok b w := by
          intro b hb
          rcases keq_cases hb with (⟨e1, _⟩ | ⟨e1, _⟩ | ⟨e1, _⟩) | ⟨ks', cs', ds', e1, e2, e3, e4⟩
          · cases e1
          · cases e1
          · cases e1
          · injection e1 with e1
            injection e2 with e2
            subst e1; subst e2
            rw [e3] at hk
            generalize hmk : m.key = mk at hk
            cases hk with
            | agg _ vs hn' _ hv2 => exact agg_run ht (Cells.ofAgg hn hv) (Cells.ofAgg hn' hv2) e4 9998
        rcases mfind_cons h with ⟨g1, rfl⟩ | ⟨g1, r', g2, rfl⟩
        · simp only [Instr.findAsking, Sem.run_bind, heq _ g1, Result.andThen_ok, if_true, Sem.run_pure, found]
          simp
        · simp only [Instr.findAsking, Sem.run_bind, heq _ g1, Result.andThen_ok, Bool.false_eq_true, if_false]
          rw [ih ms r' (i + 1) hr' g2, found_succ]
    obtain ⟨d, hu⟩ : ∃ d, P.underlying t = some d := by
      rcases eqKind_agg ht with ⟨fs, hu, _⟩ | ⟨n, e, k, hu, _⟩ <;> exact ⟨_, hu⟩
    have e0 : Instr.findNow d (.agg us.toArray) ms 0 = none ∨ (ms = [] ∧ Instr.findNow d (.agg us.toArray) ms 0 = some none) := by
      cases ms with
      | nil => exact .inr ⟨rfl, rfl⟩
      | cons m ms => exact .inl (by simp [Instr.findNow, hnow])
    rcases e0 with e0 | ⟨rfl, e0⟩
    · simp only [Instr.findKey, Sem.run_bind, run_underlying hu, Result.andThen_ok, e0]
      exact hask es ms r 0 hr h
    · simp only [Instr.findKey, Sem.run_bind, run_underlying hu, Result.andThen_ok, e0, Sem.run_pure]
      have : es = [] := List.eq_nil_of_length_eq_zero hr.1.symm
      subst this
      simp [mfind] at h
      subst h
      rfl
end Go.Hw
