/- A region whose order is drawn. -/
import Derived.Test.YthikpbaphpdpfaaHwSwap
set_option linter.unusedVariables false
set_option linter.unusedSimpArgs false
namespace Go.Hw
open Go

variable {P : Program}

theorem cOps_from {ann : Ann} {N id : Nat} {ops : Array Oper} {draw : Bool} : ∀ {rest : List Oper} {i r : Nat} {l : List Op} {r' : Nat}, (∀ j, rest[j]? = ops[i + j]?) → cOps P ann N id ops draw rest i r = some (l, r') → AllFor P N ops (List.range' i rest.length) l
  | [], i, r, l, r', _, h => by
    simp [cOps] at h
    obtain ⟨rfl, _⟩ := h
    trivial
  | o :: rest, i, r, l, r', hi, h => by
    simp only [cOps, Option.bind_eq_bind] at h
    have h1 : ∀ {r m} (oc : Option OC), cOp P r m o = oc → ∃ r m, cOp P r m o = some (oc.getD (.op .bad)) ∨ oc.getD (.op .bad) = .op .bad := by
      intro r m oc hoc
      cases oc with
      | none => exact ⟨r, m, .inr rfl⟩
      | some z => exact ⟨r, m, .inl hoc⟩
    obtain ⟨r0, m0, h1⟩ := h1 _ rfl
    obtain ⟨g, h2, h⟩ := bind_some h
    obtain ⟨⟨l', r''⟩, h3, h⟩ := bind_some h
    split at h
    · cases h
    · rename_i hd
      simp only [Option.some.injEq, Prod.mk.injEq] at h
      obtain ⟨rfl, rfl⟩ := h
      have h0 : ops[i]? = some o := by simpa using (hi 0).symm
      refine ⟨⟨o, r0, m0, h0, h1, rfl, h2, fun d hdd => ?_⟩, cOps_from (fun j => by have := hi (j + 1); simpa [Nat.add_assoc, Nat.add_comm 1 j] using this) h3⟩
      rw [hdd] at hd
      simpa using hd
theorem cOps_all {ann : Ann} {N id : Nat} {ops : Array Oper} {draw : Bool} {l : List Op} {r : Nat} (h : cOps P ann N id ops draw ops.toList 0 0 = some (l, r)) : AllFor P N ops (List.range ops.size) l := by
  have := cOps_from (P := P) (rest := ops.toList) (i := 0) (fun j => by simp) h
  rwa [Array.length_toList, ← List.range_eq_range'] at this
theorem allFor_get {N : Nat} {ops : Array Oper} : ∀ {is : List Nat} {ls : List Op}, AllFor P N ops is ls → is.length = ls.length ∧ ∀ (j i : Nat) (x : Op), is[j]? = some i → ls[j]? = some x → OpFor P N ops i x
  | [], [], _ => ⟨rfl, fun j i x h => by simp at h⟩
  | i :: is, l :: ls, ⟨h1, h2⟩ => by
    obtain ⟨h3, h4⟩ := allFor_get h2
    refine ⟨by simp [h3], fun j a x ha hx => ?_⟩
    cases j with
    | zero => simp at ha hx; subst ha; subst hx; exact h1
    | succ j => simp at ha hx; exact h4 j a x ha hx
  | [], _ :: _, h => h.elim
  | _ :: _, [], h => h.elim
theorem allFor_of {N : Nat} {ops : Array Oper} : ∀ {is : List Nat} {ls : List Op}, is.length = ls.length → (∀ (j i : Nat) (x : Op), is[j]? = some i → ls[j]? = some x → OpFor P N ops i x) → AllFor P N ops is ls
  | [], [], _, _ => trivial
  | i :: is, l :: ls, hl, h => ⟨h 0 i l rfl rfl, allFor_of (by simpa using hl) fun j a x ha hx => h (j + 1) a x (by simpa using ha) (by simpa using hx)⟩
  | [], _ :: _, h, _ => by simp at h
  | _ :: _, [], h, _ => by simp at h

/-! ### 1. the drawn order -/
/-- What stands ahead of an operation, by its edges; the list is backwards. -/
def VR (ops : Array Oper) : List Nat → Prop
  | [] => True
  | p :: acc => (p < ops.size ∧ p ∉ acc ∧ ∀ o, ops[p]? = some o → ∀ ed ∈ o.after, Region.binds .any ed = true → ed.on ∈ acc) ∧ VR ops acc
theorem VR.tail {ops : Array Oper} : ∀ {x y : List Nat}, VR ops (x ++ y) → VR ops y
  | [], _, h => h
  | _ :: x, y, h => VR.tail (x := x) h.2
theorem VR.nodup {ops : Array Oper} : ∀ {l : List Nat}, VR ops l → l.Nodup ∧ ∀ i ∈ l, i < ops.size
  | [], _ => ⟨List.nodup_nil, by simp⟩
  | p :: acc, h => by
    obtain ⟨h1, h2⟩ := VR.nodup h.2
    exact ⟨List.nodup_cons.2 ⟨h.1.2.1, h1⟩, fun i hi => by simp at hi; rcases hi with rfl | hi; exact h.1.1; exact h2 i hi⟩
theorem pigeon : ∀ (n : Nat) (l : List Nat), l.Nodup → (∀ i ∈ l, i < n) → l.length ≤ n
  | 0, l, _, h => by
    cases l with
    | nil => simp
    | cons a r => exact absurd (h a (by simp)) (by omega)
  | n + 1, l, hn, h => by
    have h1 := pigeon n (l.erase n) (hn.erase n) (fun i hi => by
      have h2 := h i (List.mem_of_mem_erase hi)
      have h3 : i ≠ n := fun e => by subst e; exact (List.Nodup.not_mem_erase hn) hi
      omega)
    by_cases hm : n ∈ l
    · rw [List.length_erase_of_mem hm] at h1; omega
    · rw [List.erase_of_not_mem hm] at h1; omega
theorem VR.all {ops : Array Oper} {l : List Nat} (h : VR ops l) (hl : ops.size ≤ l.length) : ∀ i, i < ops.size → i ∈ l := by
  intro i hi
  refine Classical.byContradiction fun hm => ?_
  obtain ⟨h1, h2⟩ := h.nodup
  have := pigeon ops.size (i :: l) (List.nodup_cons.2 ⟨hm, h1⟩) (fun j hj => by simp at hj; rcases hj with rfl | hj; exact hi; exact h2 j hj)
  simp at this
  omega

theorem lin_go {ops : Array Oper} (hb : ∀ j o, ops[j]? = some o → ∀ ed ∈ o.after, Region.binds .any ed = true → ed.on < j) : ∀ (fuel t : Nat) (listed : Array Bool) (acc : List Nat), listed.size = ops.size → (∀ i, i < ops.size → (listed[i]? = some true ↔ i ∈ acc)) → VR ops acc → ops.size ≤ fuel + acc.length →
    ∃ acc', Region.linearise.go .any ops fuel t listed acc = acc'.reverse ∧ VR ops acc' ∧ ∀ i, i < ops.size → i ∈ acc'
  | 0, t, listed, acc, hsz, hl, hv, hf => ⟨acc, rfl, hv, hv.all (by omega)⟩
  | fuel + 1, t, listed, acc, hsz, hl, hv, hf => by
    simp only [Region.linearise.go]
    generalize hrs : (List.range ops.size).filter (fun i => !listed.getD i true && ((ops[i]?).map (·.after.all fun e => !Region.binds .any e || listed.getD e.on false)).getD false) = rs
    have hun : ∀ i, i < ops.size → (listed.getD i true = true ↔ i ∈ acc) := fun i hi => by
      rw [← hl i hi, Array.getD_eq_getD_getElem?]
      have hlt : i < listed.size := by omega
      simp [hlt]
    have hget : ∀ i, listed.getD i false = true → i ∈ acc := fun i hi => by
      rw [Array.getD_eq_getD_getElem?] at hi
      cases hx : listed[i]? with
      | none => simp [hx] at hi
      | some b =>
        simp [hx] at hi
        subst hi
        have hlt : i < listed.size := by
          rcases Nat.lt_or_ge i listed.size with h | h
          · exact h
          · rw [Array.getElem?_eq_none h] at hx; cases hx
        exact (hl i (by omega)).1 hx
    cases hp : rs[t % rs.length]? with
    | none =>
      have hnil : rs = [] := by
        cases rs with
        | nil => rfl
        | cons a r =>
          have : t % (a :: r).length < (a :: r).length := Nat.mod_lt _ (by simp)
          rw [List.getElem?_eq_getElem this] at hp
          cases hp
      refine ⟨acc, rfl, hv, ?_⟩
      intro i
      induction i using Nat.strongRecOn with
      | _ i ih =>
        intro hi
        refine Classical.byContradiction fun hm => ?_
        have hmem : i ∈ rs := by
          rw [← hrs, List.mem_filter]
          refine ⟨List.mem_range.2 hi, ?_⟩
          have h1 : listed.getD i true = false := by
            cases hq : listed.getD i true with
            | false => rfl
            | true => exact absurd ((hun i hi).1 hq) hm
          have h2 : ops[i]? = some ops[i] := by simp [hi]
          simp only [h1, h2, Option.map_some, Option.getD_some, Bool.not_false, Bool.true_and]
          rw [Array.all_eq_true']
          intro ed hed
          cases hbd : Region.binds .any ed with
          | false => rfl
          | true =>
            have hlt := hb i _ h2 ed hed hbd
            have h3 := ih ed.on hlt (by omega)
            have h4 := (hl ed.on (by omega)).2 h3
            simp [Array.getD_eq_getD_getElem?, h4]
        rw [hnil] at hmem
        simp at hmem
    | some p =>
      have hmem : p ∈ rs := List.mem_of_getElem? hp
      rw [← hrs, List.mem_filter] at hmem
      obtain ⟨h1, h2⟩ := hmem
      have hps := List.mem_range.1 h1
      simp only [Bool.and_eq_true, Bool.not_eq_true'] at h2
      obtain ⟨h2, h3⟩ := h2
      have hpm : p ∉ acc := fun h => by rw [(hun p hps).2 h] at h2; cases h2
      dsimp only
      refine lin_go hb fuel (t / rs.length) (listed.setIfInBounds p true) (p :: acc) (by simp [hsz]) (fun i hi => ?_) ⟨⟨hps, hpm, fun o ho ed hed hbd => ?_⟩, hv⟩ (by simp; omega)
      · rw [Array.getElem?_setIfInBounds]
        by_cases hip : p = i
        · subst hip; simp [hsz, hi]
        · rw [if_neg hip, hl i hi]
          simp [Ne.symm hip]
      · rw [ho] at h3
        simp only [Option.map_some, Option.getD_some, Array.all_eq_true'] at h3
        have := h3 ed hed
        rw [hbd] at this
        exact hget _ (by simpa using this)

/-! ### 2. what must stand ahead -/
def Bits (ops : Array Oper) (acc : Array Nat) : Prop := ∀ j i, (acc.getD j 0).testBit i = true → ∃ o, ops[j]? = some o ∧ ∃ ed ∈ o.after, Region.binds .any ed = true ∧ (i = ed.on ∨ (ed.on < j ∧ (acc.getD ed.on 0).testBit i = true))
theorem fold_bits {acc : Array Nat} {i : Nat} : ∀ (l : List Edge) (s : Nat), (l.foldl (fun s e => if Region.binds .any e then s ||| 2 ^ e.on ||| acc.getD e.on 0 else s) s).testBit i = true → s.testBit i = true ∨ ∃ ed ∈ l, Region.binds .any ed = true ∧ (i = ed.on ∨ (acc.getD ed.on 0).testBit i = true)
  | [], s, h => .inl h
  | e :: l, s, h => by
    rw [List.foldl_cons] at h
    rcases fold_bits l _ h with h1 | ⟨ed, h2, h3⟩
    · split at h1
      · rename_i hbd
        rw [Nat.testBit_or, Nat.testBit_or] at h1
        simp only [Bool.or_eq_true] at h1
        rcases h1 with (h1 | h1) | h1
        · exact .inl h1
        · refine .inr ⟨e, by simp, hbd, .inl ?_⟩
          rw [Nat.testBit_two_pow] at h1
          exact (of_decide_eq_true h1).symm
        · exact .inr ⟨e, by simp, hbd, .inr h1⟩
      · exact .inl h1
    · exact .inr ⟨ed, by simp [h2], h3⟩
theorem before_bits (ops : Array Oper) : Bits ops (Region.before ops) := by
  have key : ∀ (l : List Oper) (acc : Array Nat), (∀ j, l[j]? = ops[acc.size + j]?) → Bits ops acc → Bits ops (l.foldl (fun acc o => acc.push (o.after.foldl (fun s e => if Region.binds .any e then s ||| 2 ^ e.on ||| acc.getD e.on 0 else s) 0)) acc) := by
    intro l
    induction l with
    | nil => intro acc _ h; exact h
    | cons o l ih =>
      intro acc hl h
      rw [List.foldl_cons]
      refine ih _ (fun j => ?_) ?_
      · have := hl (j + 1)
        simpa [Nat.add_assoc, Nat.add_comm 1 j] using this
      · intro j i hji
        have hgd : ∀ q, q < acc.size → ∀ x, (acc.push x).getD q 0 = acc.getD q 0 := fun q hq x => by
          simp only [Array.getD_eq_getD_getElem?, Array.getElem?_push]
          rw [if_neg (by omega)]
        have hz : ∀ q, acc.size ≤ q → acc.getD q 0 = 0 := fun q hq => by
          simp [Array.getD_eq_getD_getElem?, hq]
        rcases Nat.lt_trichotomy j acc.size with hj | hj | hj
        · rw [hgd j hj] at hji
          obtain ⟨o', h1, ed, h2, h3, h4⟩ := h j i hji
          refine ⟨o', h1, ed, h2, h3, h4.imp id fun h5 => ⟨h5.1, ?_⟩⟩
          rw [hgd _ (by omega)]
          exact h5.2
        · subst hj
          rw [Array.getD_eq_getD_getElem?, Array.getElem?_push] at hji
          simp only [if_true, Option.getD_some] at hji
          rw [← Array.foldl_toList] at hji
          rcases fold_bits _ _ hji with h1 | ⟨ed, h2, h3, h4⟩
          · simp at h1
          · refine ⟨o, by simpa using (hl 0).symm, ed, by simpa using h2, h3, h4.imp id fun h5 => ?_⟩
            have hlt : ed.on < acc.size := by
              rcases Nat.lt_or_ge ed.on acc.size with h | h
              · exact h
              · rw [hz _ h] at h5; simp at h5
            exact ⟨hlt, by rw [hgd _ hlt]; exact h5⟩
        · rw [Array.getD_eq_getD_getElem?, Array.getElem?_push, if_neg (by omega)] at hji
          simp [show acc.size ≤ j by omega] at hji
  unfold Region.before
  rw [← Array.foldl_toList]
  exact key ops.toList #[] (fun j => by simp) (fun j i h => by simp at h)
theorem VR.before {ops : Array Oper} : ∀ (p : Nat) {acc : List Nat} {i : Nat}, VR ops (p :: acc) → ((Region.before ops).getD p 0).testBit i = true → i ∈ acc := by
  intro p
  induction p using Nat.strongRecOn with
  | _ p ih =>
    intro acc i hv hb
    obtain ⟨o, h1, ed, h2, h3, h4⟩ := before_bits ops p i hb
    have h5 := hv.1.2.2 o h1 ed h2 h3
    rcases h4 with rfl | ⟨h6, h7⟩
    · exact h5
    · obtain ⟨x, y, rfl⟩ := List.append_of_mem h5
      have := ih ed.on h6 (VR.tail hv.2) h7
      simp [this]

/-! ### 3. the region -/
theorem quiets_le (acts : List FuncId) : ∀ (l : List Op), quiets acts l ≤ l.length
  | [] => Nat.le_refl _
  | o :: r => by
    simp only [quiets]
    have := quiets_le acts r
    split <;> simp <;> omega
theorem quiets_take (acts : List FuncId) : ∀ (l : List Op), ∀ o ∈ l.take (quiets acts l), isAct acts o.o = false
  | [], o, h => by simp [quiets] at h
  | a :: r, o, h => by
    simp only [quiets] at h
    split at h
    · simp at h
    · rename_i hn
      rw [List.take_succ_cons, List.mem_cons] at h
      rcases h with rfl | h
      · simpa using hn
      · exact quiets_take acts r o h
theorem quiet_of {acts : List FuncId} {o : Op} (h1 : isAct acts o.o = false) (h2 : placedB o.o = true) : quiet o.o := by
  cases ho : o.o with
  | call f xs => trivial
  | callv f xs => trivial
  | op x =>
    rw [ho] at h1 h2
    refine ⟨?_, fun b a c e1 => ?_, fun a e1 => ?_⟩
    · cases x <;> first | trivial | exact h2
    · subst e1; simp [isAct] at h1
    · subst e1; simp [isAct] at h1
theorem DCalls.sub {f : FuncId} {args : List HV} {h : Heap} {R : HV → Heap → Prop} (hd : DCalls P f args h R) : HCalls P f args h R := by
  obtain ⟨r, hp, hr⟩ := hd
  exact hp.use hr

section
variable {N : Nat} {ops : Array Oper} {l : List Op} {q base : Nat} {Q : Env → Heap → Prop} {Q' : Exit → Act → World → Prop}
def opAt (l : List Op) (i : Nat) : Op := l.getD i default
def rem (q : Nat) (acc : List Nat) : List Nat := (List.range q).filter fun i => !acc.contains i
theorem mem_rem {q : Nat} {acc : List Nat} {i : Nat} : i ∈ rem q acc ↔ i < q ∧ i ∉ acc := by simp [rem]
theorem rem_sorted (q : Nat) (acc : List Nat) : (rem q acc).Pairwise (· < ·) := List.Pairwise.filter _ List.pairwise_lt_range
theorem rem_cons {q p : Nat} {acc a1 a2 : List Nat} (h : rem q acc = a1 ++ p :: a2) : rem q (p :: acc) = a1 ++ a2 := by
  have h1 : rem q (p :: acc) = (rem q acc).filter (fun i => i != p) := by
    simp only [rem, List.filter_filter]
    apply List.filter_congr
    intro i _
    simp only [List.contains_cons, Bool.not_or]
    rw [show (i != p) = !(i == p) from rfl]
  have hs := rem_sorted q acc
  rw [h] at hs
  rw [h1, h, List.filter_append, List.filter_cons]
  rw [List.pairwise_append] at hs
  obtain ⟨_, hs2, hs3⟩ := hs
  have hs4 := (List.pairwise_cons.1 hs2).1
  have e1 : a1.filter (fun i => i != p) = a1 := List.filter_eq_self.2 fun i hi => by
    have := hs3 i hi p (by simp)
    simp; omega
  have e2 : a2.filter (fun i => i != p) = a2 := List.filter_eq_self.2 fun i hi => by
    have := hs4 i hi
    simp; omega
  rw [e1, e2]
  simp

theorem tail_order (hpairs : ∀ i j, i < j → j < ops.size → ((Region.before ops).getD j 0).testBit i = true ∨ j < q) : ∀ (s acc : List Nat) (m : Nat), q ≤ m → m ≤ ops.size → VR ops (s.reverse ++ acc) → (∀ i, i < ops.size → i ∈ s.reverse ++ acc) → (∀ i, i ∈ acc ↔ i < m) → s = List.range' m (ops.size - m)
  | [], acc, m, hq, hm, hv, hc, ha => by
    have : ops.size ≤ m := by
      rcases Nat.lt_or_ge m ops.size with h | h
      · have := (ha m).1 (by simpa using hc m h); omega
      · exact h
    rw [show ops.size - m = 0 by omega]
    rfl
  | p :: s, acc, m, hq, hm, hv, hc, ha => by
    rw [List.reverse_cons, List.append_assoc, List.singleton_append] at hv hc
    have hp := VR.tail hv
    have h1 : p < ops.size := hp.1.1
    have h2 : ¬ p < m := fun h => hp.1.2.1 ((ha p).2 h)
    have h3 : p = m := by
      rcases Nat.lt_or_ge m p with h | h
      · rcases hpairs m p h h1 with h4 | h4
        · have := (ha m).1 (VR.before p hp h4); omega
        · omega
      · omega
    subst h3
    have := tail_order hpairs s (p :: acc) (p + 1) (by omega) (by omega) hv hc (fun i => by
      simp only [List.mem_cons, ha]
      omega)
    rw [this, show ops.size - p = (ops.size - (p + 1)) + 1 by omega, List.range'_succ]

theorem draw_main (hall : AllFor P N ops (List.range ops.size) l) (hlen : l.length = ops.size) (hq : q ≤ l.length) (hquiet : ∀ i, i < q → quiet (opAt l i).o)
    (hpairs : ∀ i j, i < j → j < ops.size → ((Region.before ops).getD j 0).testBit i = true ∨ (j < q ∧ canSwap (opAt l i) (opAt l j))) :
    ∀ (s acc : List Nat) (e : Env) (h : Heap) (K : GK) (w : World) (a : Act), VR ops (s.reverse ++ acc) → (∀ i, i < ops.size → i ∈ s.reverse ++ acc) → (∀ i ∈ acc, i < q) →
      hops (DCalls P) base ((rem q acc).map (opAt l)) e h (Upto fun e' h' => hops (HCalls P) 0 (l.drop q) e' h' Q) → Rel N K w e h a →
      (∀ K' w' e' h' a', Step K w K' w' → Rel N K' w' e' h' a' → Q e' h' → Q' .normal a' w') → wpOps P ops Q' s a w := by
  obtain ⟨_, hget⟩ := allFor_get hall
  have hop : ∀ i, i < ops.size → OpFor P N ops i (opAt l i) := fun i hi => by
    refine hget i i _ (by simp [hi]) ?_
    simp [opAt, List.getD_eq_getElem?_getD, show i < l.length by omega]
  intro s
  induction s with
  | nil =>
    intro acc e h K w a hv hc hacc hh hr hfin
    have hnil : rem q acc = [] := List.eq_nil_iff_forall_not_mem.2 fun i hi => by
      rw [mem_rem] at hi
      exact hi.2 (by simpa using hc i (by omega))
    rw [hnil] at hh
    obtain ⟨e', he, hq'⟩ := hh
    have hr' : Rel N K w e' h a := ⟨hr.heap, fun t x hx => hr.env t x (by rw [← he t]; exact hx), hr.size, hr.defers⟩
    have hord := tail_order (q := q) (fun i j h1 h2 => (hpairs i j h1 h2).imp id (·.1)) [] acc q (Nat.le_refl _) (by omega) hv hc (fun i => ⟨hacc i, fun hi => by simpa using hc i (by omega)⟩)
    have h0 : ops.size - q = 0 := by
      have := congrArg List.length hord
      simp at this
      omega
    have hdrop : l.drop q = [] := by rw [List.drop_eq_nil_iff]; omega
    rw [hdrop] at hq'
    exact hfin K w e' h a (.refl K w) hr' hq'
  | cons p s ih =>
    intro acc e h K w a hv hc hacc hh hr hfin
    have hv' := hv
    have hc' := hc
    rw [List.reverse_cons, List.append_assoc, List.singleton_append] at hv' hc'
    have hp := VR.tail hv'
    have hps : p < ops.size := hp.1.1
    by_cases hpq : p < q
    · have hpm : p ∈ rem q acc := mem_rem.2 ⟨hpq, hp.1.2.1⟩
      obtain ⟨a1, a2, hsp⟩ := List.append_of_mem hpm
      rw [hsp, List.map_append, List.map_cons] at hh
      have hmemq : ∀ i ∈ a1 ++ p :: a2, i < q := fun i hi => (mem_rem.1 (hsp ▸ hi)).1
      have hsort := rem_sorted q acc
      rw [hsp, List.pairwise_append] at hsort
      have hfr := hops_front (fun o ho => by
          rw [← List.map_cons, ← List.map_append] at ho
          obtain ⟨i, hi, rfl⟩ := List.mem_map.1 ho
          exact hquiet i (hmemq i hi)) (fun x hx => by
          obtain ⟨i, hi, rfl⟩ := List.mem_map.1 hx
          rcases hpairs i p (hsort.2.2 i hi p (by simp)) hps with h1 | h1
          · have := VR.before p hp h1
            have h2 : i ∈ rem q acc := by rw [hsp]; simp [hi]
            exact absurd this (mem_rem.1 h2).2
          · exact h1.2) hh
      have hone : hops (DCalls P) base [opAt l p] e h (fun e' h' => hops (DCalls P) base ((a1 ++ a2).map (opAt l)) e' h' (Upto fun e' h' => hops (HCalls P) 0 (l.drop q) e' h' Q)) := by
        rw [hops_cons] at hfr ⊢
        obtain ⟨v, d, h1, h2, h3, h4⟩ := op_dat (hquiet p hpq) hfr
        refine h4 e h _ (fun t _ => rfl) h2 ?_
        show hops (DCalls P) base ((a1 ++ a2).map (opAt l)) _ _ _
        rw [List.map_append]
        refine hops_mono (Q := Upto (Upto fun e' h' => hops (HCalls P) 0 (l.drop q) e' h' Q)) (fun o ho => ?_) (fun _ _ hx => Upto.idem hx) h3
        rw [← List.map_append] at ho
        obtain ⟨i, hi, rfl⟩ := List.mem_map.1 ho
        exact hquiet i (hmemq i (by simp at hi ⊢; rcases hi with h | h <;> simp [h]))
      have := hops_sound (P := P) (N := N) (ops := ops) (base := base) (S := DCalls P) (Q' := Q') (js := s) (fun _ _ _ _ h => DCalls.sub h) [p] [opAt l p] ⟨hop p hps, trivial⟩ e h K w a hone hr (fun K' w' e' h' a' st hr' hq' => by
        refine ih (p :: acc) e' h' K' w' a' hv' hc' (fun i hi => by simp at hi; rcases hi with rfl | hi; exact hpq; exact hacc i hi) ?_ hr' (fun K2 w2 e2 h2 a2 s2 r2 q2 => hfin K2 w2 e2 h2 a2 (st.trans s2) r2 q2)
        rw [rem_cons hsp]
        exact hq')
      exact this
    · have hlow : ∀ i, i < q → i ∈ acc := fun i hi => by
        rcases hpairs i p (by omega) hps with h1 | h1
        · exact VR.before p hp h1
        · exact absurd h1.1 hpq
      have hnil : rem q acc = [] := List.eq_nil_iff_forall_not_mem.2 fun i hi => by
        rw [mem_rem] at hi
        exact hi.2 (hlow i hi.1)
      rw [hnil] at hh
      obtain ⟨e', he, hq'⟩ := hh
      have hr' : Rel N K w e' h a := ⟨hr.heap, fun t x hx => hr.env t x (by rw [← he t]; exact hx), hr.size, hr.defers⟩
      have hord := tail_order (q := q) (fun i j h1 h2 => (hpairs i j h1 h2).imp id (·.1)) (p :: s) acc q (Nat.le_refl _) (by omega) hv hc (fun i => ⟨hacc i, hlow i⟩)
      rw [hord]
      have htail : AllFor P N ops (List.range' q (ops.size - q)) (l.drop q) := allFor_of (by simp [hlen]) fun j i x hi hx => by
        rw [List.getElem?_drop] at hx
        have hj : j < ops.size - q := by
          have := List.getElem?_eq_some_iff.1 hi
          obtain ⟨h1, _⟩ := this
          simpa using h1
        rw [List.getElem?_range' hj] at hi
        simp at hi
        subst hi
        exact hget (q + j) (q + j) x (by rw [List.getElem?_range (by omega)]) hx
      have := hops_sound (P := P) (N := N) (ops := ops) (base := 0) (S := HCalls P) (Q' := Q') (js := []) (fun _ _ _ _ h => h) _ _ htail e' h K w a hq' hr' (fun K' w' e2 h' a' st hr2 hq2 => hfin K' w' e2 h' a' st hr2 hq2)
      rwa [List.append_nil] at this
end

theorem places_rel {N : Nat} {K : GK} {w : World} {e : Env} {h : Heap} {a : Act} (r : Nat) (hr1 : Rel N K w e h a) : ∃ K1, Step K w K1 w ∧ Rel N K1 w e (h ++ List.replicate r .res) a := by
  refine ⟨K, .refl _ _, ⟨fun id b hid => ?_, fun i j b x y hi hj hx hy hl hl' => ?_, fun k => ?_, fun k b hk => ?_, hr1.heap.tinj, hr1.heap.limb⟩, hr1.env, hr1.size, hr1.defers⟩
  · obtain ⟨k1, o, k2, k3, k4⟩ := hr1.heap.obj id b hid
    exact ⟨k1, o, by rw [List.getElem?_append_left (get_lt k2)]; exact k2, k3, k4⟩
  · obtain ⟨_, o, k2, _⟩ := hr1.heap.obj i b hi
    obtain ⟨_, o', k2', _⟩ := hr1.heap.obj j b hj
    rw [List.getElem?_append_left (get_lt k2)] at hx
    rw [List.getElem?_append_left (get_lt k2')] at hy
    exact hr1.heap.inj i j b x y hi hj hx hy hl hl'
  · rw [hr1.heap.wm k]
    rcases Nat.lt_or_ge k h.length with hk | hk
    · rw [List.getElem?_append_left hk]
    · rw [List.getElem?_append_right hk, List.getElem?_eq_none hk]
      cases hz : (List.replicate r HObj.res)[k - h.length]? with
      | none => rfl
      | some z =>
        have := List.mem_of_getElem? hz
        rw [(List.mem_replicate.1 this).2]
  · obtain ⟨k1, ⟨n, k2⟩, k3, k4⟩ := hr1.heap.tok k b hk
    refine ⟨k1, ⟨n, by rw [List.getElem?_append_left (get_lt k2)]; exact k2⟩, fun id o hid ho => ?_, k4⟩
    obtain ⟨_, o', k5, _⟩ := hr1.heap.obj id b hid
    rw [List.getElem?_append_left (get_lt k5)] at ho
    exact k3 id o hid ho
theorem draw_sound {ann : Ann} {N id : Nat} {ops : Array Oper} {l : List Op} {r : Nat} (hmix : P.follows .mixedOrders = true) (hc : cOps P ann N id ops true ops.toList 0 0 = some (l, r)) (hok : drawOk ops l (quiets ann.acts l) = true) {Q : Env → Heap → Prop} {Q' : Exit → Act → World → Prop} {e : Env} {h : Heap} {K : GK} {w : World} {a : Act}
    (hq : hops (DCalls P) h.length (l.take (quiets ann.acts l)) e (h ++ List.replicate r .res) fun e' h' => hops (HCalls P) 0 (l.drop (quiets ann.acts l)) e' h' Q) (hr : Rel N K w e h a) (t : Nat)
    (hfin : ∀ K' w' e' h' a', Step K w K' w' → Rel N K' w' e' h' a' → Q e' h' → Q' .normal a' w') : wpOps P ops Q' (Region.schedule (P.follows .mixedOrders) ops t) a { w with drawn := w.drawn + 1 } := by
  generalize hqq : quiets ann.acts l = q at *
  have hql : q ≤ l.length := hqq ▸ quiets_le _ _
  simp only [drawOk, Bool.and_eq_true, decide_eq_true_eq, List.all_eq_true] at hok
  obtain ⟨⟨⟨hpl, hlen⟩, hed⟩, hpairs⟩ := hok
  have hsch : Region.schedule (P.follows .mixedOrders) ops t = Region.linearise .any ops t := by simp [Region.schedule, hmix]
  rw [hsch]
  have hb : ∀ j o, ops[j]? = some o → ∀ ed ∈ o.after, Region.binds .any ed = true → ed.on < j := by
    intro j o ho ed hd hbd
    have hj : j < ops.size := by
      rcases Nat.lt_or_ge j ops.size with h | h
      · exact h
      · rw [Array.getElem?_eq_none h] at ho; cases ho
    have := hed j (by simp; omega)
    rw [Array.getD_eq_getD_getElem?, ho, Option.getD_some, Array.all_eq_true'] at this
    have := this ed hd
    rw [hbd] at this
    simpa using this
  obtain ⟨acc, h1, h2, h3⟩ := lin_go hb ops.size t (Array.replicate ops.size false) [] (by simp) (fun i hi => by simp [hi]) trivial (by simp)
  have hlin : Region.linearise .any ops t = acc.reverse := h1
  rw [hlin]
  have st : Step K w K { w with drawn := w.drawn + 1 } := ⟨rfl, rfl, rfl, Nat.le_refl _, fun _ => Nat.le_refl _, fun _ => Nat.le_refl _, fun _ _ => ⟨rfl, fun _ _ => rfl⟩, fun _ _ h => h, fun _ _ _ _ h => h, fun _ _ h => h, fun _ _ h => h, fun _ _ _ => ⟨rfl, rfl⟩⟩
  have hr1 : Rel N K { w with drawn := w.drawn + 1 } e h a := by
    refine ⟨⟨fun id b hid => ?_, hr.heap.inj, hr.heap.wm, hr.heap.tok, hr.heap.tinj, hr.heap.limb⟩, hr.env.step st, hr.size, hr.defers⟩
    obtain ⟨k1, o, k2, k3, k4⟩ := hr.heap.obj id b hid
    exact ⟨k1, o, k2, k3.keep st rfl, k4⟩
  obtain ⟨K1, s1, r1⟩ := places_rel r hr1
  have hpairs' : ∀ i j, i < j → j < ops.size → ((Region.before ops).getD j 0).testBit i = true ∨ (j < q ∧ canSwap (opAt l i) (opAt l j)) := by
    intro i j hij hj
    have h1 := hpairs j (by simp; omega) i (by simpa using hij)
    simp only [Bool.or_eq_true, Bool.and_eq_true, decide_eq_true_eq] at h1
    rcases h1 with h1 | ⟨h1, h2⟩
    · exact .inl h1
    · refine .inr ⟨h1, ?_⟩
      have e1 : l[i]? = some (opAt l i) := by simp [opAt, List.getD_eq_getElem?_getD, show i < l.length by omega]
      have e2 : l[j]? = some (opAt l j) := by simp [opAt, List.getD_eq_getElem?_getD, show j < l.length by omega]
      rw [e1, e2] at h2
      simpa [canSwap] using h2
  have hquiet : ∀ i, i < q → quiet (opAt l i).o := by
    intro i hi
    have hm : opAt l i ∈ l.take q := by
      have : (l.take q)[i]? = some (opAt l i) := by
        rw [List.getElem?_take_of_lt hi]
        simp [opAt, List.getD_eq_getElem?_getD, show i < l.length by omega]
      exact List.mem_of_getElem? this
    exact quiet_of (acts := ann.acts) (quiets_take ann.acts l _ (by rw [hqq]; exact hm)) (hpl _ (List.mem_of_mem_take hm))
  have hpre : (rem q []).map (opAt l) = l.take q := by
    have : rem q [] = List.range q := by simp [rem]
    rw [this]
    apply List.ext_getElem?
    intro i
    rw [List.getElem?_map]
    rcases Nat.lt_or_ge i q with hi | hi
    · rw [List.getElem?_range hi, List.getElem?_take_of_lt hi]
      simp [opAt, List.getD_eq_getElem?_getD, show i < l.length by omega]
    · rw [List.getElem?_eq_none (by simpa using hi), List.getElem?_eq_none (by simp; omega)]
      rfl
  refine draw_main (q := q) (base := h.length) (cOps_all hc) hlen hql hquiet hpairs' acc.reverse [] e _ K1 _ a (by simpa using h2) (fun i hi => by simpa using h3 i hi) (by simp) ?_ r1 (fun K' w' e' h' a' s' r' q' => hfin K' w' e' h' a' (st.trans (s1.trans s')) r' q')
  rw [hpre]
  refine hops_mono (fun o ho => ?_) (fun e' h' hx => ⟨e', fun _ => rfl, hx⟩) hq
  exact quiet_of (acts := ann.acts) (quiets_take ann.acts l o (by rw [hqq]; exact ho)) (hpl _ (List.mem_of_mem_take ho))

theorem hops_all {N : Nat} {ops : Array Oper} {base : Nat} {S : CallP} (hS : ∀ f args h R, S f args h R → HCalls P f args h R) {Q : Env → Heap → Prop} {Q' : Exit → Act → World → Prop} {is : List Nat} {ls : List Op} (hall : AllFor P N ops is ls) (e : Env) (h : Heap) (K : GK) (w : World) (a : Act) (hq : hops S base ls e h Q) (hr : Rel N K w e h a)
    (hfin : ∀ K' w' e' h' a', Step K w K' w' → Rel N K' w' e' h' a' → Q e' h' → Q' .normal a' w') : wpOps P ops Q' is a w := by
  have := hops_sound (Q' := Q') (js := []) hS is ls hall e h K w a hq hr hfin
  rwa [List.append_nil] at this
end Go.Hw
