import Derived.Test.YtcenjonbenlfkaaDoorHwF1
import Derived.RangeFuncNested
import Derived.RangeFuncLeaves
import Derived.ChangeSame
import Derived.ChangeReads
import Derived.RowKit
import Derived.WideKeyArgs
import Derived.OpenShut
set_option linter.unusedVariables false
set_option linter.unusedSimpArgs false
namespace Go.Hw
open Go

variable {P : Program}

theorem cOps_from {ann : Ann} {N id : Nat} {ops : Array Oper} {draw : Bool} : ∀ {rest : List Oper} {i r : Nat} {l : List Op} {r' : Nat}, (∀ j, rest[j]? = ops[i + j]?) → cOps P ann N id ops draw rest i r = some (l, r') → AllFor P N ops (List.range' i rest.length) l
  | [], i, r, l, r', _, h => by
    simp [cOps] at h
    obtain ⟨rfl, _⟩ := h
    trivial
  | o :: rest, i, r, l, r', hi, h => by
    simp only [cOps, Option.bind_eq_bind] at h
    have h1 : ∀ {r m} (oc : Option OC), cOp P r m o = oc → ∃ r m, cOp P r m o = some (oc.getD (.op .bad)) ∨ oc.getD (.op .bad) = .op .bad := by
      intro r m oc hoc
      cases oc with
      | none => exact ⟨r, m, .inr rfl⟩
      | some z => exact ⟨r, m, .inl hoc⟩
    obtain ⟨r0, m0, h1⟩ := h1 _ rfl
    obtain ⟨g, h2, h⟩ := bind_some h
    obtain ⟨⟨l', r''⟩, h3, h⟩ := bind_some h
    split at h
    · cases h
    · rename_i hd
      simp only [Option.some.injEq, Prod.mk.injEq] at h
      obtain ⟨rfl, rfl⟩ := h
      have h0 : ops[i]? = some o := by simpa using (hi 0).symm
      refine ⟨⟨o, r0, m0, h0, h1, rfl, h2, fun d hdd => ?_⟩, cOps_from (fun j => by have := hi (j + 1); simpa [Nat.add_assoc, Nat.add_comm 1 j] using this) h3⟩
      rw [hdd] at hd
      simpa using hd
theorem cOps_all {ann : Ann} {N id : Nat} {ops : Array Oper} {draw : Bool} {l : List Op} {r : Nat} (h : cOps P ann N id ops draw ops.toList 0 0 = some (l, r)) : AllFor P N ops (List.range ops.size) l := by
  have := cOps_from (P := P) (rest := ops.toList) (i := 0) (fun j => by simp) h
  rwa [Array.length_toList, ← List.range_eq_range'] at this
theorem allFor_get {N : Nat} {ops : Array Oper} : ∀ {is : List Nat} {ls : List Op}, AllFor P N ops is ls → is.length = ls.length ∧ ∀ (j i : Nat) (x : Op), is[j]? = some i → ls[j]? = some x → OpFor P N ops i x
  | [], [], _ => ⟨rfl, fun j i x h => by simp at h⟩
  | i :: is, l :: ls, ⟨h1, h2⟩ => by
    obtain ⟨h3, h4⟩ := allFor_get h2
    refine ⟨by simp [h3], fun j a x ha hx => ?_⟩
    cases j with
    | zero => simp at ha hx; subst ha; subst hx; exact h1
    | succ j => simp at ha hx; exact h4 j a x ha hx
  | [], _ :: _, h => h.elim
  | _ :: _, [], h => h.elim
theorem allFor_of {N : Nat} {ops : Array Oper} : ∀ {is : List Nat} {ls : List Op}, is.length = ls.length → (∀ (j i : Nat) (x : Op), is[j]? = some i → ls[j]? = some x → OpFor P N ops i x) → AllFor P N ops is ls
  | [], [], _, _ => trivial
  | i :: is, l :: ls, hl, h => ⟨h 0 i l rfl rfl, allFor_of (by simpa using hl) fun j a x ha hx => h (j + 1) a x (by simpa using ha) (by simpa using hx)⟩
  | [], _ :: _, h, _ => by simp at h
  | _ :: _, [], h, _ => by simp at h


def VR (ops : Array Oper) : List Nat → Prop
  | [] => True
  | p :: acc => (p < ops.size ∧ p ∉ acc ∧ ∀ o, ops[p]? = some o → ∀ ed ∈ o.after, Region.binds .any ed = true → ed.on ∈ acc) ∧ VR ops acc
theorem VR.tail {ops : Array Oper} : ∀ {x y : List Nat}, VR ops (x ++ y) → VR ops y
  | [], _, h => h
  | _ :: x, y, h => VR.tail (x := x) h.2
theorem VR.nodup {ops : Array Oper} : ∀ {l : List Nat}, VR ops l → l.Nodup ∧ ∀ i ∈ l, i < ops.size
  | [], _ => ⟨List.nodup_nil, by simp⟩
  | p :: acc, h => by
    obtain ⟨h1, h2⟩ := VR.nodup h.2
    exact ⟨List.nodup_cons.2 ⟨h.1.2.1, h1⟩, fun i hi => by simp at hi; rcases hi with rfl | hi; exact h.1.1; exact h2 i hi⟩
theorem pigeon : ∀ (n : Nat) (l : List Nat), l.Nodup → (∀ i ∈ l, i < n) → l.length ≤ n
  | 0, l, _, h => by
    cases l with
    | nil => simp
    | cons a r => exact absurd (h a (by simp)) (by omega)
  | n + 1, l, hn, h => by
    have h1 := pigeon n (l.erase n) (hn.erase n) (fun i hi => by
      have h2 := h i (List.mem_of_mem_erase hi)
      have h3 : i ≠ n := fun e => by subst e; exact (List.Nodup.not_mem_erase hn) hi
      omega)
    by_cases hm : n ∈ l
    · rw [List.length_erase_of_mem hm] at h1; omega
    · rw [List.erase_of_not_mem hm] at h1; omega
theorem VR.all {ops : Array Oper} {l : List Nat} (h : VR ops l) (hl : ops.size ≤ l.length) : ∀ i, i < ops.size → i ∈ l := by
  intro i hi
  refine Classical.byContradiction fun hm => ?_
  obtain ⟨h1, h2⟩ := h.nodup
  have := pigeon ops.size (i :: l) (List.nodup_cons.2 ⟨hm, h1⟩) (fun j hj => by simp at hj; rcases hj with rfl | hj; exact hi; exact h2 j hj)
  simp at this
  omega

theorem lin_go {ops : Array Oper} (hb : ∀ j o, ops[j]? = some o → ∀ ed ∈ o.after, Region.binds .any ed = true → ed.on < j) : ∀ (fuel t : Nat) (listed : Array Bool) (acc : List Nat), listed.size = ops.size → (∀ i, i < ops.size → (listed[i]? = some true ↔ i ∈ acc)) → VR ops acc → ops.size ≤ fuel + acc.length →
    ∃ acc', Region.linearise.go .any ops fuel t listed acc = acc'.reverse ∧ VR ops acc' ∧ ∀ i, i < ops.size → i ∈ acc'
  | 0, t, listed, acc, hsz, hl, hv, hf => ⟨acc, rfl, hv, hv.all (by omega)⟩
  | fuel + 1, t, listed, acc, hsz, hl, hv, hf => by
    simp only [Region.linearise.go]
    generalize hrs : (List.range ops.size).filter (fun i => !listed.getD i true && ((ops[i]?).map (·.after.all fun e => !Region.binds .any e || listed.getD e.on false)).getD false) = rs
    have hun : ∀ i, i < ops.size → (listed.getD i true = true ↔ i ∈ acc) := fun i hi => by
      rw [← hl i hi, Array.getD_eq_getD_getElem?]
      have hlt : i < listed.size := by omega
      simp [hlt]
    have hget : ∀ i, listed.getD i false = true → i ∈ acc := fun i hi => by
      rw [Array.getD_eq_getD_getElem?] at hi
      cases hx : listed[i]? with
      | none => simp [hx] at hi
      | some b =>
        simp [hx] at hi
        subst hi
        have hlt : i < listed.size := by
          rcases Nat.lt_or_ge i listed.size with h | h
          · exact h
          · rw [Array.getElem?_eq_none h] at hx; cases hx
        exact (hl i (by omega)).1 hx
    cases hp : rs[t % rs.length]? with
    | none =>
      have hnil : rs = [] := by
        cases rs with
        | nil => rfl
        | cons a r =>
          have : t % (a :: r).length < (a :: r).length := Nat.mod_lt _ (by simp)
          rw [List.getElem?_eq_getElem this] at hp
          cases hp
      refine ⟨acc, rfl, hv, ?_⟩
      intro i
      induction i using Nat.strongRecOn with
      | _ i ih =>
        intro hi
        refine Classical.byContradiction fun hm => ?_
        have hmem : i ∈ rs := by
          rw [← hrs, List.mem_filter]
          refine ⟨List.mem_range.2 hi, ?_⟩
          have h1 : listed.getD i true = false := by
            cases hq : listed.getD i true with
            | false => rfl
            | true => exact absurd ((hun i hi).1 hq) hm
          have h2 : ops[i]? = some ops[i] := by simp [hi]
          simp only [h1, h2, Option.map_some, Option.getD_some, Bool.not_false, Bool.true_and]
          rw [Array.all_eq_true']
          intro ed hed
          cases hbd : Region.binds .any ed with
          | false => rfl
          | true =>
            have hlt := hb i _ h2 ed hed hbd
            have h3 := ih ed.on hlt (by omega)
            have h4 := (hl ed.on (by omega)).2 h3
            simp [Array.getD_eq_getD_getElem?, h4]
        rw [hnil] at hmem
        simp at hmem
    | some p =>
      have hmem : p ∈ rs := List.mem_of_getElem? hp
      rw [← hrs, List.mem_filter] at hmem
      obtain ⟨h1, h2⟩ := hmem
      have hps := List.mem_range.1 h1
      simp only [Bool.and_eq_true, Bool.not_eq_true'] at h2
      obtain ⟨h2, h3⟩ := h2
      have hpm : p ∉ acc := fun h => by rw [(hun p hps).2 h] at h2; cases h2
      dsimp only
      refine lin_go hb fuel (t / rs.length) (listed.setIfInBounds p true) (p :: acc) (by simp [hsz]) (fun i hi => ?_) ⟨⟨hps, hpm, fun o ho ed hed hbd => ?_⟩, hv⟩ (by simp; omega)
      · rw [Array.getElem?_setIfInBounds]
        by_cases hip : p = i
        · subst hip; simp [hsz, hi]
        · rw [if_neg hip, hl i hi]
          simp [Ne.symm hip]
      · rw [ho] at h3
        simp only [Option.map_some, Option.getD_some, Array.all_eq_true'] at h3
        have := h3 ed hed
        rw [hbd] at this
        exact hget _ (by simpa using this)


def Bits (ops : Array Oper) (acc : Array Nat) : Prop := ∀ j i, (acc.getD j 0).testBit i = true → ∃ o, ops[j]? = some o ∧ ∃ ed ∈ o.after, Region.binds .any ed = true ∧ (i = ed.on ∨ (ed.on < j ∧ (acc.getD ed.on 0).testBit i = true))
theorem fold_bits {acc : Array Nat} {i : Nat} : ∀ (l : List Edge) (s : Nat), (l.foldl (fun s e => if Region.binds .any e then s ||| 2 ^ e.on ||| acc.getD e.on 0 else s) s).testBit i = true → s.testBit i = true ∨ ∃ ed ∈ l, Region.binds .any ed = true ∧ (i = ed.on ∨ (acc.getD ed.on 0).testBit i = true)
  | [], s, h => .inl h
  | e :: l, s, h => by
    rw [List.foldl_cons] at h
    rcases fold_bits l _ h with h1 | ⟨ed, h2, h3⟩
    · split at h1
      · rename_i hbd
        rw [Nat.testBit_or, Nat.testBit_or] at h1
        simp only [Bool.or_eq_true] at h1
        rcases h1 with (h1 | h1) | h1
        · exact .inl h1
        · refine .inr ⟨e, by simp, hbd, .inl ?_⟩
          rw [Nat.testBit_two_pow] at h1
          exact (of_decide_eq_true h1).symm
        · exact .inr ⟨e, by simp, hbd, .inr h1⟩
      · exact .inl h1
    · exact .inr ⟨ed, by simp [h2], h3⟩
theorem before_bits (ops : Array Oper) : Bits ops (Region.before ops) := by
  have key : ∀ (l : List Oper) (acc : Array Nat), (∀ j, l[j]? = ops[acc.size + j]?) → Bits ops acc → Bits ops (l.foldl (fun acc o => acc.push (o.after.foldl (fun s e => if Region.binds .any e then s ||| 2 ^ e.on ||| acc.getD e.on 0 else s) 0)) acc) := by
    intro l
    induction l with
    | nil => intro acc _ h; exact h
    | cons o l ih =>
      intro acc hl h
      rw [List.foldl_cons]
      refine ih _ (fun j => ?_) ?_
      · have := hl (j + 1)
        simpa [Nat.add_assoc, Nat.add_comm 1 j] using this
      · intro j i hji
        have hgd : ∀ q, q < acc.size → ∀ x, (acc.push x).getD q 0 = acc.getD q 0 := fun q hq x => by
          simp only [Array.getD_eq_getD_getElem?, Array.getElem?_push]
          rw [if_neg (by omega)]
        have hz : ∀ q, acc.size ≤ q → acc.getD q 0 = 0 := fun q hq => by
          simp [Array.getD_eq_getD_getElem?, hq]
        rcases Nat.lt_trichotomy j acc.size with hj | hj | hj
        · rw [hgd j hj] at hji
          obtain ⟨o', h1, ed, h2, h3, h4⟩ := h j i hji
          refine ⟨o', h1, ed, h2, h3, h4.imp id fun h5 => ⟨h5.1, ?_⟩⟩
          rw [hgd _ (by omega)]
          exact h5.2
        · subst hj
          rw [Array.getD_eq_getD_getElem?, Array.getElem?_push] at hji
          simp only [if_true, Option.getD_some] at hji
          rw [← Array.foldl_toList] at hji
          rcases fold_bits _ _ hji with h1 | ⟨ed, h2, h3, h4⟩
          · simp at h1
          · refine ⟨o, by simpa using (hl 0).symm, ed, by simpa using h2, h3, h4.imp id fun h5 => ?_⟩
            have hlt : ed.on < acc.size := by
              rcases Nat.lt_or_ge ed.on acc.size with h | h
              · exact h
              · rw [hz _ h] at h5; simp at h5
            exact ⟨hlt, by rw [hgd _ hlt]; exact h5⟩
        · rw [Array.getD_eq_getD_getElem?, Array.getElem?_push, if_neg (by omega)] at hji
          simp [show acc.size ≤ j by omega] at hji
  unfold Region.before
  rw [← Array.foldl_toList]
  exact key ops.toList #[] (fun j => by simp) (fun j i h => by simp at h)
theorem VR.before {ops : Array Oper} : ∀ (p : Nat) {acc : List Nat} {i : Nat}, VR ops (p :: acc) → ((Region.before ops).getD p 0).testBit i = true → i ∈ acc := by
  intro p
  induction p using Nat.strongRecOn with
  | _ p ih =>
    intro acc i hv hb
    obtain ⟨o, h1, ed, h2, h3, h4⟩ := before_bits ops p i hb
    have h5 := hv.1.2.2 o h1 ed h2 h3
    rcases h4 with rfl | ⟨h6, h7⟩
    · exact h5
    · obtain ⟨x, y, rfl⟩ := List.append_of_mem h5
      have := ih ed.on h6 (VR.tail hv.2) h7
      simp [this]


theorem quiets_le (acts : List FuncId) : ∀ (l : List Op), quiets acts l ≤ l.length
  | [] => Nat.le_refl _
  | o :: r => by
    simp only [quiets]
    have := quiets_le acts r
    split <;> simp <;> omega
theorem quiets_take (acts : List FuncId) : ∀ (l : List Op), ∀ o ∈ l.take (quiets acts l), isAct acts o.o = false
  | [], o, h => by simp [quiets] at h
  | a :: r, o, h => by
    simp only [quiets] at h
    split at h
    · simp at h
    · rename_i hn
      rw [List.take_succ_cons, List.mem_cons] at h
      rcases h with rfl | h
      · simpa using hn
      · exact quiets_take acts r o h
theorem quiet_of {acts : List FuncId} {o : Op} (h1 : isAct acts o.o = false) (h2 : placedB o.o = true) : quiet o.o := by
  cases ho : o.o with
  | call f xs => trivial
  | callv f xs => trivial
  | op x =>
    rw [ho] at h1 h2
    refine ⟨?_, fun b a c e1 => ?_, fun a e1 => ?_⟩
    · cases x <;> first | trivial | exact h2
    · subst e1; simp [isAct] at h1
    · subst e1; simp [isAct] at h1
theorem DCalls.sub {f : FuncId} {args : List HV} {h : Heap} {R : HV → Heap → Prop} (hd : DCalls P f args h R) : HCalls P f args h R := by
  obtain ⟨r, hp, hr⟩ := hd
  exact hp.use hr

section
variable {N : Nat} {ds : List Deferred} {ro : Option Nat} {ops : Array Oper} {l : List Op} {q base : Nat} {Q : Env → Heap → Prop} {Q' : Exit → Act → World → Prop}
def opAt (l : List Op) (i : Nat) : Op := l.getD i default
def rem (q : Nat) (acc : List Nat) : List Nat := (List.range q).filter fun i => !acc.contains i
theorem mem_rem {q : Nat} {acc : List Nat} {i : Nat} : i ∈ rem q acc ↔ i < q ∧ i ∉ acc := by simp [rem]
theorem rem_sorted (q : Nat) (acc : List Nat) : (rem q acc).Pairwise (· < ·) := List.Pairwise.filter _ List.pairwise_lt_range
theorem rem_cons {q p : Nat} {acc a1 a2 : List Nat} (h : rem q acc = a1 ++ p :: a2) : rem q (p :: acc) = a1 ++ a2 := by
  have h1 : rem q (p :: acc) = (rem q acc).filter (fun i => i != p) := by
    simp only [rem, List.filter_filter]
    apply List.filter_congr
    intro i _
    simp only [List.contains_cons, Bool.not_or]
    rw [show (i != p) = !(i == p) from rfl]
  have hs := rem_sorted q acc
  rw [h] at hs
  rw [h1, h, List.filter_append, List.filter_cons]
  rw [List.pairwise_append] at hs
  obtain ⟨_, hs2, hs3⟩ := hs
  have hs4 := (List.pairwise_cons.1 hs2).1
  have e1 : a1.filter (fun i => i != p) = a1 := List.filter_eq_self.2 fun i hi => by
    have := hs3 i hi p (by simp)
    simp; omega
  have e2 : a2.filter (fun i => i != p) = a2 := List.filter_eq_self.2 fun i hi => by
    have := hs4 i hi
    simp; omega
  rw [e1, e2]
  simp

theorem tail_order (hpairs : ∀ i j, i < j → j < ops.size → ((Region.before ops).getD j 0).testBit i = true ∨ j < q) : ∀ (s acc : List Nat) (m : Nat), q ≤ m → m ≤ ops.size → VR ops (s.reverse ++ acc) → (∀ i, i < ops.size → i ∈ s.reverse ++ acc) → (∀ i, i ∈ acc ↔ i < m) → s = List.range' m (ops.size - m)
  | [], acc, m, hq, hm, hv, hc, ha => by
    have : ops.size ≤ m := by
      rcases Nat.lt_or_ge m ops.size with h | h
      · have := (ha m).1 (by simpa using hc m h); omega
      · exact h
    rw [show ops.size - m = 0 by omega]
    rfl
  | p :: s, acc, m, hq, hm, hv, hc, ha => by
    rw [List.reverse_cons, List.append_assoc, List.singleton_append] at hv hc
    have hp := VR.tail hv
    have h1 : p < ops.size := hp.1.1
    have h2 : ¬ p < m := fun h => hp.1.2.1 ((ha p).2 h)
    have h3 : p = m := by
      rcases Nat.lt_or_ge m p with h | h
      · rcases hpairs m p h h1 with h4 | h4
        · have := (ha m).1 (VR.before p hp h4); omega
        · omega
      · omega
    subst h3
    have := tail_order hpairs s (p :: acc) (p + 1) (by omega) (by omega) hv hc (fun i => by
      simp only [List.mem_cons, ha]
      omega)
    rw [this, show ops.size - p = (ops.size - (p + 1)) + 1 by omega, List.range'_succ]

theorem draw_main (hall : AllFor P N ops (List.range ops.size) l) (hlen : l.length = ops.size) (hq : q ≤ l.length) (hquiet : ∀ i, i < q → quiet (opAt l i).o)
    (hpairs : ∀ i j, i < j → j < ops.size → ((Region.before ops).getD j 0).testBit i = true ∨ (j < q ∧ canSwap (opAt l i) (opAt l j))) :
    ∀ (s acc : List Nat) (e : Env) (h : Heap) (K : GK) (w : World) (a : Act), VR ops (s.reverse ++ acc) → (∀ i, i < ops.size → i ∈ s.reverse ++ acc) → (∀ i ∈ acc, i < q) →
      hops (DCalls P) base ((rem q acc).map (opAt l)) e h (Upto fun e' h' => hops (HCalls P) 0 (l.drop q) e' h' Q) → Rel N ds K w e h a →
      (∀ K' w' e' h' a', Step K w K' w' → Rel N ds K' w' e' h' a' → Q e' h' → Q' .normal a' w') → wpOpsIn (WF ro) 0 P ops Q' s a w := by
  obtain ⟨_, hget⟩ := allFor_get hall
  have hop : ∀ i, i < ops.size → OpFor P N ops i (opAt l i) := fun i hi => by
    refine hget i i _ (by simp [hi]) ?_
    simp [opAt, List.getD_eq_getElem?_getD, show i < l.length by omega]
  intro s
  induction s with
  | nil =>
    intro acc e h K w a hv hc hacc hh hr hfin
    have hnil : rem q acc = [] := List.eq_nil_iff_forall_not_mem.2 fun i hi => by
      rw [mem_rem] at hi
      exact hi.2 (by simpa using hc i (by omega))
    rw [hnil] at hh
    obtain ⟨e', he, hq'⟩ := hh
    have hr' : Rel N ds K w e' h a := ⟨hr.heap, fun t x hx => hr.env t x (by rw [← he t]; exact hx), hr.size, hr.defers⟩
    have hord := tail_order (q := q) (fun i j h1 h2 => (hpairs i j h1 h2).imp id (·.1)) [] acc q (Nat.le_refl _) (by omega) hv hc (fun i => ⟨hacc i, fun hi => by simpa using hc i (by omega)⟩)
    have h0 : ops.size - q = 0 := by
      have := congrArg List.length hord
      simp at this
      omega
    have hdrop : l.drop q = [] := by rw [List.drop_eq_nil_iff]; omega
    rw [hdrop] at hq'
    exact hfin K w e' h a (.refl K w) hr' hq'
  | cons p s ih =>
    intro acc e h K w a hv hc hacc hh hr hfin
    have hv' := hv
    have hc' := hc
    rw [List.reverse_cons, List.append_assoc, List.singleton_append] at hv' hc'
    have hp := VR.tail hv'
    have hps : p < ops.size := hp.1.1
    by_cases hpq : p < q
    · have hpm : p ∈ rem q acc := mem_rem.2 ⟨hpq, hp.1.2.1⟩
      obtain ⟨a1, a2, hsp⟩ := List.append_of_mem hpm
      rw [hsp, List.map_append, List.map_cons] at hh
      have hmemq : ∀ i ∈ a1 ++ p :: a2, i < q := fun i hi => (mem_rem.1 (hsp ▸ hi)).1
      have hsort := rem_sorted q acc
      rw [hsp, List.pairwise_append] at hsort
      have hfr := hops_front (fun o ho => by
          rw [← List.map_cons, ← List.map_append] at ho
          obtain ⟨i, hi, rfl⟩ := List.mem_map.1 ho
          exact hquiet i (hmemq i hi)) (fun x hx => by
          obtain ⟨i, hi, rfl⟩ := List.mem_map.1 hx
          rcases hpairs i p (hsort.2.2 i hi p (by simp)) hps with h1 | h1
          · have := VR.before p hp h1
            have h2 : i ∈ rem q acc := by rw [hsp]; simp [hi]
            exact absurd this (mem_rem.1 h2).2
          · exact h1.2) hh
      have hone : hops (DCalls P) base [opAt l p] e h (fun e' h' => hops (DCalls P) base ((a1 ++ a2).map (opAt l)) e' h' (Upto fun e' h' => hops (HCalls P) 0 (l.drop q) e' h' Q)) := by
        rw [hops_cons] at hfr ⊢
        obtain ⟨v, d, h1, h2, h3, h4⟩ := op_dat (hquiet p hpq) hfr
        refine h4 e h _ (fun t _ => rfl) h2 ?_
        show hops (DCalls P) base ((a1 ++ a2).map (opAt l)) _ _ _
        rw [List.map_append]
        refine hops_mono (Q := Upto (Upto fun e' h' => hops (HCalls P) 0 (l.drop q) e' h' Q)) (fun o ho => ?_) (fun _ _ hx => Upto.idem hx) h3
        rw [← List.map_append] at ho
        obtain ⟨i, hi, rfl⟩ := List.mem_map.1 ho
        exact hquiet i (hmemq i (by simp at hi ⊢; rcases hi with h | h <;> simp [h]))
      have := hops_sound (ro := ro) (P := P) (N := N) (ops := ops) (base := base) (S := DCalls P) (Q' := Q') (js := s) (fun _ _ _ _ h => DCalls.sub h) [p] [opAt l p] ⟨hop p hps, trivial⟩ e h K w a hone hr (fun K' w' e' h' a' st hr' hq' => by
        refine ih (p :: acc) e' h' K' w' a' hv' hc' (fun i hi => by simp at hi; rcases hi with rfl | hi; exact hpq; exact hacc i hi) ?_ hr' (fun K2 w2 e2 h2 a2 s2 r2 q2 => hfin K2 w2 e2 h2 a2 (st.trans s2) r2 q2)
        rw [rem_cons hsp]
        exact hq')
      exact this
    · have hlow : ∀ i, i < q → i ∈ acc := fun i hi => by
        rcases hpairs i p (by omega) hps with h1 | h1
        · exact VR.before p hp h1
        · exact absurd h1.1 hpq
      have hnil : rem q acc = [] := List.eq_nil_iff_forall_not_mem.2 fun i hi => by
        rw [mem_rem] at hi
        exact hi.2 (hlow i hi.1)
      rw [hnil] at hh
      obtain ⟨e', he, hq'⟩ := hh
      have hr' : Rel N ds K w e' h a := ⟨hr.heap, fun t x hx => hr.env t x (by rw [← he t]; exact hx), hr.size, hr.defers⟩
      have hord := tail_order (q := q) (fun i j h1 h2 => (hpairs i j h1 h2).imp id (·.1)) (p :: s) acc q (Nat.le_refl _) (by omega) hv hc (fun i => ⟨hacc i, hlow i⟩)
      rw [hord]
      have htail : AllFor P N ops (List.range' q (ops.size - q)) (l.drop q) := allFor_of (by simp [hlen]) fun j i x hi hx => by
        rw [List.getElem?_drop] at hx
        have hj : j < ops.size - q := by
          have := List.getElem?_eq_some_iff.1 hi
          obtain ⟨h1, _⟩ := this
          simpa using h1
        rw [List.getElem?_range' hj] at hi
        simp at hi
        subst hi
        exact hget (q + j) (q + j) x (by rw [List.getElem?_range (by omega)]) hx
      have := hops_sound (ro := ro) (P := P) (N := N) (ops := ops) (base := 0) (S := HCalls P) (Q' := Q') (js := []) (fun _ _ _ _ h => h) _ _ htail e' h K w a hq' hr' (fun K' w' e2 h' a' st hr2 hq2 => hfin K' w' e2 h' a' st hr2 hq2)
      rwa [List.append_nil] at this
end

theorem places_rel {N : Nat} {ds : List Deferred} {K : GK} {w : World} {e : Env} {h : Heap} {a : Act} (r : Nat) (hr1 : Rel N ds K w e h a) : ∃ K1, Step K w K1 w ∧ Rel N ds K1 w e (h ++ List.replicate r .res) a := by
  refine ⟨K, .refl _ _, ⟨fun id b hid => ?_, fun i j b x y hi hj hx hy hl hl' => ?_, fun k => ?_, fun k b hk => ?_, hr1.heap.tinj, hr1.heap.limb⟩, hr1.env, hr1.size, hr1.defers⟩
  · obtain ⟨k1, o, k2, k3, k4⟩ := hr1.heap.obj id b hid
    exact ⟨k1, o, by rw [List.getElem?_append_left (get_lt k2)]; exact k2, k3, k4⟩
  · obtain ⟨_, o, k2, _⟩ := hr1.heap.obj i b hi
    obtain ⟨_, o', k2', _⟩ := hr1.heap.obj j b hj
    rw [List.getElem?_append_left (get_lt k2)] at hx
    rw [List.getElem?_append_left (get_lt k2')] at hy
    exact hr1.heap.inj i j b x y hi hj hx hy hl hl'
  · rw [hr1.heap.wm k]
    rcases Nat.lt_or_ge k h.length with hk | hk
    · rw [List.getElem?_append_left hk]
    · rw [List.getElem?_append_right hk, List.getElem?_eq_none hk]
      cases hz : (List.replicate r HObj.res)[k - h.length]? with
      | none => rfl
      | some z =>
        have := List.mem_of_getElem? hz
        rw [(List.mem_replicate.1 this).2]
  · obtain ⟨k1, ⟨n, k2⟩, k3, k4⟩ := hr1.heap.tok k b hk
    refine ⟨k1, ⟨n, by rw [List.getElem?_append_left (get_lt k2)]; exact k2⟩, fun id o hid ho => ?_, k4⟩
    obtain ⟨_, o', k5, _⟩ := hr1.heap.obj id b hid
    rw [List.getElem?_append_left (get_lt k5)] at ho
    exact k3 id o hid ho
theorem draw_sound {ds : List Deferred} {ro : Option Nat} {ann : Ann} {N id : Nat} {ops : Array Oper} {l : List Op} {r : Nat} (hmix : P.follows .mixedOrders = true) (hc : cOps P ann N id ops true ops.toList 0 0 = some (l, r)) (hok : drawOk ops l (quiets ann.acts l) = true) {Q : Env → Heap → Prop} {Q' : Exit → Act → World → Prop} {e : Env} {h : Heap} {K : GK} {w : World} {a : Act}
    (hq : hops (DCalls P) h.length (l.take (quiets ann.acts l)) e (h ++ List.replicate r .res) fun e' h' => hops (HCalls P) 0 (l.drop (quiets ann.acts l)) e' h' Q) (hr : Rel N ds K w e h a) (t : Nat)
    (hfin : ∀ K' w' e' h' a', Step K w K' w' → Rel N ds K' w' e' h' a' → Q e' h' → Q' .normal a' w') : wpOpsIn (WF ro) 0 P ops Q' (Region.schedule (P.follows .mixedOrders) ops t) a { w with drawn := w.drawn + 1 } := by
  generalize hqq : quiets ann.acts l = q at *
  have hql : q ≤ l.length := hqq ▸ quiets_le _ _
  simp only [drawOk, Bool.and_eq_true, decide_eq_true_eq, List.all_eq_true] at hok
  obtain ⟨⟨⟨hpl, hlen⟩, hed⟩, hpairs⟩ := hok
  have hsch : Region.schedule (P.follows .mixedOrders) ops t = Region.linearise .any ops t := by simp [Region.schedule, hmix]
  rw [hsch]
  have hb : ∀ j o, ops[j]? = some o → ∀ ed ∈ o.after, Region.binds .any ed = true → ed.on < j := by
    intro j o ho ed hd hbd
    have hj : j < ops.size := by
      rcases Nat.lt_or_ge j ops.size with h | h
      · exact h
      · rw [Array.getElem?_eq_none h] at ho; cases ho
    have := hed j (by simp; omega)
    rw [Array.getD_eq_getD_getElem?, ho, Option.getD_some, Array.all_eq_true'] at this
    have := this ed hd
    rw [hbd] at this
    simpa using this
  obtain ⟨acc, h1, h2, h3⟩ := lin_go hb ops.size t (Array.replicate ops.size false) [] (by simp) (fun i hi => by simp [hi]) trivial (by simp)
  have hlin : Region.linearise .any ops t = acc.reverse := h1
  rw [hlin]
  have st : Step K w K { w with drawn := w.drawn + 1 } := ⟨rfl, tk, rfl, Nat.le_refl _, fun _ => Nat.le_refl _, fun _ => Nat.le_refl _, fun _ _ => ⟨rfl, fun _ _ => rfl⟩, fun _ _ h => h, fun _ _ _ _ h => h, fun _ _ h => h, fun _ _ h => h, fun _ _ _ => ⟨rfl, rfl⟩⟩
  have hr1 : Rel N ds K { w with drawn := w.drawn + 1 } e h a := by
    refine ⟨⟨fun id b hid => ?_, hr.heap.inj, hr.heap.wm, hr.heap.tok, hr.heap.tinj, ⟨hr.heap.limb.z, hr.heap.limb.t.step st⟩⟩, hr.env.step st, hr.size, hr.defers⟩
    obtain ⟨k1, o, k2, k3, k4⟩ := hr.heap.obj id b hid
    exact ⟨k1, o, k2, k3.keep st rfl, k4⟩
  obtain ⟨K1, s1, r1⟩ := places_rel r hr1
  have hpairs' : ∀ i j, i < j → j < ops.size → ((Region.before ops).getD j 0).testBit i = true ∨ (j < q ∧ canSwap (opAt l i) (opAt l j)) := by
    intro i j hij hj
    have h1 := hpairs j (by simp; omega) i (by simpa using hij)
    simp only [Bool.or_eq_true, Bool.and_eq_true, decide_eq_true_eq] at h1
    rcases h1 with h1 | ⟨h1, h2⟩
    · exact .inl h1
    · refine .inr ⟨h1, ?_⟩
      have e1 : l[i]? = some (opAt l i) := by simp [opAt, List.getD_eq_getElem?_getD, show i < l.length by omega]
      have e2 : l[j]? = some (opAt l j) := by simp [opAt, List.getD_eq_getElem?_getD, show j < l.length by omega]
      rw [e1, e2] at h2
      simpa [canSwap] using h2
  have hquiet : ∀ i, i < q → quiet (opAt l i).o := by
    intro i hi
    have hm : opAt l i ∈ l.take q := by
      have : (l.take q)[i]? = some (opAt l i) := by
        rw [List.getElem?_take_of_lt hi]
        simp [opAt, List.getD_eq_getElem?_getD, show i < l.length by omega]
      exact List.mem_of_getElem? this
    exact quiet_of (acts := ann.acts) (quiets_take ann.acts l _ (by rw [hqq]; exact hm)) (hpl _ (List.mem_of_mem_take hm))
  have hpre : (rem q []).map (opAt l) = l.take q := by
    have : rem q [] = List.range q := by simp [rem]
    rw [this]
    apply List.ext_getElem?
    intro i
    rw [List.getElem?_map]
    rcases Nat.lt_or_ge i q with hi | hi
    · rw [List.getElem?_range hi, List.getElem?_take_of_lt hi]
      simp [opAt, List.getD_eq_getElem?_getD, show i < l.length by omega]
    · rw [List.getElem?_eq_none (by simpa using hi), List.getElem?_eq_none (by simp; omega)]
      rfl
  refine draw_main (q := q) (base := h.length) (cOps_all hc) hlen hql hquiet hpairs' acc.reverse [] e _ K1 _ a (by simpa using h2) (fun i hi => by simpa using h3 i hi) (by simp) ?_ r1 (fun K' w' e' h' a' s' r' q' => hfin K' w' e' h' a' (st.trans (s1.trans s')) r' q')
  rw [hpre]
  refine hops_mono (fun o ho => ?_) (fun e' h' hx => ⟨e', fun _ => rfl, hx⟩) hq
  exact quiet_of (acts := ann.acts) (quiets_take ann.acts l o (by rw [hqq]; exact ho)) (hpl _ (List.mem_of_mem_take ho))

theorem hops_all {N : Nat} {ds : List Deferred} {ro : Option Nat} {ops : Array Oper} {base : Nat} {S : CallP} (hS : ∀ f args h R, S f args h R → HCalls P f args h R) {Q : Env → Heap → Prop} {Q' : Exit → Act → World → Prop} {is : List Nat} {ls : List Op} (hall : AllFor P N ops is ls) (e : Env) (h : Heap) (K : GK) (w : World) (a : Act) (hq : hops S base ls e h Q) (hr : Rel N ds K w e h a)
    (hfin : ∀ K' w' e' h' a', Step K w K' w' → Rel N ds K' w' e' h' a' → Q e' h' → Q' .normal a' w') : wpOpsIn (WF ro) 0 P ops Q' is a w := by
  have := hops_sound (ro := ro) (Q' := Q') (js := []) hS is ls hall e h K w a hq hr hfin
  rwa [List.append_nil] at this
end Go.Hw

set_option linter.unusedVariables false
set_option linter.unusedSimpArgs false
namespace Go.Hw
open Go

structure Mild (K : GK) (w w' : World) (row : Option Nat) : Prop where
  g : w.grownBy w' row
  r : ∀ r, row = some r → (∃ o : Obj, w.heap[r]? = some o ∧ o.isCells = false) ∧ ¬ owned K r

section
variable {K : GK} {w w' : World} {row : Option Nat} (m : Mild K w w' row)
include m
theorem Mild.keep {b : Nat} {o : Obj} (h : w.heap[b]? = some o) (hn : o.isCells = true ∨ owned K b) : w'.heap[b]? = some o := by
  have hlt := (Array.getElem?_eq_some_iff.1 h).1
  refine (m.g.block b hlt (fun e => ?_)).trans h
  obtain ⟨⟨o', h1, h2⟩, h3⟩ := m.r b e.symm
  rw [h] at h1
  cases h1
  rcases hn with hn | hn
  · rw [hn] at h2; cases h2
  · exact h3 hn
theorem Mild.cell {b i : Nat} {v : Value} (h : w.cell? ⟨b, i, none⟩ = some v) : w'.cell? ⟨b, i, none⟩ = some v := by
  have : ∃ o, w.heap[b]? = some o ∧ o.isCells = true := by
    simp only [World.cell?] at h
    split at h
    · rename_i c e fr hb; exact ⟨_, hb, rfl⟩
    · cases h
  obtain ⟨o, h1, h2⟩ := this
  rw [World.cell?_of_block ((m.keep h1 (.inl h2)).trans h1.symm)]
  exact h
theorem Mild.room {b n : Nat} (h : RoomAt w b n) : RoomAt w' b n := by
  obtain ⟨c, e, fr, h1, h2⟩ := h
  exact ⟨c, e, fr, m.keep h1 (.inl rfl), h2⟩
theorem Mild.V {x : HV} {v : Value} (h : V K w x v) : V K w' x v := by
  induction h with
  | bool b => exact .bool b
  | int k n => exact .int k n
  | str t => exact .str t
  | nil tok h => exact .nil tok h
  | list0 tok h ad => exact .list0 tok h ad
  | nilslice => exact .nilslice
  | list hs tok b o cap sz vals hw hleaf hv hc hl hcap ht ih =>
    refine .list hs tok b o cap sz vals hw hleaf ih (fun j hj => m.cell (hc j hj)) hl hcap ?_
    cases tok with
    | none => trivial
    | full => exact ht
    | own k off sz =>
      obtain ⟨h1, h2, h3⟩ := ht
      refine ⟨h1, h2, fun he => ?_⟩
      rcases h3 he with h3 | ⟨h3, h4, h5⟩
      · exact .inl h3
      · exact .inr ⟨h3, h4, m.room h5⟩
  | arr id off len sz b cap off' hr hcap ho hroom => exact .arr id off len sz b cap off' hr hcap ho (m.room hroom)
  | arrn id off sz => exact .arrn id off sz
  | arr0 id off sz ad => exact .arr0 id off sz ad
  | rptr cs b o vals hleaf hv hc hl ih => exact .rptr cs b o vals hleaf ih (fun j hj => m.cell (hc j hj)) hl
  | ptr id off b hr => exact .ptr id off b hr
  | nilptr => exact .nilptr
  | map id b hr => exact .map id b hr
  | nilmap => exact .nilmap
  | func f caps vs hn hv ih => exact .func f caps vs hn ih
  | nilfunc => exact .nilfunc
  | nilif => exact .nilif
  | iface t x v ht hx ih => exact .iface t x v ht ih
  | agg cs vs hn hleaf hv ih => exact .agg cs vs hn hleaf ih
  | tuple cs vs hn hv ih => exact .tuple cs vs hn ih
  | any v h => exact .any v h
theorem Mild.env {e : Env} {tmps : Array Value} (h : EnvRel K w e tmps) : EnvRel K w' e tmps := fun t x hx => m.V (h t x hx)
theorem Mild.objOk {b : Nat} (hb : w'.heap[b]? = w.heap[b]?) : ∀ {o : HObj}, ObjOk K w b o → ObjOk K w' b o
  | .cells cs, ⟨c, e, fr, h1, h2, h3, h4⟩ => ⟨c, e, fr, hb.trans h1, h2, h3, fun j x hx => let ⟨l, v, hv, hV⟩ := h4 j x hx; ⟨l, v, hv, m.V hV⟩⟩
  | .map es cl, ⟨ms, h1, h2, h5⟩ => ⟨ms, hb.trans h1, h2, fun j n x y hx => let ⟨z, hm, hn, t1, t2, hk, hv⟩ := h5 j n x y hx; ⟨z, hm, hn, t1, t2, m.V hk, m.V hv⟩⟩
  | .iter none since seen last, h => hb.trans h
  | .iter (some i) since seen last, ⟨b', h1, h2⟩ => ⟨b', h1, hb.trans h2⟩
  | .siter t pos, h => hb.trans h
  | .bld T none n cap, ⟨h1, h2, h3⟩ => ⟨h1, h2, h3.keep hb⟩
  | .bld T (some j) n cap, ⟨g, h1, h2⟩ => ⟨g, h1, h2.keep hb⟩
  | .brow U cap l, ⟨c, h1, h2⟩ => ⟨c, hb.trans h1, h2⟩
  | .dead, _ => trivial
  | .tok _, h => h.elim
  | .res, h => h.elim
theorem Mild.heap {h : Heap} (hh : HeapRel K h w) (hl : ∀ b, w'.heap.size ≤ b → K.lim b = 0 := by first | assumption | (intro b hb; exact hh.limb b (Nat.le_trans m.g.size hb))) : HeapRel K h w' := by
  refine ⟨fun id b hr => ?_, hh.inj, hh.wm, fun k b hk => ?_, hh.tinj, ⟨fun b hb => hh.limb b (Nat.le_trans m.g.size hb), ⟨fun p hp => ⟨(hh.limb.t.cells p hp).1, fun j v hv => m.cell ((hh.limb.t.cells p hp).2 j v hv)⟩, fun p hp => ⟨(hh.limb.t.rows p hp).1, let ⟨e, fr, h2⟩ := (hh.limb.t.rows p hp).2; ⟨e, fr, m.keep h2 (.inl rfl)⟩⟩⟩⟩⟩
  · obtain ⟨h1, o, h2, h3, h4⟩ := hh.obj id b hr
    have hlt := h1
    obtain ⟨ob, hob⟩ : ∃ ob, w.heap[b]? = some ob := ⟨_, Array.getElem?_eq_getElem h1⟩
    exact ⟨Nat.lt_of_lt_of_le h1 m.g.size, o, h2, m.objOk ((m.keep hob (.inr (.inl ⟨id, hr⟩))).trans hob.symm) h3, h4⟩
  · obtain ⟨h1, h2, h3, c, e, fr, h4, h5, h6⟩ := hh.tok k b hk
    exact ⟨Nat.lt_of_lt_of_le h1 m.g.size, h2, h3, c, e, fr, m.keep h4 (.inl rfl), h5, h6⟩
theorem Mild.step {K0 : GK} {w0 : World} (s : Step K0 w0 K w) (hr : ∀ r, row = some r → w0.heap.size ≤ r) : Step K0 w0 K w' where
  os := m.g.os.trans s.os
  tape := ⟨m.g.tape.trans s.tape.1, Nat.zero_le _⟩
  output := m.g.output.trans s.output
  size := Nat.le_trans s.size m.g.size
  lim := s.lim
  wm := s.wm
  tok := s.tok
  rho := s.rho
  cell := fun b i v hi hc => m.cell (s.cell b i v hi hc)
  shape := fun b n h => m.room (s.shape b n h)
  own := s.own
  frame := fun b hb hn => by
    obtain ⟨h1, h2⟩ := s.frame b hb hn
    refine ⟨(m.g.block b (Nat.lt_of_lt_of_le hb s.size) (fun e => ?_)).trans h1, h2⟩
    have := hr b e.symm
    omega
end


def markOf (D : Nat) : Deferred := { target := .collected D, args := #[] }
def DefOk (w0 : World) (K : GK) (w : World) (ds : List Deferred) : Prop :=
  ∃ Ds : List Nat, ds = Ds.map markOf ∧ Ds.Nodup ∧ ∀ D ∈ Ds, w0.heap.size ≤ D ∧ ¬ owned K D ∧ w.heap[D]? = some (.deferred (some []))
theorem DefOk.nil (w0 : World) (K : GK) (w : World) : DefOk w0 K w [] := ⟨[], rfl, List.nodup_nil, nofun⟩
theorem DefOk.step {w0 : World} {K K' : GK} {w w' : World} {ds : List Deferred} (h : DefOk w0 K w ds) (s : Step K w K' w') : DefOk w0 K' w' ds := by
  obtain ⟨Ds, h1, h2, h3⟩ := h
  refine ⟨Ds, h1, h2, fun D hD => ?_⟩
  obtain ⟨g1, g2, g3⟩ := h3 D hD
  have hlt := (Array.getElem?_eq_some_iff.1 g3).1
  exact ⟨g1, fun ho => g2 (s.own D hlt ho), (s.frame D hlt g2).1.trans g3⟩
theorem DefOk.names {w0 : World} {K K' : GK} {w : World} {ds : List Deferred} (h : DefOk w0 K w ds) (ho : ∀ b, owned K' b → owned K b) : DefOk w0 K' w ds := by
  obtain ⟨Ds, h1, h2, h3⟩ := h
  exact ⟨Ds, h1, h2, fun D hD => ⟨(h3 D hD).1, fun x => (h3 D hD).2.1 (ho D x), (h3 D hD).2.2⟩⟩

theorem mild_shut {K : GK} {w : World} {D : Nat} (h1 : ¬ owned K D) (h2 : w.heap[D]? = some (.deferred (some []))) (o : Obj) : Mild K w (w.putObj D o) (some D) :=
  ⟨grownBy_putObj' w D o, fun r e => by cases e; exact ⟨⟨_, h2, rfl⟩, h1⟩⟩

theorem leaves_marks {P : Program} {F : Fence} {n : Nat} {fn : Func} {tmps : Array Value} {R : Ending → World → Prop} {K0 K : GK} {w0 : World} {h : Heap} {e : Env} (hfin : ∀ w, Step K0 w0 K w → HeapRel K h w → EnvRel K w e tmps → ∃ v, (results fn tmps).run P w = .ok v w ∧ R (.returned v) w) :
    ∀ (Ds : List Nat) (w : World), Ds.Nodup → (∀ D ∈ Ds, w0.heap.size ≤ D ∧ ¬ owned K D ∧ w.heap[D]? = some (.deferred (some []))) → Step K0 w0 K w → HeapRel K h w → EnvRel K w e tmps →
      LeavesInM F n P fn tmps R (Ds.map markOf) .returning w
  | [], w, _, _, s, hh, he => hfin w s hh he
  | D :: Ds, w, hn, hD, s, hh, he => by
    obtain ⟨h1, h2, h3⟩ := hD D (by simp)
    have m := mild_shut h2 h3 (.deferred none)
    refine ⟨by simp, .inl ⟨D, _, rfl, run_takeDeferred h3, ?_⟩⟩
    refine leaves_marks hfin Ds _ (List.nodup_cons.1 hn).2 (fun D' hD' => ?_) (m.step s (fun r e => by cases e; exact h1)) (m.heap hh) (m.env he)
    obtain ⟨g1, g2, g3⟩ := hD D' (by simp [hD'])
    refine ⟨g1, g2, (World.putObj_heap_other (fun e => ?_)).trans g3⟩
    subst e
    exact (List.nodup_cons.1 hn).1 hD'
end Go.Hw

set_option linter.unusedVariables false
set_option linter.unusedSimpArgs false
namespace Go.Hw
open Go

variable {P : Program}

def Ex.up : Ex → Exit
  | .normal => .normal
  | .exit i => .exit i
  | .ret => .ret

def RelD (N : Nat) (w0 : World) (K : GK) (w : World) (e : Env) (h : Heap) (a : Act) : Prop := ∃ ds, DefOk w0 K w ds ∧ Rel N ds K w e h a
theorem RelD.heap {N : Nat} {w0 : World} {K : GK} {w : World} {e : Env} {h : Heap} {a : Act} (r : RelD N w0 K w e h a) : HeapRel K h w := let ⟨_, _, r⟩ := r; r.heap
theorem RelD.env {N : Nat} {w0 : World} {K : GK} {w : World} {e : Env} {h : Heap} {a : Act} (r : RelD N w0 K w e h a) : EnvRel K w e a.tmps := let ⟨_, _, r⟩ := r; r.env
theorem RelD.size {N : Nat} {w0 : World} {K : GK} {w : World} {e : Env} {h : Heap} {a : Act} (r : RelD N w0 K w e h a) : a.tmps.size = N := let ⟨_, _, r⟩ := r; r.size
def Lift (N : Nat) (K : GK) (w : World) (Q : Ex → Env → Heap → Prop) : Exit → Act → World → Prop := fun x a' w' =>
  ∃ q K' e' h', x = Ex.up q ∧ Step K w K' w' ∧ RelD N w K' w' e' h' a' ∧ Q q e' h'

theorem prune_rel {N : Nat} {ds : List Deferred} {K : GK} {w : World} {e : Env} {h : Heap} {a : Act} (hr : Rel N ds K w e h a) (keep : List Nat) : Rel N ds K w (prune e keep) h a :=
  ⟨hr.heap, fun t x hx => hr.env t x (Env.get_prune e keep t x hx), hr.size, hr.defers⟩


def Weak (e : Env) (h : Heap) (e' : Env) (h' : Heap) : Prop :=
  ∀ (N : Nat) (ds : List Deferred) (K : GK) (w : World) (a : Act), Rel N ds K w e h a → ∃ K', Step K w K' w ∧ Rel N ds K' w e' h' a
theorem Weak.refl (e : Env) (h : Heap) : Weak e h e h := fun N ds K w a hr => ⟨K, .refl K w, hr⟩
theorem Weak.trans {e e1 e2 : Env} {h h1 h2 : Heap} (x : Weak e h e1 h1) (y : Weak e1 h1 e2 h2) : Weak e h e2 h2 := fun N ds K w a hr =>
  let ⟨K1, s1, r1⟩ := x N ds K w a hr
  let ⟨K2, s2, r2⟩ := y N ds K1 w a r1
  ⟨K2, s1.trans s2, r2⟩
def Env.sub : Env → Env → Prop
  | [], _ => True
  | (t, v) :: r, e => (match e.get t with
    | some x => x = v ∨ x.strip1 = v
    | none => False) ∧ Env.sub r e
theorem Env.sub_get {e' e : Env} (h : Env.sub e' e) : ∀ (t : Nat) (v : HV), e'.get t = some v → ∃ x, e.get t = some x ∧ (x = v ∨ x.strip1 = v) := by
  induction e' with
  | nil => intro t v hv; simp [Env.get] at hv
  | cons p r ih =>
    obtain ⟨u, y⟩ := p
    intro t v hv
    obtain ⟨h1, h2⟩ := h
    simp only [Env.get] at hv
    split at hv
    · rename_i e1
      subst e1
      injection hv with hv
      subst hv
      cases hg : e.get u with
      | none => simp [hg] at h1
      | some x => simp only [hg] at h1; exact ⟨x, rfl, h1⟩
    · exact ih h2 t v hv
theorem Weak.sub {e e' : Env} {h : Heap} (hs : Env.sub e' e) : Weak e h e' h := fun N ds K w a hr =>
  ⟨K, .refl K w, hr.heap, fun t v hv => by
    obtain ⟨x, hx, hxv⟩ := Env.sub_get hs t v hv
    rcases hxv with rfl | rfl
    · exact hr.env t x hx
    · exact (hr.env t x hx).strip1, hr.size, hr.defers⟩
theorem Weak.acc {e : Env} {h : Heap} (t sz : Nat) (hs : List HV) (hg : e.get t = some (.list hs .full)) (hw : ∀ x ∈ hs, x.cells.length = sz) :
    Weak e h ((t, .list hs (.own h.length 1 sz)) :: e) (h ++ [.tok (1 + hs.length)]) := fun N ds K w a hr => by
  have htp : TokPlace h (h ++ [.tok (1 + hs.length)]) h.length (1 + hs.length) := .inr ⟨rfl, rfl, by omega⟩
  obtain ⟨s, hh'⟩ := tok_bare hr.heap htp rfl
  refine ⟨_, s, hh', fun u x hx => ?_, hr.size, hr.defers⟩
  simp only [Env.get] at hx
  split at hx
  · rename_i e1
    subst e1
    injection hx with hx
    subst hx
    have hV := hr.env t _ hg
    generalize a.tmps.getD t undef = v at hV ⊢
    have hV' := hV.step s
    cases hV with
    | nil _ _ => exact .nil _ (by simp [TokNil, GK.tokAt])
    | list0 _ _ ad => exact .list0 _ (by simp [TokNil, GK.tokAt]) ad
    | list _ _ b of cap sz' vals hw' hleaf hvv hc hlim hcap htk =>
      cases hV' with
      | list0 _ _ ad => exact .list0 _ (by simp [TokNil, GK.tokAt]) _
      | list _ _ _ _ _ sz'' vals' hw'' hleaf' hvv' hc' hlim' hcap' htk' =>
        exact .list hs _ b of cap sz vals' hw hleaf' hvv' hc' hlim' hcap' ⟨by simp [GK.tokAt], flat_length hw, fun _ => .inl htk⟩
  · exact (hr.env u x hx).step s

theorem wpIn_loop_ghost {F : Fence} {n : Nat} {c : Code} {X : Type} (I : X → Act → World → Prop) (μ : X → Nat) {Q : Exit → Act → World → Prop} (round : ∀ x a w, I x a w → c.wpIn F n P (Exit.then (fun a' w' => ∃ x', μ x' < μ x ∧ I x' a' w') Q) a w) {x0 : X} {a : Act} {w : World} (h0 : I x0 a w) : (Code.loop c).wpIn F n P Q a w := by
  intro b k cs hro hb hr
  have key : ∀ (j : Nat) (x : X) (a : Act) (w : World), μ x = j → I x a w → ∃ e a' w', Q e a' w' ∧ ArrivesIn (Machine.fenced P F) P (lone (b.atR a (.code c :: .inLoop c :: k)) cs w) b k cs e a' w' := by
    intro j
    induction j using Nat.strongRecOn with
    | _ j ih =>
      intro x a w hn hI
      obtain ⟨e, a₁, w₁, hq, harr⟩ := round x a w hI b (.inLoop c :: k) cs hro hb hr
      cases e with
      | normal =>
        obtain ⟨x', hlt, hI₁⟩ := hq
        obtain ⟨e₂, a₂, w₂, hq₂, harr₂⟩ := ih (μ x') (hn ▸ hlt) x' a₁ w₁ rfl hI₁
        exact ⟨e₂, a₂, w₂, hq₂, .of_steps (StepsIn.trans harr (.one (fenced_calm hb hr rfl) stepR_inLoop)) harr₂⟩
      | exit id => exact ⟨_, a₁, w₁, hq, .pass (x := .inLoop c) rfl (fun _ _ => .inl (by simp)) harr⟩
      | goto l => exact ⟨_, a₁, w₁, hq, .pass (x := .inLoop c) rfl (fun _ _ => .inl (by simp)) harr⟩
      | ret => exact ⟨_, a₁, w₁, hq, .pass (x := .inLoop c) rfl (fun _ _ => .inl (by simp)) harr⟩
      | panic ch => exact ⟨_, a₁, w₁, hq, .pass (x := .inLoop c) rfl (fun _ _ => .inl (by simp)) harr⟩
      | outgrown => exact ⟨_, a₁, w₁, hq, .pass (x := .inLoop c) rfl (fun _ _ => .inl (by simp)) harr⟩
  obtain ⟨e, a', w', hq, harr⟩ := key _ x0 a w rfl h0
  exact ⟨e, a', w', hq, .of_steps (.one (fenced_calm hb hr rfl) stepR_loop) harr⟩


def argEnvFrom : Nat → List HV → Env
  | _, [] => []
  | i, x :: r => (i, x) :: argEnvFrom (i + 1) r
def argEnv (l : List HV) : Env := argEnvFrom 0 l
theorem argEnv_get : ∀ (l : List HV) (i t : Nat) (x : HV), Env.get (argEnvFrom i l) t = some x → i ≤ t ∧ l[t - i]? = some x
  | [], i, t, x, h => by simp [argEnvFrom, Env.get] at h
  | y :: r, i, t, x, h => by
    simp only [argEnvFrom, Env.get] at h
    split at h
    · rename_i e1
      subst e1
      exact ⟨Nat.le_refl _, by simpa using h⟩
    · obtain ⟨h1, h2⟩ := argEnv_get r (i + 1) t x h
      refine ⟨by omega, ?_⟩
      rw [show t - i = (t - (i + 1)) + 1 by omega]
      exact h2
def retV : List HV → HV
  | [x] => x
  | vs => .tuple vs

def resOf (tmps : Array Value) : ResultVar → Sem Value
  | .tmp t => pure (tmps.getD t undef)
  | .cell a t => do loadVar t (← asAddr (tmps.getD a undef))


end Go.Hw

set_option linter.unusedVariables false
set_option linter.unusedSimpArgs false
namespace Go.Hw
open Go


theorem pv_bytesOf (s : List UInt8) (tok : Tok) (ht : ∀ k o z, tok ≠ .own k o z) : PV (.list (bytesOf s) tok) := by
  refine .list _ _ ht fun x hx => ?_
  rw [flat_bytesOf] at hx
  simp only [bytesOf, List.mem_map] at hx
  obtain ⟨c, _, rfl⟩ := hx
  exact .int _ _
abbrev eB (s : List UInt8) : HV := .list (bytesOf s) .none
theorem pv_eB (s : List UInt8) : PV (eB s) := pv_bytesOf s .none (by simp)


theorem wrap64_of {n : Int} (h0 : -9223372036854775808 ≤ n) (h1 : n ≤ 9223372036854775807) : IntKind.i64.wrap n = n := by
  simp only [IntKind.wrap, IntKind.bits, IntKind.signed, Bool.true_and, decide_eq_true_eq, Nat.reduceSub, Int.reducePow, ge_iff_le]
  split <;> omega

end Go.Hw

set_option linter.unusedVariables false
set_option linter.unusedSimpArgs false
namespace Go.Hw
open Go

variable {S D : CallP} {L : C → (Ex → Env → Heap → Prop) → Env → Heap → Prop} {b : Nat} {r : List Op} {e : Env} {h : Heap} {Q : Env → Heap → Prop} {QQ : Ex → Env → Heap → Prop} {d : Nat} {x y z : X}

structure HO (S : CallP) (b : Nat) (ops : List Op) (e : Env) (h : Heap) (Q : Env → Heap → Prop) : Prop where
  of ::
  out : hops S b ops e h Q
structure HC (S D : CallP) (L : C → (Ex → Env → Heap → Prop) → Env → Heap → Prop) (c : C) (Q : Ex → Env → Heap → Prop) (e : Env) (h : Heap) : Prop where
  of ::
  out : hwp S D L c Q e h



def Fin (Q : Ex → Env → Heap → Prop) (keep : List Nat) : Env → Heap → Prop := fun e h => Q .normal (prune e keep) h
def Mid (S : CallP) (tail : List Op) (Q : Env → Heap → Prop) : Env → Heap → Prop := fun e h => hops S 0 tail e h Q
theorem pr_nil : prune e [] = [] := rfl
theorem pr_cons {t : Nat} {ts : List Nat} {v : HV} {e' : Env} (h1 : e.get t = some v) (h2 : prune e ts = e') : prune e (t :: ts) = (t, v) :: e' := by simp only [prune, h1, h2]
theorem ev_cons {xs : List X} {v : HV} {vs : List HV} (h1 : x.ev e = some v) (h2 : evs e xs = some vs) : evs e (x :: xs) = some (v :: vs) := by simp only [evs, h1, h2]
theorem ep_nil : evParts e [] = some [] := rfl
theorem ep_cons {a n : Nat} {xs : List (Nat × Nat × X)} {v : HV} {vs : List (Nat × Nat × HV)} (h1 : x.ev e = some v) (h2 : evParts e xs = some vs) : evParts e ((a, n, x) :: xs) = some ((a, n, v) :: vs) := by simp only [evParts, h1, h2]
theorem sub_nil : Env.sub [] e := trivial
theorem sub_cons {t : Nat} {v u : HV} {s : Env} (h1 : e.get t = some u) (h2 : u = v ∨ u.strip1 = v) (h3 : Env.sub s e) : Env.sub ((t, v) :: s) e := by
  simp only [Env.sub, h1]
  exact ⟨h2, h3⟩


theorem st_end {keep : List Nat} {e' : Env} (hp : prune e keep = e') (k : QQ .normal e' h) : HO S b [] e h (Fin QQ keep) := by
  refine ⟨?_⟩
  subst hp
  exact k
theorem st_mid {tail : List Op} {S' : CallP} (k : HO S 0 tail e h Q) : HO S' b [] e h (Mid S tail Q) := ⟨k.out⟩
theorem st_g {t : Nat} {c : Bool} {o : OC} {dst : Option Nat} (hg : e.get t = some (.bool c)) (k : HO S b (⟨dst, o, none⟩ :: r) e h Q) : HO S b (⟨dst, o, some (t, c)⟩ :: r) e h Q := by
  refine ⟨?_⟩
  simp only [hops, hg]
  exact ⟨fun _ => k.out, fun h => absurd rfl h⟩
theorem st_gtf {t : Nat} {o : OC} {dst : Option Nat} (hg : e.get t = some (.bool true)) (k : HO S b r (e.put dst (.tuple [])) h Q) : HO S b (⟨dst, o, some (t, false)⟩ :: r) e h Q := by
  refine ⟨?_⟩
  simp only [hops, hg]
  exact ⟨nofun, fun _ => k.out⟩
theorem st_gft {t : Nat} {o : OC} {dst : Option Nat} (hg : e.get t = some (.bool false)) (k : HO S b r (e.put dst (.tuple [])) h Q) : HO S b (⟨dst, o, some (t, true)⟩ :: r) e h Q := by
  refine ⟨?_⟩
  simp only [hops, hg]
  exact ⟨nofun, fun _ => k.out⟩
theorem st_gu {t : Nat} {o : OC} {dst : Option Nat} {c : Bool} (hg : e.get t = some (.tuple [])) (k : HO S b r (e.put dst (.tuple [])) h Q) : HO S b (⟨dst, o, some (t, c)⟩ :: r) e h Q := by
  refine ⟨?_⟩
  simp only [hops, hg]
  exact k.out
theorem st_skip (k : HO S b r ((d, .tuple []) :: e) h Q) : HO S b r (e.put (some d) (.tuple [])) h Q := ⟨k.out⟩
theorem st_mv {v : HV} (hx : x.ev e = some v) (k : HO S b r ((d, v) :: e) h Q) : HO S b (⟨some d, .op (.mv x), none⟩ :: r) e h Q := by
  refine ⟨?_⟩
  simp only [hops, hcall, hstep, hx]
  exact k.out
theorem st_pick_t {v w : HV} (hz : z.ev e = some (.bool true)) (hx : x.ev e = some v) (hy : y.ev e = some w) (k : HO S b r ((d, v) :: e) h Q) : HO S b (⟨some d, .op (.pick z x y), none⟩ :: r) e h Q := by
  refine ⟨?_⟩
  simp only [hops, hcall, hstep, hx, hy, hz]
  exact ⟨fun _ => k.out, nofun⟩
theorem st_pick_f {v w : HV} (hz : z.ev e = some (.bool false)) (hx : x.ev e = some v) (hy : y.ev e = some w) (k : HO S b r ((d, w) :: e) h Q) : HO S b (⟨some d, .op (.pick z x y), none⟩ :: r) e h Q := by
  refine ⟨?_⟩
  simp only [hops, hcall, hstep, hx, hy, hz]
  exact ⟨nofun, fun _ => k.out⟩
theorem st_add {m n : Int} (hx : x.ev e = some (.int .i64 m)) (hy : y.ev e = some (.int .i64 n)) (h1 : -9223372036854775808 ≤ m + n ∧ m + n ≤ 9223372036854775807) (k : HO S b r ((d, .int .i64 (m + n)) :: e) h Q) : HO S b (⟨some d, .op (.bin .add x y), none⟩ :: r) e h Q := by
  refine ⟨?_⟩
  simp only [hops, hcall, hstep, hx, hy, ibin, ibinOk, wrap64_of h1.1 h1.2]
  exact ⟨.inl trivial, trivial, k.out⟩
theorem st_sub {m n : Int} (hx : x.ev e = some (.int .i64 m)) (hy : y.ev e = some (.int .i64 n)) (h1 : -9223372036854775808 ≤ m - n ∧ m - n ≤ 9223372036854775807) (k : HO S b r ((d, .int .i64 (m - n)) :: e) h Q) : HO S b (⟨some d, .op (.bin .sub x y), none⟩ :: r) e h Q := by
  refine ⟨?_⟩
  simp only [hops, hcall, hstep, hx, hy, ibin, ibinOk, wrap64_of h1.1 h1.2]
  exact ⟨.inl trivial, trivial, k.out⟩
theorem st_rem {i : IntKind} {m n : Int} (hx : x.ev e = some (.int i m)) (hy : y.ev e = some (.int i n)) (h1 : n ≠ 0) (k : HO S b r ((d, .int i (m.tmod n)) :: e) h Q) : HO S b (⟨some d, .op (.bin .rem x y), none⟩ :: r) e h Q := by
  refine ⟨?_⟩
  simp only [hops, hcall, hstep, hx, hy, ibin, ibinOk]
  exact ⟨.inl trivial, h1, k.out⟩
theorem st_bin {op : BinOp} {i j : IntKind} {m n : Int} {v : HV} (hx : x.ev e = some (.int i m)) (hy : y.ev e = some (.int j n)) (h0 : i = j ∨ op = .shl ∨ op = .shr) (h1 : ibinOk op n) (h2 : ibin op i m n = some v) (k : HO S b r ((d, v) :: e) h Q) : HO S b (⟨some d, .op (.bin op x y), none⟩ :: r) e h Q := by
  refine ⟨?_⟩
  simp only [hops, hcall, hstep, hx, hy, h2]
  exact ⟨h0, h1, k.out⟩
theorem st_sbin {op : BinOp} {m n : List UInt8} {v : HV} (hx : x.ev e = some (.str m)) (hy : y.ev e = some (.str n)) (h1 : sbinOk op m n) (h2 : sbin op m n = some v) (k : HO S b r ((d, v) :: e) h Q) : HO S b (⟨some d, .op (.bin op x y), none⟩ :: r) e h Q := by
  refine ⟨?_⟩
  simp only [hops, hcall, hstep, hx, hy, h2]
  exact ⟨h1, k.out⟩
theorem st_lss {i : IntKind} {m n : Int} (hx : x.ev e = some (.int i m)) (hy : y.ev e = some (.int i n)) (k1 : m < n → HO S b r ((d, .bool true) :: e) h Q) (k2 : n ≤ m → HO S b r ((d, .bool false) :: e) h Q) : HO S b (⟨some d, .op (.bin .lss x y), none⟩ :: r) e h Q := by
  refine ⟨?_⟩
  simp only [hops, hcall, hstep, hx, hy, ibin, ibinOk]
  refine ⟨.inl trivial, trivial, ?_⟩
  by_cases hc : m < n
  · rw [decide_eq_true hc]; exact (k1 hc).out
  · rw [decide_eq_false hc]; exact (k2 (by omega)).out
theorem st_leq {i : IntKind} {m n : Int} (hx : x.ev e = some (.int i m)) (hy : y.ev e = some (.int i n)) (k1 : m ≤ n → HO S b r ((d, .bool true) :: e) h Q) (k2 : n < m → HO S b r ((d, .bool false) :: e) h Q) : HO S b (⟨some d, .op (.bin .leq x y), none⟩ :: r) e h Q := by
  refine ⟨?_⟩
  simp only [hops, hcall, hstep, hx, hy, ibin, ibinOk]
  refine ⟨.inl trivial, trivial, ?_⟩
  by_cases hc : m ≤ n
  · rw [decide_eq_true hc]; exact (k1 hc).out
  · rw [decide_eq_false hc]; exact (k2 (by omega)).out
theorem st_gtr {i : IntKind} {m n : Int} (hx : x.ev e = some (.int i m)) (hy : y.ev e = some (.int i n)) (k1 : n < m → HO S b r ((d, .bool true) :: e) h Q) (k2 : m ≤ n → HO S b r ((d, .bool false) :: e) h Q) : HO S b (⟨some d, .op (.bin .gtr x y), none⟩ :: r) e h Q := by
  refine ⟨?_⟩
  simp only [hops, hcall, hstep, hx, hy, ibin, ibinOk]
  refine ⟨.inl trivial, trivial, ?_⟩
  by_cases hc : m > n
  · rw [decide_eq_true hc]; exact (k1 hc).out
  · rw [decide_eq_false hc]; exact (k2 (by omega)).out
theorem st_geq {i : IntKind} {m n : Int} (hx : x.ev e = some (.int i m)) (hy : y.ev e = some (.int i n)) (k1 : n ≤ m → HO S b r ((d, .bool true) :: e) h Q) (k2 : m < n → HO S b r ((d, .bool false) :: e) h Q) : HO S b (⟨some d, .op (.bin .geq x y), none⟩ :: r) e h Q := by
  refine ⟨?_⟩
  simp only [hops, hcall, hstep, hx, hy, ibin, ibinOk]
  refine ⟨.inl trivial, trivial, ?_⟩
  by_cases hc : m ≥ n
  · rw [decide_eq_true hc]; exact (k1 hc).out
  · rw [decide_eq_false hc]; exact (k2 (by omega)).out
theorem st_eqi {i : IntKind} {m n : Int} (hx : x.ev e = some (.int i m)) (hy : y.ev e = some (.int i n)) (k1 : m = n → HO S b r ((d, .bool true) :: e) h Q) (k2 : m ≠ n → HO S b r ((d, .bool false) :: e) h Q) : HO S b (⟨some d, .op (.eqv false .int x y), none⟩ :: r) e h Q := by
  refine ⟨?_⟩
  simp only [hops, hcall, hstep, hx, hy]
  refine ⟨rfl, fun t ht => ?_⟩
  simp only [HV.eqs] at ht
  subst ht
  by_cases hc : m = n
  · rw [show (m == n) = true by simp [hc]]; exact (k1 hc).out
  · rw [show (m == n) = false by simp [hc]]; exact (k2 hc).out
theorem st_nei {i : IntKind} {m n : Int} (hx : x.ev e = some (.int i m)) (hy : y.ev e = some (.int i n)) (k1 : m ≠ n → HO S b r ((d, .bool true) :: e) h Q) (k2 : m = n → HO S b r ((d, .bool false) :: e) h Q) : HO S b (⟨some d, .op (.eqv true .int x y), none⟩ :: r) e h Q := by
  refine ⟨?_⟩
  simp only [hops, hcall, hstep, hx, hy]
  refine ⟨rfl, fun t ht => ?_⟩
  simp only [HV.eqs] at ht
  subst ht
  by_cases hc : m = n
  · rw [show (m == n) = true by simp [hc]]; exact (k2 hc).out
  · rw [show (m == n) = false by simp [hc]]; exact (k1 hc).out
theorem st_eqs {m n : List UInt8} (hx : x.ev e = some (.str m)) (hy : y.ev e = some (.str n)) (k1 : m = n → HO S b r ((d, .bool true) :: e) h Q) (k2 : m ≠ n → HO S b r ((d, .bool false) :: e) h Q) : HO S b (⟨some d, .op (.eqv false .str x y), none⟩ :: r) e h Q := by
  refine ⟨?_⟩
  simp only [hops, hcall, hstep, hx, hy]
  refine ⟨trivial, fun t ht => ?_⟩
  simp only [HV.eqs] at ht
  subst ht
  by_cases hc : m = n
  · rw [show (m == n) = true by simp [hc]]; exact (k1 hc).out
  · rw [show (m == n) = false by simp [hc]]; exact (k2 hc).out
theorem st_nes {m n : List UInt8} (hx : x.ev e = some (.str m)) (hy : y.ev e = some (.str n)) (k1 : m ≠ n → HO S b r ((d, .bool true) :: e) h Q) (k2 : m = n → HO S b r ((d, .bool false) :: e) h Q) : HO S b (⟨some d, .op (.eqv true .str x y), none⟩ :: r) e h Q := by
  refine ⟨?_⟩
  simp only [hops, hcall, hstep, hx, hy]
  refine ⟨trivial, fun t ht => ?_⟩
  simp only [HV.eqs] at ht
  subst ht
  by_cases hc : m = n
  · rw [show (m == n) = true by simp [hc]]; exact (k2 hc).out
  · rw [show (m == n) = false by simp [hc]]; exact (k1 hc).out
theorem st_eqv {neg : Bool} {kd : EqK} {u v : HV} (hx : x.ev e = some u) (hy : y.ev e = some v) (h1 : ∀ n, kd ≠ .agg n) (h2 : eqsOk kd u v) (k : ∀ t, HV.eqs u v t → HO S b r ((d, .bool (if neg then !t else t)) :: e) h Q) : HO S b (⟨some d, .op (.eqv neg kd x y), none⟩ :: r) e h Q := by
  refine ⟨?_⟩
  simp only [hops, hcall, hstep, hx, hy]
  cases kd with
  | agg n => exact absurd rfl (h1 n)
  | _ => exact ⟨h2, fun t ht => (k t ht).out⟩
theorem st_eqn {hs : List HV} {tok : Tok} (hx : x.ev e = some (.list hs tok)) (hy : y.ev e = some .nilslice) (k1 : hs = [] → HO S b r ((d, .bool true) :: e) h Q) (k2 : HO S b r ((d, .bool false) :: e) h Q) : HO S b (⟨some d, .op (.eqv false .slice x y), none⟩ :: r) e h Q := by
  refine ⟨?_⟩
  simp only [hops, hcall, hstep, hx, hy]
  refine ⟨trivial, fun t ht => ?_⟩
  cases t with
  | false => exact k2.out
  | true => exact (k1 (Classical.byContradiction fun hn => by simpa using ht hn)).out
theorem st_not {t : Bool} (hx : x.ev e = some (.bool t)) (k : HO S b r ((d, .bool (!t)) :: e) h Q) : HO S b (⟨some d, .op (.un .not x), none⟩ :: r) e h Q := by
  refine ⟨?_⟩
  simp only [hops, hcall, hstep, hx]
  exact ⟨trivial, k.out⟩
theorem st_neg {m : Int} (hx : x.ev e = some (.int .i64 m)) (h1 : -9223372036854775807 ≤ m ∧ m ≤ 9223372036854775807) (k : HO S b r ((d, .int .i64 (-m)) :: e) h Q) : HO S b (⟨some d, .op (.un .neg x), none⟩ :: r) e h Q := by
  refine ⟨?_⟩
  simp only [hops, hcall, hstep, hx, iun, wrap64_of (n := -m) (by omega) (by omega)]
  exact k.out
theorem st_convw {i j : IntKind} {m : Int} (hx : x.ev e = some (.int j m)) (k : HO S b r ((d, .int i (i.wrap m)) :: e) h Q) : HO S b (⟨some d, .op (.conv (.int i) x), none⟩ :: r) e h Q := by
  refine ⟨?_⟩
  simp only [hops, hcall, hstep, hx]
  exact k.out
theorem st_len {hs : List HV} {tok : Tok} {n : Nat} (hx : x.ev e = some (.list hs tok)) (hn : hs.length = n) (k : HO S b r ((d, .int .i64 n) :: e) h Q) : HO S b (⟨some d, .op (.len false x), none⟩ :: r) e h Q := by
  refine ⟨?_⟩
  subst hn
  simp only [hops, hcall, hstep, hx]
  exact k.out
theorem st_slen {s : List UInt8} (hx : x.ev e = some (.str s)) (k : HO S b r ((d, .int .i64 s.length) :: e) h Q) : HO S b (⟨some d, .op (.len true x), none⟩ :: r) e h Q := by
  refine ⟨?_⟩
  simp only [hops, hcall, hstep, hx]
  exact k.out
theorem st_mklist {sz : Nat} {xs : List X} {vs ws : List HV} (hx : evs e xs = some vs) (h1 : ∀ v ∈ vs, v.cells.length = sz ∧ isTuple v = false) (h2 : vs.map HV.strip1 = ws) (k : HO S b r ((d, .list ws .full) :: e) h Q) : HO S b (⟨some d, .op (.mklist sz xs), none⟩ :: r) e h Q := by
  refine ⟨?_⟩
  subst h2
  simp only [hops, hcall, hstep, hx]
  exact ⟨h1, k.out⟩
theorem st_iaddr {A : Type} {l : List A} {f : A → HV} {sz : Nat} {tok : Tok} {n : Int} {i : IntKind} (hx : x.ev e = some (.list (l.map f) tok)) (hy : y.ev e = some (.int i n)) (h1 : 0 ≤ n ∧ n < l.length) (h2 : ∀ a, (f a).cells.length = sz) (k : ∀ a, l[n.toNat]? = some a → HO S b r ((d, .rptr (f a).cells) :: e) h Q) : HO S b (⟨some d, .op (.iaddr sz x y), none⟩ :: r) e h Q := by
  refine ⟨?_⟩
  simp only [hops, hcall, hstep, hx, hy, List.length_map, List.getElem?_map]
  refine ⟨h1, ?_⟩
  have hlt : n.toNat < l.length := by omega
  rw [List.getElem?_eq_getElem hlt]
  exact ⟨h2 _, (k _ (List.getElem?_eq_getElem hlt)).out⟩
theorem st_load_r {n : Option Nat} {cs : List HV} {v : HV} (hx : x.ev e = some (.rptr cs)) (h1 : atCells n cs = some v) (k : HO S b r ((d, v) :: e) h Q) : HO S b (⟨some d, .op (.load n x), none⟩ :: r) e h Q := by
  refine ⟨?_⟩
  simp only [hops, hcall, hstep, hx, h1]
  exact k.out
theorem bnd_none {dd : Int} : bnd e dd none = some dd := rfl
theorem bnd_some {dd : Int} {i : IntKind} {n : Int} (hx : x.ev e = some (.int i n)) : bnd e dd (some x) = some n := by simp only [bnd, hx]
theorem st_app_own {hs ys zs : List HV} {t : Tok} {sz by_ id off : Nat} (hx : x.ev e = some (.list hs (.own id off sz))) (hy : y.ev e = some (.list ys t)) (h1 : ys.map HV.strip1 = ys) (h2 : (hs.length + ys.length) * by_ ≤ 140737488355328) (h3 : ∀ v ∈ ys, v.cells.length = sz ∧ isTuple v = false) (h4 : Heap.tokAt h id = some (off + hs.length)) (hz : hs ++ ys = zs)
    {m : Nat} {h' : Heap} (hm : off + (hs.length + ys.length) = m) (hh : h.set id (.tok m) = h') (k : HO S b r ((d, .list zs (.own id off sz)) :: e) h' Q) : HO S b (⟨some d, .op (.append sz by_ x y), none⟩ :: r) e h Q := by
  refine ⟨?_⟩
  subst hm
  subst hh
  subst hz
  simp only [hops, hcall, hstep, hx, hy, happend, h1]
  exact ⟨⟨⟨h2, fun v hv => (h3 v hv).1⟩, trivial, h4, k.out⟩, fun v hv => (h3 v hv).2⟩
theorem st_dcall {P : Program} {f : FuncId} {xs : List X} {vs as : List HV} {v : HV} (hx : evs e xs = some vs) (ha : vs.map HV.strip1 = as) (hp : PCall P f as v) (k : HO (DCalls P) b r ((d, v) :: e) h Q) : HO (DCalls P) b (⟨some d, .call f xs, none⟩ :: r) e h Q := by
  refine ⟨?_⟩
  subst ha
  simp only [hops, hcall, hx]
  exact ⟨v, hp, k.out⟩
theorem st_extract {vs : List HV} {i : Nat} {v : HV} (hx : x.ev e = some (.tuple vs)) (h1 : vs[i]? = some v) (k : HO S b r ((d, v) :: e) h Q) : HO S b (⟨some d, .op (.extract x i), none⟩ :: r) e h Q := by
  refine ⟨?_⟩
  simp only [hops, hcall, hstep, hx, h1]
  exact k.out
theorem maxInt_eq (m n : Int) : maxInt m n = max m n := by
  unfold maxInt
  split <;> omega
theorem st_max2 {i : IntKind} {m n : Int} {v : Int} (hx : x.ev e = some (.int i m)) (hy : y.ev e = some (.int i n)) (hv : max m n = v) (k : HO S b r ((d, .int i v) :: e) h Q) : HO S b (⟨some d, .op (.max [x, y]), none⟩ :: r) e h Q := by
  refine ⟨?_⟩
  subst hv
  simp only [hops, hcall, hstep, evs, hx, hy]
  refine ⟨fun v hv => ?_, ?_⟩
  · simp at hv; exact ⟨n, hv⟩
  · rw [show foldInt maxInt m [.int i n] = maxInt m n from rfl, maxInt_eq]; exact k.out


theorem pv_map {A : Type} {f : A → HV} (hf : ∀ a, ∀ x ∈ (f a).cells, PV x) (l : List A) (tok : Tok) (ht : ∀ k o s, tok ≠ .own k o s) : PV (.list (l.map f) tok) := by
  refine .list _ _ ht fun x hx => ?_
  simp only [flat, List.mem_flatMap, List.mem_map] at hx
  obtain ⟨y, ⟨a, _, rfl⟩, hy⟩ := hx
  exact hf a x hy
end Go.Hw

set_option linter.unusedVariables false
set_option linter.unusedSimpArgs false
namespace Go.Hw
open Go

variable {P : Program}

def MCalls (P : Program) (acts : List FuncId) : CallP := fun f args h R => if acts.contains f then HCalls P f args h R else DCalls P f args h R
theorem MCalls.sub {acts : List FuncId} {f : FuncId} {args : List HV} {h : Heap} {R : HV → Heap → Prop} (hd : MCalls P acts f args h R) : HCalls P f args h R := by
  unfold MCalls at hd
  split at hd
  · exact hd
  · exact DCalls.sub hd
theorem DCalls.mono {f : FuncId} {args : List HV} {h : Heap} {R R' : HV → Heap → Prop} (hc : DCalls P f args h R) (hr : ∀ x h', R x h' → R' x h') : DCalls P f args h R' := by
  obtain ⟨r, h1, h2⟩ := hc
  exact ⟨r, h1, hr _ _ h2⟩
theorem MCalls.mono {acts : List FuncId} {f : FuncId} {args : List HV} {h : Heap} {R R' : HV → Heap → Prop} (hd : MCalls P acts f args h R) (hr : ∀ x h', R x h' → R' x h') : MCalls P acts f args h R' := by
  unfold MCalls at hd ⊢
  split
  · rename_i hc; rw [if_pos hc] at hd; exact HCalls.mono hd hr
  · rename_i hc; rw [if_neg hc] at hd; exact DCalls.mono hd hr

section
variable {base : Nat} {e : Env} {h : Heap} {k k' : HV → Heap → Prop}
variable {acts : List FuncId}
end


end Go.Hw

set_option linter.unusedVariables false
set_option linter.unusedSimpArgs false
namespace Go.Hw
open Go

variable {P : Program}

def Base (m : Nat) (K : GK) : Prop := ∀ k, m ≤ k → K.rho k = none ∧ K.tb k = none ∧ K.wm k = 0
theorem base_of {K : GK} {h : Heap} {w : World} (hh : HeapRel K h w) : Base h.length K := by
  intro k hk
  have hn : h[k]? = none := List.getElem?_eq_none hk
  refine ⟨?_, ?_, by rw [hh.wm k, hn]⟩
  · cases hr : K.rho k with
    | none => rfl
    | some b => obtain ⟨_, o, h1, _⟩ := hh.obj k b hr; rw [hn] at h1; cases h1
  · cases hr : K.tb k with
    | none => rfl
    | some b => obtain ⟨_, ⟨n, h1⟩, _⟩ := hh.tok k b hr; rw [hn] at h1; cases h1

def C.noRf : C → Bool
  | .rfun _ _ _ _ => false
  | .seq p q => p.noRf && q.noRf
  | .cond _ p q => p.noRf && q.noRf
  | .block _ p => p.noRf
  | .loop p => p.noRf
  | _ => true
theorem rr_l {ro : Option Nat} {x y : Bool} (h : ro = none ∨ (x && y) = true) : ro = none ∨ x = true := h.imp id fun h => (Bool.and_eq_true_iff.1 h).1
theorem rr_r {ro : Option Nat} {x y : Bool} (h : ro = none ∨ (x && y) = true) : ro = none ∨ y = true := h.imp id fun h => (Bool.and_eq_true_iff.1 h).2

def SC (P : Program) (N m : Nat) (c : C) (QQ : Ex → Env → Heap → Prop) (e : Env) (h : Heap) : Prop :=
  ∀ (ro : Option Nat), (ro = none ∨ c.noRf = true) → ∀ (ann : Ann) (code : Code), comp P ann N code = some c → ∀ (K0 : GK) (w0 : World) (K : GK) (w : World) (a : Act), Base m K0 → Step K0 w0 K w → RelD N w0 K w e h a → code.wpIn (WF ro) 0 P (Lift N K0 w0 QQ) a w

def WeakF (m : Nat) (e : Env) (h : Heap) (e' : Env) (h' : Heap) : Prop :=
  ∀ (N : Nat) (K0 : GK) (w0 : World) (K : GK) (w : World) (a : Act), Base m K0 → Step K0 w0 K w → RelD N w0 K w e h a → ∃ K', Step K0 w0 K' w ∧ RelD N w0 K' w e' h' a
theorem WeakF.refl {m : Nat} (e : Env) (h : Heap) : WeakF m e h e h := fun N K0 w0 K w a _ s r => ⟨K, s, r⟩
theorem WeakF.trans {m : Nat} {e e1 e2 : Env} {h h1 h2 : Heap} (x : WeakF m e h e1 h1) (y : WeakF m e1 h1 e2 h2) : WeakF m e h e2 h2 := fun N K0 w0 K w a b s r =>
  let ⟨K1, s1, r1⟩ := x N K0 w0 K w a b s r
  y N K0 w0 K1 w a b s1 r1
theorem WeakF.of {m : Nat} {e e' : Env} {h h' : Heap} (x : Weak e h e' h') : WeakF m e h e' h' := fun N K0 w0 K w a _ s r =>
  let ⟨ds, d, r⟩ := r
  let ⟨K', s', r'⟩ := x N ds K w a r
  ⟨K', s.trans s', ds, d.step s', r'⟩

section
variable {N m : Nat} {e e' : Env} {h h' : Heap} {QQ : Ex → Env → Heap → Prop}

theorem SC.weak {c : C} (hw : WeakF m e h e' h') (k : SC P N m c QQ e' h') : SC P N m c QQ e h := fun ro rr ann code hc K0 w0 K w a b s r =>
  let ⟨K', s', r'⟩ := hw N K0 w0 K w a b s r
  k ro rr ann code hc K0 w0 K' w a b s' r'
theorem SC.mono {c : C} {QQ' : Ex → Env → Heap → Prop} (k : SC P N m c QQ e h) (hq : ∀ x e h, QQ x e h → QQ' x e h) : SC P N m c QQ' e h := fun ro rr ann code hc K0 w0 K w a b s r =>
  wpIn_mono (k ro rr ann code hc K0 w0 K w a b s r) fun x a' w' ⟨q, K', e', h', h1, h2, h3, h4⟩ => ⟨q, K', e', h', h1, h2, h3, hq _ _ _ h4⟩
def SeqS (P : Program) (N m : Nat) (c : C) (QQ : Ex → Env → Heap → Prop) : Ex → Env → Heap → Prop
  | .normal, e, h => SC P N m c QQ e h
  | x, e, h => QQ x e h
def BlkS (id : Nat) (QQ : Ex → Env → Heap → Prop) : Ex → Env → Heap → Prop
  | .exit i, e, h => if i = id then QQ .normal e h else QQ (.exit i) e h
  | x, e, h => QQ x e h
def LoopS {X : Type} (m : Nat) (st : X → Env × Heap) (μ : X → Nat) (x : X) (QQ : Ex → Env → Heap → Prop) : Ex → Env → Heap → Prop
  | .normal, e, h => ∃ x', μ x' < μ x ∧ WeakF m e h (st x').1 (st x').2
  | q, e, h => QQ q e h

def From (P : Program) (ann : Ann) (N : Nat) (code : Code) : C → Prop
  | .skip => code = .skip
  | .reg l keep => ∃ id ops r, code = .region id ops false ∧ cOps P ann N id ops false ops.toList 0 0 = some (l, r)
  | .dreg pre tail n keep => ∃ id ops l, code = .region id ops true ∧ cOps P ann N id ops true ops.toList 0 0 = some (l, n) ∧ drawOk ops l (quiets ann.acts l) = true ∧ l.take (quiets ann.acts l) = pre ∧ l.drop (quiets ann.acts l) = tail
  | .dord acts alts n keep => ∃ id ops l us ps, code = .region id ops true ∧ cOps P ann N id ops true ops.toList 0 0 = some (l, n) ∧ drawOk3 ops acts l us ps = true ∧ (ps.map fun p => p.map (opOf l)) = alts
  | .seq p q => ∃ x y, code = .seq x y ∧ comp P ann N x = some p ∧ comp P ann N y = some q
  | .cond c p q => ∃ o x y, code = .cond o x y ∧ cX o = some c ∧ comp P ann N x = some p ∧ comp P ann N y = some q
  | .block id p => ∃ x, code = .block id x ∧ comp P ann N x = some p
  | .loop p => ∃ x, code = .loop x ∧ comp P ann N x = some p
  | .rfun f ps p q => ∃ g us x y, code = .rangeFunc g us x y ∧ cX g = some f ∧ us.toList = ps ∧ comp P ann N x = some p ∧ comp P ann N y = some q
  | .exit id => code = .exit id
  | .ret => code = .ret
  | .bad _ => True
theorem comp_from {ann : Ann} {code : Code} {c : C} (hc : comp P ann N code = some c) : From P ann N code c := by
  cases code with
  | skip => simp only [comp, Option.some.injEq] at hc; subst hc; rfl
  | region id ops draw =>
    simp only [comp, Option.bind_eq_bind] at hc
    obtain ⟨⟨l, q⟩, h1, hc⟩ := bind_some hc
    cases draw with
    | false =>
      simp only [Bool.false_eq_true, if_false, Option.some.injEq] at hc
      subst hc
      exact ⟨id, ops, q, rfl, h1⟩
    | true =>
      simp only [if_true] at hc
      split at hc
      · split at hc
        · rename_i hok
          simp only [Option.some.injEq] at hc
          subst hc
          exact ⟨id, ops, l, _, _, rfl, h1, hok, rfl⟩
        · cases hc
      split at hc
      · rename_i hok
        simp only [Option.some.injEq] at hc
        subst hc
        exact ⟨id, ops, l, rfl, h1, hok, rfl, rfl⟩
      · cases hc
  | seq x y =>
    simp only [comp, Option.bind_eq_bind] at hc
    obtain ⟨cx, h1, hc⟩ := bind_some hc
    obtain ⟨cy, h2, hc⟩ := bind_some hc
    injection hc with hc
    subst hc
    exact ⟨x, y, rfl, h1, h2⟩
  | cond o x y =>
    simp only [comp, Option.bind_eq_bind] at hc
    obtain ⟨co, h0, hc⟩ := bind_some hc
    obtain ⟨cx, h1, hc⟩ := bind_some hc
    obtain ⟨cy, h2, hc⟩ := bind_some hc
    injection hc with hc
    subst hc
    exact ⟨o, x, y, rfl, h0, h1, h2⟩
  | block id x =>
    simp only [comp, Option.bind_eq_bind] at hc
    obtain ⟨cx, h1, hc⟩ := bind_some hc
    injection hc with hc
    subst hc
    exact ⟨x, rfl, h1⟩
  | loop x =>
    simp only [comp, Option.bind_eq_bind] at hc
    obtain ⟨cx, h1, hc⟩ := bind_some hc
    injection hc with hc
    subst hc
    exact ⟨x, rfl, h1⟩
  | exit i => simp only [comp, Option.some.injEq] at hc; subst hc; rfl
  | ret => simp only [comp, Option.some.injEq] at hc; subst hc; rfl
  | rangeFunc g us x y =>
    simp only [comp, Option.bind_eq_bind] at hc
    obtain ⟨cg, h0, hc⟩ := bind_some hc
    obtain ⟨cx, h1, hc⟩ := bind_some hc
    obtain ⟨cy, h2, hc⟩ := bind_some hc
    injection hc with hc
    subst hc
    exact ⟨g, us, x, y, rfl, h0, rfl, h1, h2⟩
  | scope _ => simp only [comp, Option.some.injEq] at hc; subst hc; trivial
  | label _ => simp only [comp, Option.some.injEq] at hc; subst hc; trivial
  | goto _ => simp only [comp, Option.some.injEq] at hc; subst hc; trivial
  | refuse _ => simp only [comp, Option.some.injEq] at hc; subst hc; trivial

theorem sc_skip (k : QQ .normal e h) : SC P N m .skip QQ e h := by
  intro ro rr ann code hc K0 w0 K w a b s r
  have hf := comp_from hc
  simp only [From] at hf
  subst hf
  exact wpIn_skip ⟨.normal, K, e, h, rfl, s, r, k⟩
theorem sc_exit {id : Nat} (k : QQ (.exit id) e h) : SC P N m (.exit id) QQ e h := by
  intro ro rr ann code hc K0 w0 K w a b s r
  have hf := comp_from hc
  simp only [From] at hf
  subst hf
  exact wpIn_exit ⟨.exit id, K, e, h, rfl, s, r, k⟩
theorem sc_ret (k : QQ .ret e h) : SC P N m .ret QQ e h := by
  intro ro rr ann code hc K0 w0 K w a b s r
  have hf := comp_from hc
  simp only [From] at hf
  subst hf
  exact wpIn_ret ⟨.ret, K, e, h, rfl, s, r, k⟩
theorem sc_seq {p q : C} (k : SC P N m p (SeqS P N m q QQ) e h) : SC P N m (.seq p q) QQ e h := by
  intro ro rr ann code hc K0 w0 K w a b s r
  obtain ⟨x, y, rfl, h1, h2⟩ := comp_from hc
  refine wpIn_seq (wpIn_mono (k ro (rr_l rr) ann x h1 K0 w0 K w a b s r) ?_)
  rintro ex a' w' ⟨q, K', e', h', rfl, s', r', hq⟩
  cases q with
  | normal => exact hq ro (rr_r rr) ann y h2 K0 w0 K' w' a' b s' r'
  | exit i => exact ⟨.exit i, K', e', h', rfl, s', r', hq⟩
  | ret => exact ⟨.ret, K', e', h', rfl, s', r', hq⟩
theorem sc_block {id : Nat} {p : C} (k : SC P N m p (BlkS id QQ) e h) : SC P N m (.block id p) QQ e h := by
  intro ro rr ann code hc K0 w0 K w a b s r
  obtain ⟨x, rfl, h1⟩ := comp_from hc
  refine wpIn_block (wpIn_mono (k ro rr ann x h1 K0 w0 K w a b s r) ?_)
  rintro ex a' w' ⟨q, K', e', h', rfl, s', r', hq⟩
  cases q with
  | normal => exact ⟨.normal, K', e', h', rfl, s', r', hq⟩
  | exit j =>
    show Exit.inBlock id (Lift N K0 w0 QQ) (.exit j) a' w'
    simp only [Exit.inBlock]
    simp only [BlkS] at hq
    split
    · rename_i e1; rw [if_pos e1] at hq; exact ⟨.normal, K', e', h', rfl, s', r', hq⟩
    · rename_i e1; rw [if_neg e1] at hq; exact ⟨.exit j, K', e', h', rfl, s', r', hq⟩
  | ret => exact ⟨.ret, K', e', h', rfl, s', r', hq⟩
theorem sc_cond {x : X} {p q : C} {t : Bool} (hx : x.ev e = some (.bool t)) (k1 : t = true → SC P N m p QQ e h) (k2 : t = false → SC P N m q QQ e h) : SC P N m (.cond x p q) QQ e h := by
  intro ro rr ann code hc K0 w0 K w a b s r
  obtain ⟨o, y, z, rfl, h0, h1, h2⟩ := comp_from hc
  have hV := ev_sound h0 r.env hx
  generalize hcv : a.eval o = cv at hV
  cases hV
  exact wpIn_cond_split hcv (fun ht => k1 ht ro (rr_l rr) ann y h1 K0 w0 K w a b s r) (fun ht => k2 ht ro (rr_r rr) ann z h2 K0 w0 K w a b s r)
theorem sc_reg {ops : List Op} {keep : List Nat} (k : hops (HCalls P) 0 ops e h fun e' h' => QQ .normal (prune e' keep) h') : SC P N m (.reg ops keep) QQ e h := by
  intro ro rr ann code hc K0 w0 K w a b s r
  obtain ⟨id, ops', q, rfl, h1⟩ := comp_from hc
  obtain ⟨ds, dk, r⟩ := r
  refine wpIn_region (hops_all (ro := ro) (base := 0) (fun _ _ _ _ h => h) (cOps_all h1) e h K w a k r ?_)
  intro K' w' e' h' a' s' r' hq'
  exact ⟨.normal, K', _, h', rfl, s.trans s', ⟨ds, dk.step s', prune_rel r' _⟩, hq'⟩
theorem sc_dreg (hmix : P.follows .mixedOrders = true) {pre tail : List Op} {n : Nat} {keep : List Nat} (k : hops (DCalls P) h.length pre e (h ++ List.replicate n .res) fun e' h' => hops (HCalls P) 0 tail e' h' fun e'' h'' => QQ .normal (prune e'' keep) h'') : SC P N m (.dreg pre tail n keep) QQ e h := by
  intro ro rr ann code hc K0 w0 K w a b s r
  obtain ⟨id, ops', l, rfl, h1, hok, rfl, rfl⟩ := comp_from hc
  obtain ⟨ds, dk, r⟩ := r
  refine wpIn_region_draw fun t => ?_
  exact draw_sound (ro := ro) hmix h1 hok k r t (fun K' w' e' h' a' s' r' hq' => ⟨.normal, K', _, h', rfl, s.trans s', ⟨ds, dk.step s', prune_rel r' _⟩, hq'⟩)
theorem sc_loop {c : C} {X : Type} (st : X → Env × Heap) (μ : X → Nat) (x0 : X) (h0 : WeakF m e h (st x0).1 (st x0).2) (round : ∀ x, SC P N m c (LoopS m st μ x QQ) (st x).1 (st x).2) : SC P N m (.loop c) QQ e h := by
  intro ro rr ann code hc K0 w0 K w a b s r
  obtain ⟨x, rfl, h1⟩ := comp_from hc
  obtain ⟨K1, s1, r1⟩ := h0 N K0 w0 K w a b s r
  refine wpIn_loop_ghost (fun x a' w' => ∃ K', Step K0 w0 K' w' ∧ RelD N w0 K' w' (st x).1 (st x).2 a') μ ?_ (x0 := x0) ⟨K1, s1, r1⟩
  rintro x a1 w1 ⟨K2, s2, r2⟩
  refine wpIn_mono (round x ro rr ann _ h1 K0 w0 K2 w1 a1 b s2 r2) ?_
  rintro ex a' w' ⟨q, K', e', h', rfl, s', r', hq⟩
  cases q with
  | normal =>
    obtain ⟨x', hlt, hw⟩ := hq
    obtain ⟨K3, s3, r3⟩ := hw N K0 w0 K' w' a' b s' r'
    exact ⟨x', hlt, K3, s3, r3⟩
  | exit i => exact ⟨.exit i, K', e', h', rfl, s', r', hq⟩
  | ret => exact ⟨.ret, K', e', h', rfl, s', r', hq⟩
end
end Go.Hw

set_option linter.unusedVariables false
set_option linter.unusedSimpArgs false
namespace Go.Hw
open Go

variable {P : Program}

inductive RS where
  | t (n : Nat)
  | c (slot : Nat) (n : Option Nat)
def resTags (P : Program) : List ResultVar → Option (List RS)
  | [] => some []
  | .tmp t :: r => (resTags P r).map (.t t :: ·)
  | .cell a t :: r => match tagg P t, resTags P r with
    | some n, some l => some (.c a n :: l)
    | _, _ => none
def resVal (e : Env) (h : Heap) : RS → Option HV
  | .t n => e.get n
  | .c s n => match e.get s with
    | some (.ptr id off) => match Heap.cells h id with
      | some cs => atCells n (cs.drop off)
      | none => none
    | _ => none
def resVals2 (e : Env) (h : Heap) : List RS → Option (List HV)
  | [] => some []
  | r :: l => match resVal e h r, resVals2 e h l with
    | some v, some vs => some (v :: vs)
    | _, _ => none
theorem res_run {N : Nat} {w0 : World} {K : GK} {w : World} {e : Env} {h : Heap} {a : Act} (hr : RelD N w0 K w e h a) : ∀ {vars : List ResultVar} {rs : List RS} {vs : List HV}, resTags P vars = some rs → resVals2 e h rs = some vs →
    ∃ us : List Value, (vars.mapM (m := Sem) (resOf a.tmps)).run P w = .ok us w ∧ us.length = vars.length ∧ vs.length = vars.length ∧ ∀ (j : Nat) (x : HV) (u : Value), vs[j]? = some x → us[j]? = some u → V K w x u
  | [], rs, vs, h1, h2 => by
    simp only [resTags, Option.some.injEq] at h1
    subst h1
    simp only [resVals2, Option.some.injEq] at h2
    subst h2
    exact ⟨[], rfl, rfl, rfl, fun j x u hx => by simp at hx⟩
  | v :: vars, rs, vs, h1, h2 => by
    have step : ∀ {r : RS} {l : List RS} {u : Value}, resTags P vars = some l → (resOf a.tmps v).run P w = .ok u w → (∀ x, resVal e h r = some x → V K w x u) → rs = r :: l →
        ∃ us : List Value, ((v :: vars).mapM (m := Sem) (resOf a.tmps)).run P w = .ok us w ∧ us.length = (v :: vars).length ∧ vs.length = (v :: vars).length ∧ ∀ (j : Nat) (x : HV) (u : Value), vs[j]? = some x → us[j]? = some u → V K w x u := by
      intro r l u g1 g2 g3 g4
      subst g4
      simp only [resVals2] at h2
      split at h2
      · rename_i x xs g5 g6
        injection h2 with h2
        subst h2
        obtain ⟨us, k1, k2, k3, k4⟩ := res_run hr g1 g6
        refine ⟨u :: us, ?_, by simp [k2], by simp [k3], fun j y z hy hz => ?_⟩
        · rw [List.mapM_cons]
          simp only [Sem.run_bind, g2, Result.andThen_ok, k1, Sem.run_pure]
        · cases j with
          | zero => simp at hy hz; subst hy; subst hz; exact g3 x g5
          | succ j => exact k4 j y z (by simpa using hy) (by simpa using hz)
      · cases h2
    cases v with
    | tmp t =>
      simp only [resTags, Option.map_eq_some_iff] at h1
      obtain ⟨l, g1, g2⟩ := h1
      exact step (r := .t t) g1 rfl (fun x hx => hr.env t x hx) g2.symm
    | cell s t =>
      simp only [resTags] at h1
      split at h1
      · rename_i n l g0 g1
        injection h1 with h1
        have h1' := h1.symm
        -- the value of the cell
        have hval : ∃ x, resVal e h (.c s n) = some x := by
          subst h1'
          simp only [resVals2] at h2
          split at h2
          · rename_i x xs g5 g6; exact ⟨x, g5⟩
          · cases h2
        obtain ⟨x, hx⟩ := hval
        have hx0 := hx
        simp only [resVal] at hx
        split at hx
        · rename_i id off hg
          split at hx
          · rename_i cs hcs
            have hV := hr.env s _ hg
            generalize hcv : a.tmps.getD s undef = cv at hV
            cases hV with
            | ptr _ _ b hrho =>
              obtain ⟨c, et, fr, hb, hlen, _, hvs⟩ := heap_cells hr.heap hrho hcs
              obtain ⟨u, k1, k2⟩ := run_loadVar_at (P := P) (K := K) (w := w) g0 (b := b) (off := off) (cs := cs.drop off) hx (fun j y hy => by
                rw [List.getElem?_drop] at hy
                obtain ⟨l', v', k1, k2⟩ := hvs _ y hy
                exact ⟨l', v', by rw [cell_of_row w b (off + j) c et fr hb]; exact k1, k2⟩)
              refine step (u := u) g1 ?_ (fun y hy => ?_) h1'
              · show (do loadVar t (← asAddr (a.tmps.getD s undef)) : Sem Value).run P w = .ok u w
                rw [hcv]
                simpa [asAddr] using k1
              · rw [hx0] at hy
                injection hy with hy
                subst hy
                exact k2
          · cases hx
        · cases hx
      · cases h1

def packV : List Value → Value
  | [x] => x
  | l => .tuple l.toArray
inductive Ren (σ : List Nat) : HV → HV → Prop
  | pv (x : HV) (h : PV x) : Ren σ x x
  | own (hs : List HV) (i j off sz : Nat) (hσ : σ[i]? = some j) (h : ∀ (x : HV), x ∈ flat hs → PV x) : Ren σ (.list hs (.own i off sz)) (.list hs (.own j off sz))
  | ptr (i j off : Nat) (hσ : σ[i]? = some j) : Ren σ (.ptr i off) (.ptr j off)
  | map (i j : Nat) (hσ : σ[i]? = some j) : Ren σ (.map i) (.map j)
  | arr (i j off len sz : Nat) (hσ : σ[i]? = some j) : Ren σ (.arr i off len sz) (.arr j off len sz)
  | agg (xs ys : List HV) (hl : xs.length = ys.length) (h : ∀ (j : Nat) (x y : HV), xs[j]? = some x → ys[j]? = some y → Ren σ x y) (hleaf : ∀ x ∈ xs, x.leaf = true) : Ren σ (.agg xs) (.agg ys)
  | tuple (xs ys : List HV) (hl : xs.length = ys.length) (h : ∀ (j : Nat) (x y : HV), xs[j]? = some x → ys[j]? = some y → Ren σ x y) : Ren σ (.tuple xs) (.tuple ys)
  | func (f : FuncId) (xs ys : List HV) (hl : xs.length = ys.length) (h : ∀ (j : Nat) (x y : HV), xs[j]? = some x → ys[j]? = some y → Ren σ x y) : Ren σ (.func f xs) (.func f ys)
def GK.ren (σ : List Nat) (K : GK) : GK := { lim := K.lim, rho := fun i => (σ[i]?).bind K.rho, tb := fun i => (σ[i]?).bind K.tb, wm := fun i => match σ[i]? with | some j => K.wm j | none => 0 }
theorem Ren.V {σ : List Nat} {K : GK} {w : World} {x y : HV} (hr : Ren σ x y) : ∀ {v : Value}, V K w y v → V (K.ren σ) w x v := by
  induction hr with
  | pv x h => intro v hv; exact hv.transfer h (fun _ => Nat.le_refl _)
  | own hs i j off sz hσ h =>
    intro v hv
    have hw : (K.ren σ).wm i = K.wm j := by simp [GK.ren, hσ]
    have ht : (K.ren σ).tb i = K.tb j := by simp [GK.ren, hσ]
    cases hv with
    | nil _ htn => exact .nil _ (by simpa [TokNil, hw] using htn)
    | list0 _ htn ad => exact .list0 _ (by simpa [TokNil, hw] using htn) ad
    | list _ _ b o cap sz' vals hw' hleaf hvv hc hlim hcap htk =>
      refine .list hs _ b o cap sz' vals hw' hleaf (fun q z hz => (hvv q z hz).transfer (h z (List.mem_of_getElem? hz)) (fun _ => Nat.le_refl _)) hc hlim hcap ?_
      obtain ⟨t1, t2, t3⟩ := htk
      exact ⟨by rw [hw]; exact t1, t2, fun he => by rw [hw] at he; rw [ht]; exact t3 he⟩
  | ptr i j off hσ => intro v hv; cases hv with | ptr _ _ b hr => exact .ptr _ _ b (by simp [GK.ren, hσ, hr])
  | map i j hσ => intro v hv; cases hv with | map _ b hr => exact .map _ b (by simp [GK.ren, hσ, hr])
  | arr i j off len sz hσ =>
    intro v hv
    cases hv with
    | arr _ _ _ _ b cap off' hr hcap ho hroom => exact .arr _ _ _ _ b cap off' (by simp [GK.ren, hσ, hr]) hcap ho hroom
    | arrn => exact .arrn _ _ _
    | arr0 => exact .arr0 _ _ _ _
  | agg xs ys hl h hleaf ih =>
    intro v hv
    cases hv with
    | agg _ vs hn _ hvv => exact .agg xs vs (by omega) hleaf (fun q x u hx hu => by
        obtain ⟨y, hy⟩ := get_of_lt (l := ys) (j := q) (by rw [← hl]; exact lt_of_get hx)
        exact ih q x y hx hy (hvv q y u hy hu))
  | tuple xs ys hl h ih =>
    intro v hv
    cases hv with
    | tuple _ vs hn hvv => exact .tuple xs vs (by omega) (fun q x u hx hu => by
        obtain ⟨y, hy⟩ := get_of_lt (l := ys) (j := q) (by rw [← hl]; exact lt_of_get hx)
        exact ih q x y hx hy (hvv q y u hy hu))
  | func f xs ys hl h ih =>
    intro v hv
    cases hv with
    | func _ _ vs hn hvv => exact .func f xs vs (by omega) (fun q x u hx hu => by
        obtain ⟨y, hy⟩ := get_of_lt (l := ys) (j := q) (by rw [← hl]; exact lt_of_get hx)
        exact ih q x y hx hy (hvv q y u hy hu))
def RenO (σ : List Nat) : HObj → HObj → Prop
  | .cells xs, .cells ys => xs.length = ys.length ∧ ∀ (j : Nat) (x y : HV), xs[j]? = some x → ys[j]? = some y → Ren σ x y ∧ x.leaf = true
  | .map es c, .map fs d => c = d ∧ es.length = fs.length ∧ ∀ (j n m : Nat) (x y x' y' : HV), es[j]? = some (n, x, y) → fs[j]? = some (m, x', y') → n = m ∧ Ren σ x x' ∧ Ren σ y y' ∧ isTuple x = false ∧ isTuple y = false
  | .iter none a b c, .iter none a' b' c' => a = a' ∧ b = b' ∧ c = c'
  | .iter (some i) a b c, .iter (some j) a' b' c' => σ[i]? = some j ∧ a = a' ∧ b = b' ∧ c = c'
  | .siter s p, .siter t q => s = t ∧ p = q
  | .bld T none n c, .bld T' none n' c' => T = T' ∧ n = n' ∧ c = c'
  | .bld T (some i) n c, .bld T' (some j) n' c' => σ[i]? = some j ∧ T = T' ∧ n = n' ∧ c = c'
  | .brow U c l, .brow U' c' l' => U = U' ∧ c = c' ∧ l = l'
  | .tok n, .tok m => n = m
  | .dead, .dead => True
  | .res, .res => True
  | .dead, o => ¬ (∃ n, o = .tok n)
  | _, _ => False
theorem RenO.live {σ : List Nat} {o' o : HObj} (hr : RenO σ o' o) (hl : o'.live) : o.live := by
  cases o' <;> cases o <;> simp only [RenO] at hr <;> first
    | trivial
    | exact hl.elim
    | exact hr.elim
    | (rename_i a _ _ _ b _ _ _; cases a <;> cases b <;> first | trivial | exact hr.elim)
    | (rename_i a _ _ _; cases a <;> exact hr.elim)
theorem RenO.tok {σ : List Nat} {o' o : HObj} (hr : RenO σ o' o) : (match o' with | .tok n => n | _ => 0) = (match o with | .tok n => n | _ => 0) := by
  cases o' <;> cases o <;> simp only [RenO] at hr <;> first
    | rfl
    | exact hr
    | exact hr.elim
    | (exfalso; exact hr ⟨_, rfl⟩)
    | (rename_i a _ _ _; cases a <;> exact hr.elim)
theorem RenO.ok {σ : List Nat} {K : GK} {w : World} {b : Nat} {o' o : HObj} (hr : RenO σ o' o) (ho : ObjOk K w b o) : ObjOk (K.ren σ) w b o' := by
  cases o' with
  | cells xs =>
    cases o <;> simp only [RenO] at hr
    rename_i ys
    obtain ⟨c, e, fr, h1, h2, h3, h4⟩ := ho
    refine ⟨c, e, fr, h1, by omega, h3, fun j x hx => ?_⟩
    obtain ⟨y, hy⟩ := get_of_lt (l := ys) (j := j) (by rw [← hr.1]; exact lt_of_get hx)
    obtain ⟨_, v, h5, h6⟩ := h4 j y hy
    obtain ⟨h7, h8⟩ := hr.2 j x y hx hy
    exact ⟨h8, v, h5, h7.V h6⟩
  | map es c =>
    cases o <;> simp only [RenO] at hr
    rename_i fs d
    obtain ⟨rfl, hl, hr⟩ := hr
    obtain ⟨ms, h1, h2, h3⟩ := ho
    refine ⟨ms, h1, by omega, fun j n x y hx => ?_⟩
    obtain ⟨⟨n', x', y'⟩, hy⟩ := get_of_lt (l := fs) (j := j) (by rw [← hl]; exact lt_of_get hx)
    obtain ⟨m, h4, h5, _, _, h6, h7⟩ := h3 j n' x' y' hy
    obtain ⟨rfl, g1, g2, g3, g4⟩ := hr j n n' x y x' y' hx hy
    exact ⟨m, h4, h5, g3, g4, g1.V h6, g2.V h7⟩
  | iter a p q r =>
    cases o with
    | iter a' p' q' r' =>
      cases a with
      | none =>
        cases a' with
        | none =>
          simp only [RenO] at hr
          obtain ⟨rfl, rfl, rfl⟩ := hr
          exact ho
        | some _ => simp only [RenO] at hr
      | some i =>
        cases a' with
        | none => simp only [RenO] at hr
        | some j =>
          simp only [RenO] at hr
          obtain ⟨h1, rfl, rfl, rfl⟩ := hr
          obtain ⟨b', h2, h3⟩ := ho
          exact ⟨b', by simp [GK.ren, h1, h2], h3⟩
    | _ => cases a <;> simp only [RenO] at hr
  | siter s p =>
    cases o <;> simp only [RenO] at hr
    obtain ⟨rfl, rfl⟩ := hr
    exact ho
  | bld T r n c =>
    cases o with
    | bld T' r' n' c' =>
      cases r with
      | none =>
        cases r' with
        | none =>
          simp only [RenO] at hr
          obtain ⟨rfl, rfl, rfl⟩ := hr
          exact ho
        | some _ => simp only [RenO] at hr
      | some i =>
        cases r' with
        | none => simp only [RenO] at hr
        | some j =>
          simp only [RenO] at hr
          obtain ⟨h1, rfl, rfl, rfl⟩ := hr
          obtain ⟨g, h2, h3⟩ := ho
          exact ⟨g, by simp [GK.ren, h1, h2], h3⟩
    | _ => cases r <;> simp only [RenO] at hr
  | brow U c l =>
    cases o <;> simp only [RenO] at hr
    obtain ⟨rfl, rfl, rfl⟩ := hr
    exact ho
  | tok n => cases o <;> simp only [RenO] at hr; exact ho
  | dead => trivial
  | res => cases o <;> simp only [RenO] at hr; exact ho
theorem nodup_inj : ∀ {l : List Nat}, l.Nodup → ∀ (i j k : Nat), l[i]? = some k → l[j]? = some k → i = j
  | [], _, i, j, k, h, _ => by simp at h
  | a :: l, hn, i, j, k, hi, hj => by
    obtain ⟨h1, h2⟩ := List.nodup_cons.1 hn
    cases i with
    | zero =>
      cases j with
      | zero => rfl
      | succ j =>
        simp at hi hj
        subst hi
        exact absurd (List.mem_of_getElem? hj) h1
    | succ i =>
      cases j with
      | zero =>
        simp at hi hj
        subst hj
        exact absurd (List.mem_of_getElem? hi) h1
      | succ j => rw [nodup_inj h2 i j k (by simpa using hi) (by simpa using hj)]
theorem WeakF.ren {m : Nat} {e e' : Env} {h h' : Heap} (σ : List Nat) (hid : ∀ i, i < m → σ[i]? = some i) (hnd : σ.Nodup) (hlen : h'.length = σ.length) (hobj : ∀ (i j : Nat) (o' : HObj), h'[i]? = some o' → σ[i]? = some j → ∃ o, h[j]? = some o ∧ RenO σ o' o ∧ o' ≠ .tok 0)
    (henv : ∀ t x', e'.get t = some x' → ∃ x, e.get t = some x ∧ (Ren σ x' x ∨ Ren σ x' x.strip1)) : WeakF m e h e' h' := by
  intro N K0 w0 K w a hb s r
  obtain ⟨ds, dk, r⟩ := r
  have hinj := nodup_inj hnd
  have hσ : ∀ {i b : Nat} {f : Nat → Option Nat}, (σ[i]?).bind f = some b → ∃ j : Nat, σ[i]? = some j ∧ f j = some b := fun h => Option.bind_eq_some_iff.1 h
  have hown : ∀ b, owned (K.ren σ) b → owned K b := by
    rintro b (⟨i, h1⟩ | ⟨i, h1⟩)
    · obtain ⟨j, _, h2⟩ := hσ h1; exact .inl ⟨j, h2⟩
    · obtain ⟨j, _, h2⟩ := hσ h1; exact .inr ⟨j, h2⟩
  have hget : ∀ {i j : Nat}, σ[i]? = some j → ∃ o', h'[i]? = some o' := fun hi => get_of_lt (by rw [hlen]; exact lt_of_get hi)
  have hwm : ∀ i, (K.ren σ).wm i = match h'[i]? with | some (.tok n) => n | _ => 0 := by
    intro i
    simp only [GK.ren]
    cases hi : σ[i]? with
    | none =>
      have : h'[i]? = none := List.getElem?_eq_none (by rw [hlen]; exact List.getElem?_eq_none_iff.1 hi)
      rw [this]
    | some j =>
      obtain ⟨o', ho'⟩ := hget hi
      obtain ⟨o, h1, h2, _⟩ := hobj i j o' ho' hi
      have := h2.tok
      simp only
      rw [r.heap.wm j, h1, ho']
      cases o' <;> cases o <;> exact this.symm
  refine ⟨K.ren σ, ⟨s.os, s.tape, s.output, s.size, s.lim, fun k => ?_, fun k hk => ?_, fun id b hid' => ?_, s.cell, s.shape, fun b hlt ho => s.own b hlt (hown b ho), fun b hlt ho => s.frame b hlt ho⟩, ⟨ds, dk.names hown, ⟨fun id b hr => ?_, fun i j b x y hi hj hx hy lx ly => ?_, hwm, fun k b hk => ?_, fun i j b hi hj => ?_, r.heap.limb.view (fun _ => rfl) (fun b _ ho => hown b ho)⟩, fun t x hx => ?_, r.size, r.defers⟩⟩
  · rcases Nat.lt_or_ge k m with hk | hk
    · simp only [GK.ren, hid k hk]; exact s.wm k
    · rw [(hb k hk).2.2]; exact Nat.zero_le _
  · rcases Nat.lt_or_ge k m with hkm | hkm
    · simp only [GK.ren, hid k hkm] at hk ⊢
      exact s.tok k hk
    · obtain ⟨_, h2, h3⟩ := hb k hkm
      refine ⟨?_, fun b h => by rw [h2] at h; cases h⟩
      rw [h2]
      simp only [GK.ren]
      cases hi : σ[k]? with
      | none => rfl
      | some j =>
        cases ht : K.tb j with
        | none => simp [ht]
        | some b =>
          exfalso
          obtain ⟨_, ⟨n, hn⟩, _⟩ := r.heap.tok j b ht
          obtain ⟨o', ho'⟩ := hget hi
          obtain ⟨o, h4, h5, h6⟩ := hobj k j o' ho' hi
          rw [hn] at h4
          injection h4 with h4
          subst h4
          have h7 := h5.tok
          rw [hwm k, ho', h3] at hk
          cases o' <;> simp only [RenO] at h5 <;> first
            | (subst h5; simp at hk; exact h6 (by rw [hk]))
            | exact h5 ⟨_, rfl⟩
            | (rename_i q _ _ _; cases q <;> exact h5.elim)
  · have hkm : id < m := by
      rcases Nat.lt_or_ge id m with h | h
      · exact h
      · rw [(hb id h).1] at hid'; cases hid'
    simp only [GK.ren, hid id hkm]
    exact s.rho id b hid'
  · obtain ⟨j, h1, h2⟩ := hσ hr
    obtain ⟨o', ho'⟩ := hget h1
    obtain ⟨o, h3, h4, _⟩ := hobj id j o' ho' h1
    obtain ⟨g1, o2, g2, g3, g4⟩ := r.heap.obj j b h2
    rw [h3] at g2
    injection g2 with g2
    subst g2
    exact ⟨g1, o', ho', h4.ok g3, fun hl => g4 (h4.live hl)⟩
  · obtain ⟨i', h1, h2⟩ := hσ hi
    obtain ⟨j', h3, h4⟩ := hσ hj
    obtain ⟨o1, h5, h6, _⟩ := hobj i i' x hx h1
    obtain ⟨o2, h7, h8, _⟩ := hobj j j' y hy h3
    have := r.heap.inj i' j' b o1 o2 h2 h4 h5 h7 (h6.live lx) (h8.live ly)
    subst this
    exact hinj i j i' h1 h3
  · obtain ⟨j, h1, h2⟩ := hσ hk
    obtain ⟨g1, ⟨n, g2⟩, g3, g4⟩ := r.heap.tok j b h2
    obtain ⟨o', ho'⟩ := hget h1
    obtain ⟨o, h3, h4, _⟩ := hobj k j o' ho' h1
    rw [g2] at h3
    injection h3 with h3
    subst h3
    refine ⟨g1, ⟨n, ?_⟩, fun id o hid2 ho2 hl => ?_, g4⟩
    · cases o' <;> simp only [RenO] at h4 <;> first
        | (subst h4; exact ho')
        | (exfalso; exact h4 ⟨_, rfl⟩)
        | (rename_i q _ _ _; cases q <;> exact h4.elim)
    · obtain ⟨i', h5, h6⟩ := hσ hid2
      obtain ⟨o2, h7, h8, _⟩ := hobj id i' o ho2 h5
      exact g3 i' o2 h6 h7 (h8.live hl)
  · obtain ⟨i', h1, h2⟩ := hσ hi
    obtain ⟨j', h3, h4⟩ := hσ hj
    have := r.heap.tinj i' j' b h2 h4
    subst this
    exact hinj i j i' h1 h3
  · obtain ⟨y, h1, h2⟩ := henv t x hx
    rcases h2 with h2 | h2
    · exact h2.V (r.env t y h1)
    · exact h2.V (r.env t y h1).strip1
end Go.Hw

set_option linter.unusedVariables false
set_option linter.unusedSimpArgs false
namespace Go.Hw
open Go

variable {P : Program} {N m : Nat} {S D : CallP} {b : Nat} {r : List Op} {e e' : Env} {h h' : Heap} {Q : Env → Heap → Prop} {QQ : Ex → Env → Heap → Prop} {d : Nat} {x y z : X}


abbrev eInt (k : IntKind) (n : Int) : HV := .int k n
abbrev eBool (b : Bool) : HV := .bool b
abbrev eStr (s : List UInt8) : HV := .str s
abbrev eLst {A : Type} (f : A → HV) (l : List A) : HV := .list (l.map f) .none
structure Enc {A : Type} (f : A → HV) (sz : Nat) : Prop where
  pv : ∀ a, ∀ x ∈ (f a).cells, PV x
  wid : ∀ a, (f a).cells.length = sz
  tup : ∀ a, isTuple (f a) = false
  str : ∀ a, (f a).strip1 = f a
theorem enc_int (k : IntKind) : Enc (eInt k) 1 := ⟨fun a x hx => by simp [HV.cells] at hx; subst hx; exact .int _ _, fun _ => rfl, fun _ => rfl, fun _ => rfl⟩
theorem enc_bool : Enc eBool 1 := ⟨fun a x hx => by simp [HV.cells] at hx; subst hx; exact .bool _, fun _ => rfl, fun _ => rfl, fun _ => rfl⟩
theorem enc_str : Enc eStr 1 := ⟨fun a x hx => by simp [HV.cells] at hx; subst hx; exact .str _, fun _ => rfl, fun _ => rfl, fun _ => rfl⟩
theorem enc_byte : Enc (fun c : UInt8 => HV.int .u8 c.toNat) 1 := ⟨fun a x hx => by simp [HV.cells] at hx; subst hx; exact .int _ _, fun _ => rfl, fun _ => rfl, fun _ => rfl⟩
theorem pv_lst {A : Type} {f : A → HV} {sz : Nat} (hf : Enc f sz) (l : List A) (tok : Tok) (ht : ∀ k o s, tok ≠ .own k o s) : PV (.list (l.map f) tok) := pv_map hf.pv l tok ht
theorem enc_lst {A : Type} {f : A → HV} {sz : Nat} (hf : Enc f sz) : Enc (eLst f) 1 := ⟨fun a x hx => by simp [HV.cells] at hx; subst hx; exact pv_lst hf a .none (by simp), fun _ => rfl, fun _ => rfl, fun _ => rfl⟩
theorem enc_bytes : Enc eB 1 := ⟨fun a x hx => by simp [HV.cells] at hx; subst hx; exact pv_eB a, fun _ => rfl, fun _ => rfl, fun _ => rfl⟩
theorem pv_cells {x : HV} (h : ∀ y ∈ x.cells, PV y) (ht : isTuple x = false) : PV x := by
  cases x with
  | agg cs => exact .agg cs h
  | tuple vs => simp [isTuple] at ht
  | _ => exact h _ (by simp [HV.cells])
theorem Enc.all {A : Type} {f : A → HV} {sz : Nat} (hf : Enc f sz) (a : A) : PV (f a) := pv_cells (hf.pv a) (hf.tup a)
theorem wid_map {A : Type} {f : A → HV} {sz : Nat} (hf : Enc f sz) (l : List A) : ∀ v ∈ l.map f, v.cells.length = sz := fun v hv => by
  obtain ⟨a, _, rfl⟩ := List.mem_map.1 hv
  exact hf.wid a


def JoinS {A : Type} (m : Nat) (J : A → Prop) (st : A → Env × Heap) (QQ : Ex → Env → Heap → Prop) : Ex → Env → Heap → Prop
  | .normal, e, h => ∃ x, J x ∧ WeakF m e h (st x).1 (st x).2
  | q, e, h => QQ q e h
theorem sc_join {A : Type} (J : A → Prop) (st : A → Env × Heap) {p q : C} (kb : ∀ x, J x → SC P N m q QQ (st x).1 (st x).2) (ka : SC P N m p (JoinS m J st QQ) e h) : SC P N m (.seq p q) QQ e h := by
  refine sc_seq (ka.mono fun x e h hx => ?_)
  cases x with
  | normal => obtain ⟨x, h1, h2⟩ := hx; exact (kb x h1).weak h2
  | exit i => exact hx
  | ret => exact hx
theorem sq_n {c : C} (k : SC P N m c QQ e h) : SeqS P N m c QQ .normal e h := k
theorem sq_x {c : C} {i : Nat} (k : QQ (.exit i) e h) : SeqS P N m c QQ (.exit i) e h := k
theorem sq_r {c : C} (k : QQ .ret e h) : SeqS P N m c QQ .ret e h := k
theorem bl_n {id : Nat} (k : QQ .normal e h) : BlkS id QQ .normal e h := k
theorem bl_r {id : Nat} (k : QQ .ret e h) : BlkS id QQ .ret e h := k
theorem bl_x {id : Nat} (k : QQ .normal e h) : BlkS id QQ (.exit id) e h := by simp only [BlkS, if_true]; exact k
theorem lo_n {X : Type} {st : X → Env × Heap} {μ : X → Nat} {x : X} (x' : X) (hm : μ x' < μ x) (hw : WeakF m e h (st x').1 (st x').2) : LoopS m st μ x QQ .normal e h := ⟨x', hm, hw⟩
theorem lo_x {X : Type} {st : X → Env × Heap} {μ : X → Nat} {x : X} {i : Nat} (k : QQ (.exit i) e h) : LoopS m st μ x QQ (.exit i) e h := k
theorem lo_r {X : Type} {st : X → Env × Heap} {μ : X → Nat} {x : X} (k : QQ .ret e h) : LoopS m st μ x QQ .ret e h := k
theorem jo_n {A : Type} {J : A → Prop} {st : A → Env × Heap} (x : A) (hj : J x) (hw : WeakF m e h (st x).1 (st x).2) : JoinS m J st QQ .normal e h := ⟨x, hj, hw⟩
theorem s_reg {ops : List Op} {keep : List Nat} (k : HO (HCalls P) 0 ops e h (Fin QQ keep)) : SC P N m (.reg ops keep) QQ e h := sc_reg k.out
theorem s_dreg (hmix : P.follows .mixedOrders = true) {pre tail : List Op} {n : Nat} {keep : List Nat} {h' : Heap} (hh : h ++ List.replicate n .res = h') (k : HO (DCalls P) h.length pre e h' (Mid (HCalls P) tail (Fin QQ keep))) : SC P N m (.dreg pre tail n keep) QQ e h := by
  subst hh
  exact sc_dreg hmix k.out
theorem s_cond_t {p q : C} (hx : x.ev e = some (.bool true)) (k : SC P N m p QQ e h) : SC P N m (.cond x p q) QQ e h := sc_cond hx (fun _ => k) nofun
theorem s_cond_f {p q : C} (hx : x.ev e = some (.bool false)) (k : SC P N m q QQ e h) : SC P N m (.cond x p q) QQ e h := sc_cond hx nofun fun _ => k
theorem s_cond {p q : C} {t : Bool} (hx : x.ev e = some (.bool t)) {A B : Prop} (hw : (t = true → A) ∧ (t = false → B)) (k1 : A → SC P N m p QQ e h) (k2 : B → SC P N m q QQ e h) : SC P N m (.cond x p q) QQ e h :=
  sc_cond hx (fun ht => k1 (hw.1 ht)) fun ht => k2 (hw.2 ht)
theorem g_end {keep : List Nat} (e' : Env) (hp : prune e keep = e') (k : QQ .normal e' h) : HO S b [] e h (Fin QQ keep) := st_end hp k
theorem g_add {m n : Int} {K : Int → Prop} (hx : x.ev e = some (.int .i64 m)) (hy : y.ev e = some (.int .i64 n)) (hw : (-9223372036854775808 ≤ m + n ∧ m + n ≤ 9223372036854775807) ∧ ∀ t, t = m + n → K t) (k : ∀ t, K t → HO S b r ((d, .int .i64 t) :: e) h Q) : HO S b (⟨some d, .op (.bin .add x y), none⟩ :: r) e h Q :=
  st_add hx hy hw.1 (k _ (hw.2 _ rfl))
theorem g_sub {m n : Int} {K : Int → Prop} (hx : x.ev e = some (.int .i64 m)) (hy : y.ev e = some (.int .i64 n)) (hw : (-9223372036854775808 ≤ m - n ∧ m - n ≤ 9223372036854775807) ∧ ∀ t, t = m - n → K t) (k : ∀ t, K t → HO S b r ((d, .int .i64 t) :: e) h Q) : HO S b (⟨some d, .op (.bin .sub x y), none⟩ :: r) e h Q :=
  st_sub hx hy hw.1 (k _ (hw.2 _ rfl))
theorem g_rem {i : IntKind} {m n : Int} {K : Int → Prop} (hx : x.ev e = some (.int i m)) (hy : y.ev e = some (.int i n)) (hw : n ≠ 0 ∧ ∀ t, t = m.tmod n → K t) (k : ∀ t, K t → HO S b r ((d, .int i t) :: e) h Q) : HO S b (⟨some d, .op (.bin .rem x y), none⟩ :: r) e h Q :=
  st_rem hx hy hw.1 (k _ (hw.2 _ rfl))
theorem g_lss {i : IntKind} {m n : Int} {A B : Prop} (hx : x.ev e = some (.int i m)) (hy : y.ev e = some (.int i n)) (hw : (m < n → A) ∧ (n ≤ m → B)) (k1 : A → HO S b r ((d, .bool true) :: e) h Q) (k2 : B → HO S b r ((d, .bool false) :: e) h Q) : HO S b (⟨some d, .op (.bin .lss x y), none⟩ :: r) e h Q :=
  st_lss hx hy (fun c => k1 (hw.1 c)) fun c => k2 (hw.2 c)
theorem g_leq {i : IntKind} {m n : Int} {A B : Prop} (hx : x.ev e = some (.int i m)) (hy : y.ev e = some (.int i n)) (hw : (m ≤ n → A) ∧ (n < m → B)) (k1 : A → HO S b r ((d, .bool true) :: e) h Q) (k2 : B → HO S b r ((d, .bool false) :: e) h Q) : HO S b (⟨some d, .op (.bin .leq x y), none⟩ :: r) e h Q :=
  st_leq hx hy (fun c => k1 (hw.1 c)) fun c => k2 (hw.2 c)
theorem g_gtr {i : IntKind} {m n : Int} {A B : Prop} (hx : x.ev e = some (.int i m)) (hy : y.ev e = some (.int i n)) (hw : (n < m → A) ∧ (m ≤ n → B)) (k1 : A → HO S b r ((d, .bool true) :: e) h Q) (k2 : B → HO S b r ((d, .bool false) :: e) h Q) : HO S b (⟨some d, .op (.bin .gtr x y), none⟩ :: r) e h Q :=
  st_gtr hx hy (fun c => k1 (hw.1 c)) fun c => k2 (hw.2 c)
theorem g_geq {i : IntKind} {m n : Int} {A B : Prop} (hx : x.ev e = some (.int i m)) (hy : y.ev e = some (.int i n)) (hw : (n ≤ m → A) ∧ (m < n → B)) (k1 : A → HO S b r ((d, .bool true) :: e) h Q) (k2 : B → HO S b r ((d, .bool false) :: e) h Q) : HO S b (⟨some d, .op (.bin .geq x y), none⟩ :: r) e h Q :=
  st_geq hx hy (fun c => k1 (hw.1 c)) fun c => k2 (hw.2 c)
theorem g_eqi {i : IntKind} {m n : Int} {A B : Prop} (hx : x.ev e = some (.int i m)) (hy : y.ev e = some (.int i n)) (hw : (m = n → A) ∧ (m ≠ n → B)) (k1 : A → HO S b r ((d, .bool true) :: e) h Q) (k2 : B → HO S b r ((d, .bool false) :: e) h Q) : HO S b (⟨some d, .op (.eqv false .int x y), none⟩ :: r) e h Q :=
  st_eqi hx hy (fun c => k1 (hw.1 c)) fun c => k2 (hw.2 c)
theorem g_nei {i : IntKind} {m n : Int} {A B : Prop} (hx : x.ev e = some (.int i m)) (hy : y.ev e = some (.int i n)) (hw : (m ≠ n → A) ∧ (m = n → B)) (k1 : A → HO S b r ((d, .bool true) :: e) h Q) (k2 : B → HO S b r ((d, .bool false) :: e) h Q) : HO S b (⟨some d, .op (.eqv true .int x y), none⟩ :: r) e h Q :=
  st_nei hx hy (fun c => k1 (hw.1 c)) fun c => k2 (hw.2 c)
theorem g_eqs {m n : List UInt8} {A B : Prop} (hx : x.ev e = some (.str m)) (hy : y.ev e = some (.str n)) (hw : (m = n → A) ∧ (m ≠ n → B)) (k1 : A → HO S b r ((d, .bool true) :: e) h Q) (k2 : B → HO S b r ((d, .bool false) :: e) h Q) : HO S b (⟨some d, .op (.eqv false .str x y), none⟩ :: r) e h Q :=
  st_eqs hx hy (fun c => k1 (hw.1 c)) fun c => k2 (hw.2 c)
theorem g_nes {m n : List UInt8} {A B : Prop} (hx : x.ev e = some (.str m)) (hy : y.ev e = some (.str n)) (hw : (m ≠ n → A) ∧ (m = n → B)) (k1 : A → HO S b r ((d, .bool true) :: e) h Q) (k2 : B → HO S b r ((d, .bool false) :: e) h Q) : HO S b (⟨some d, .op (.eqv true .str x y), none⟩ :: r) e h Q :=
  st_nes hx hy (fun c => k1 (hw.1 c)) fun c => k2 (hw.2 c)
theorem gb_cmp {op : BinOp} {i : IntKind} {m n : Int} {t0 : Bool} {K : Bool → Prop} (hx : x.ev e = some (.int i m)) (hy : y.ev e = some (.int i n)) (h1 : ibinOk op n) (h2 : ibin op i m n = some (.bool t0)) (hw : ∀ t, t = t0 → K t) (k : ∀ t, K t → HO S b r ((d, .bool t) :: e) h Q) : HO S b (⟨some d, .op (.bin op x y), none⟩ :: r) e h Q :=
  st_bin hx hy (.inl rfl) h1 h2 (k _ (hw _ rfl))
theorem gb_eqi {neg : Bool} {i : IntKind} {m n : Int} {K : Bool → Prop} (hx : x.ev e = some (.int i m)) (hy : y.ev e = some (.int i n)) (hw : ∀ t, t = (if neg then !(m == n) else m == n) → K t) (k : ∀ t, K t → HO S b r ((d, .bool t) :: e) h Q) : HO S b (⟨some d, .op (.eqv neg .int x y), none⟩ :: r) e h Q :=
  st_eqv hx hy (by simp) rfl fun t ht => by simp only [HV.eqs] at ht; subst ht; exact k _ (hw _ rfl)
theorem g_split {t : Bool} {o : OC} {dst : Option Nat} {u : Nat} {c : Bool} {A B : Prop} (hg : e.get u = some (.bool t)) (hw : (t = true → A) ∧ (t = false → B)) (k1 : t = true → A → HO S b (⟨dst, o, some (u, c)⟩ :: r) e h Q) (k2 : t = false → B → HO S b (⟨dst, o, some (u, c)⟩ :: r) e h Q) : HO S b (⟨dst, o, some (u, c)⟩ :: r) e h Q := by
  cases t with
  | true => exact k1 rfl (hw.1 rfl)
  | false => exact k2 rfl (hw.2 rfl)
theorem g_eqn {hs : List HV} {tok : Tok} {A B : Prop} (hx : x.ev e = some (.list hs tok)) (hy : y.ev e = some .nilslice) (hw : (hs.length = 0 → A) ∧ B) (k1 : A → HO S b r ((d, .bool true) :: e) h Q) (k2 : B → HO S b r ((d, .bool false) :: e) h Q) : HO S b (⟨some d, .op (.eqv false .slice x y), none⟩ :: r) e h Q :=
  st_eqn hx hy (fun c => k1 (hw.1 (by rw [c]; rfl))) (k2 hw.2)
theorem g_neg {m : Int} {K : Int → Prop} (hx : x.ev e = some (.int .i64 m)) (hw : (-9223372036854775807 ≤ m ∧ m ≤ 9223372036854775807) ∧ ∀ t, t = -m → K t) (k : ∀ t, K t → HO S b r ((d, .int .i64 t) :: e) h Q) : HO S b (⟨some d, .op (.un .neg x), none⟩ :: r) e h Q :=
  st_neg hx hw.1 (k _ (hw.2 _ rfl))
theorem g_conv {i j : IntKind} {m : Int} {K : Int → Prop} (hx : x.ev e = some (.int j m)) (hw : ∀ t, t = i.wrap m → K t) (k : ∀ t, K t → HO S b r ((d, .int i t) :: e) h Q) : HO S b (⟨some d, .op (.conv (.int i) x), none⟩ :: r) e h Q :=
  st_convw hx (k _ (hw _ rfl))
theorem g_max {i : IntKind} {m n : Int} {K : Int → Prop} (hx : x.ev e = some (.int i m)) (hy : y.ev e = some (.int i n)) (hw : ∀ t, t = max m n → K t) (k : ∀ t, K t → HO S b r ((d, .int i t) :: e) h Q) : HO S b (⟨some d, .op (.max [x, y]), none⟩ :: r) e h Q :=
  st_max2 hx hy rfl (k _ (hw _ rfl))


theorem g_sadd {m n : List UInt8} {K : List UInt8 → Prop} (hx : x.ev e = some (.str m)) (hy : y.ev e = some (.str n)) (hw : m.length + n.length ≤ 9223372036854775807 ∧ ∀ t, t = m ++ n → K t) (k : ∀ t, K t → HO S b r ((d, .str t) :: e) h Q) : HO S b (⟨some d, .op (.bin .add x y), none⟩ :: r) e h Q :=
  st_sbin hx hy hw.1 rfl (k _ (hw.2 _ rfl))
theorem g_sslice {s : List UInt8} {lo hi : Option X} {p q : Int} {K : List UInt8 → Prop} (hx : x.ev e = some (.str s)) (hl : bnd e 0 lo = some p) (hh : bnd e s.length hi = some q) (hw : (0 ≤ p ∧ p ≤ q ∧ q ≤ s.length) ∧ ∀ t, t = (s.take q.toNat).drop p.toNat → K t) (k : ∀ t, K t → HO S b r ((d, .str t) :: e) h Q) : HO S b (⟨some d, .op (.sslice x lo hi), none⟩ :: r) e h Q := by
  refine ⟨?_⟩
  simp only [hops, hcall, hstep, hx, hl, hh]
  exact ⟨hw.1, (k _ (hw.2 _ rfl)).out⟩


theorem g_len {A : Type} {l : List A} {f : A → HV} {tok : Tok} (hx : x.ev e = some (.list (l.map f) tok)) (k : HO S b r ((d, .int .i64 l.length) :: e) h Q) : HO S b (⟨some d, .op (.len false x), none⟩ :: r) e h Q :=
  st_len hx (List.length_map ..) k
theorem g_iaddr {A : Type} {l : List A} {f : A → HV} {sz : Nat} {tok : Tok} {n : Int} {i : IntKind} {K : A → Prop} (hf : Enc f sz) (hx : x.ev e = some (.list (l.map f) tok)) (hy : y.ev e = some (.int i n)) (hw : (0 ≤ n ∧ n < l.length) ∧ ∀ a, l[n.toNat]? = some a → K a) (k : ∀ a, K a → HO S b r ((d, .rptr (f a).cells) :: e) h Q) : HO S b (⟨some d, .op (.iaddr sz x y), none⟩ :: r) e h Q :=
  st_iaddr hx hy hw.1 hf.wid fun a ha => k a (hw.2 a ha)
theorem g_appo {A : Type} {l ys : List A} {f : A → HV} {t : Tok} {sz by_ id : Nat} {K : List A → Prop} (hf : Enc f sz) (hx : x.ev e = some (.list (l.map f) (.own id 1 sz))) (hy : y.ev e = some (.list (ys.map f) t)) (h4 : Heap.tokAt h id = some (1 + l.length)) (hw : (l.length + ys.length) * by_ ≤ 140737488355328 ∧ ∀ t, t = l ++ ys → K t) (h' : List A → Heap) (hh : ∀ t : List A, h.set id (.tok (1 + t.length)) = h' t) (k : ∀ t, K t → HO S b r ((d, .list (t.map f) (.own id 1 sz)) :: e) (h' t) Q) : HO S b (⟨some d, .op (.append sz by_ x y), none⟩ :: r) e h Q :=
  st_app_own (m := 1 + (l ++ ys).length) hx hy (by rw [List.map_map]; exact List.map_congr_left fun a _ => hf.str a) (by simpa using hw.1) (fun v hv => by obtain ⟨a, _, rfl⟩ := List.mem_map.1 hv; exact ⟨hf.wid a, hf.tup a⟩) (by simpa using h4) (List.map_append ..).symm (by simp) (hh (l ++ ys)) (k _ (hw.2 _ rfl))
theorem g_mkl {A : Type} {f : A → HV} {sz : Nat} {xs : List X} {vs : List HV} (hf : Enc f sz) (l : List A) (hx : evs e xs = some vs) (hl : vs.map HV.strip1 = l.map f) (hv : ∀ v ∈ vs, v.cells.length = sz ∧ isTuple v = false) (k : HO S b r ((d, .list (l.map f) .full) :: e) h Q) : HO S b (⟨some d, .op (.mklist sz xs), none⟩ :: r) e h Q :=
  st_mklist hx hv hl k

end Go.Hw

set_option linter.unusedVariables false
set_option linter.unusedSimpArgs false
namespace Go.Hw
open Go

variable {P : Program} {N m : Nat} {S D : CallP} {b : Nat} {r : List Op} {e e' : Env} {h h' : Heap} {Q : Env → Heap → Prop} {QQ : Ex → Env → Heap → Prop} {d : Nat} {x y z : X}

theorem mkn {p : HV → Prop} : ∀ v ∈ ([] : List HV), p v := by simp
theorem mkc {p : HV → Prop} {a : HV} {l : List HV} (h1 : p a) (h2 : ∀ v ∈ l, p v) : ∀ v ∈ a :: l, p v := by
  intro v hv
  rcases List.mem_cons.1 hv with rfl | hv
  · exact h1
  · exact h2 v hv
theorem pvn : ∀ x ∈ ([] : List HV), PV x := mkn
theorem pvc {a : HV} {l : List HV} (h1 : PV a) (h2 : ∀ x ∈ l, PV x) : ∀ x ∈ a :: l, PV x := mkc h1 h2
theorem g_build {zs cs : List HV} {ps : List (Nat × Nat × X)} {l : List (Nat × Nat × HV)} (hx : evParts e ps = some l) (h1 : fillCells zs l = some cs) (k : HO S b r ((d, .agg cs) :: e) h Q) : HO S b (⟨some d, .op (.build zs ps), none⟩ :: r) e h Q := by
  refine ⟨?_⟩
  simp only [hops, hcall, hstep, hx, h1]
  exact k.out
theorem g_eqn2 {T : Type} {l : List T} {f : T → HV} {tok : Tok} {A B : Prop} (hx : x.ev e = some (.list (l.map f) tok)) (hy : y.ev e = some .nilslice) (hw : (l.length = 0 → A) ∧ B) (k1 : A → HO S b r ((d, .bool true) :: e) h Q) (k2 : B → HO S b r ((d, .bool false) :: e) h Q) : HO S b (⟨some d, .op (.eqv false .slice x y), none⟩ :: r) e h Q :=
  g_eqn hx hy (by rw [List.length_map]; exact hw) k1 k2
def RenE (σ : List Nat) (e : Env) : Env → Prop
  | [] => True
  | (t, x') :: r => (∃ x, e.get t = some x ∧ (Ren σ x' x ∨ Ren σ x' x.strip1)) ∧ RenE σ e r
def RenH (σ0 : List Nat) (h : Heap) : List Nat → Heap → Prop
  | [], [] => True
  | j :: σ, o' :: h' => (∃ o, h[j]? = some o ∧ RenO σ0 o' o ∧ o' ≠ .tok 0) ∧ RenH σ0 h σ h'
  | _, _ => False
theorem RenH.get {σ0 : List Nat} {h : Heap} : ∀ {σ : List Nat} {h' : Heap}, RenH σ0 h σ h' → h'.length = σ.length ∧ ∀ (i j : Nat) (o' : HObj), h'[i]? = some o' → σ[i]? = some j → ∃ o, h[j]? = some o ∧ RenO σ0 o' o ∧ o' ≠ .tok 0
  | [], [], _ => ⟨rfl, fun i j o' h1 => by simp at h1⟩
  | j :: σ, o' :: h', ⟨h1, h2⟩ => by
    obtain ⟨h3, h4⟩ := h2.get
    refine ⟨by simp [h3], fun i k o h5 h6 => ?_⟩
    cases i with
    | zero => simp at h5 h6; subst h5; subst h6; exact h1
    | succ i => simp at h5 h6; exact h4 i k o h5 h6
theorem RenE.get {σ : List Nat} : ∀ {e' : Env}, RenE σ e e' → ∀ t x', e'.get t = some x' → ∃ x, e.get t = some x ∧ (Ren σ x' x ∨ Ren σ x' x.strip1)
  | [], _, t, x', h => by simp [Env.get] at h
  | (u, y) :: r, ⟨h1, h2⟩, t, x', h => by
    simp only [Env.get] at h
    split at h
    · rename_i hu
      injection h with h
      subst h
      have : u = t := by simpa using hu
      subst this
      exact h1
    · exact h2.get t x' h
theorem weak_ren (σ : List Nat) (hid : ∀ i, i < m → σ[i]? = some i) (hnd : σ.Nodup) (hh : RenH σ h σ h') (he : RenE σ e e') : WeakF m e h e' h' :=
  WeakF.ren σ hid hnd hh.get.1 hh.get.2 he.get
theorem ro_nil {σ0 : List Nat} : RenH σ0 h [] [] := trivial
theorem ro_tok {σ0 σ : List Nat} {j n : Nat} (h1 : h[j]? = some (.tok (1 + n))) (h2 : RenH σ0 h σ h') : RenH σ0 h (j :: σ) (.tok (1 + n) :: h') := ⟨⟨_, h1, rfl, by simp⟩, h2⟩
theorem re_nil {σ : List Nat} : RenE σ e [] := trivial
theorem re_cons {σ : List Nat} {t : Nat} {x' u : HV} (h1 : e.get t = some u) (h2 : Ren σ x' u) (h3 : RenE σ e e') : RenE σ e ((t, x') :: e') := ⟨⟨u, h1, .inl h2⟩, h3⟩
theorem re_cons1 {σ : List Nat} {t : Nat} {x' u : HV} (h1 : e.get t = some u) (h2 : Ren σ x' u.strip1) (h3 : RenE σ e e') : RenE σ e ((t, x') :: e') := ⟨⟨u, h1, .inr h2⟩, h3⟩
theorem w_acc {A : Type} {l : List A} {f : A → HV} (t sz : Nat) {n : Nat} (hn : h.length = n) (hf : Enc f sz) (hg : e.get t = some (.list (l.map f) .full)) : WeakF m e h ((t, .list (l.map f) (.own n 1 sz)) :: e) (h ++ [.tok (1 + l.length)]) := by
  subst hn
  have := Weak.acc (h := h) t sz (l.map f) hg (wid_map hf l)
  rw [List.length_map] at this
  exact WeakF.of this
theorem pv_flat {A : Type} {f : A → HV} {sz : Nat} (hf : Enc f sz) (l : List A) : ∀ (x : HV), x ∈ flat (l.map f) → PV x := by
  cases pv_lst hf l .none (by simp) with
  | list _ _ _ h => exact h
end Go.Hw

set_option linter.unusedVariables false
set_option linter.unusedSimpArgs false
namespace Go.Hw
open Go

variable {P : Program} {N m : Nat} {S D : CallP} {b : Nat} {r : List Op} {e e' : Env} {h h' : Heap} {Q : Env → Heap → Prop} {QQ : Ex → Env → Heap → Prop} {d : Nat} {x y z : X}


theorem g_alloc {zs : List HV} {n : Nat} (hn : h.length = n) (hh : h ++ [.cells zs] = h') (k : HO S b r ((d, .ptr n 0) :: e) h' Q) : HO S b (⟨some d, .op (.alloc none zs), none⟩ :: r) e h Q := by
  subst hn; subst hh
  refine ⟨?_⟩
  simp only [hops, hcall, hstep, hnew]
  exact k.out
theorem g_box {v : HV} {w n : Nat} (hx : x.ev e = some v) (h1 : v.cells.length = w) (h2 : isTuple v = false) (hn : h.length = n) (hh : h ++ [.cells v.cells] = h') (k : HO S b r ((d, .ptr n 0) :: e) h' Q) : HO S b (⟨some d, .op (.box none w x), none⟩ :: r) e h Q := by
  subst hn; subst hh
  refine ⟨?_⟩
  simp only [hops, hcall, hstep, hnew, hx]
  exact ⟨⟨h1, h2⟩, k.out⟩
theorem g_load_p {n : Option Nat} {id off : Nat} {cs : List HV} {v : HV} (hx : x.ev e = some (.ptr id off)) (hc : h[id]? = some (.cells cs)) (h1 : atCells n (cs.drop off) = some v) (k : HO S b r ((d, v) :: e) h Q) : HO S b (⟨some d, .op (.load n x), none⟩ :: r) e h Q := by
  refine ⟨?_⟩
  simp only [hops, hcall, hstep, hx, Heap.cells, hc, h1]
  exact k.out
theorem g_store_p {n id off : Nat} {cs : List HV} {v : HV} (hx : x.ev e = some (.ptr id off)) (hy : y.ev e = some v) (hc : h[id]? = some (.cells cs)) (h1 : v.cells.length = n ∧ off + n ≤ cs.length ∧ isTuple v = false) (hh : h.set id (.cells (putAt cs off v.cells)) = h') (k : HO S b r e h' Q) : HO S b (⟨none, .op (.store n x y), none⟩ :: r) e h Q := by
  subst hh
  refine ⟨?_⟩
  simp only [hops, hcall, hstep, hx, hy, Heap.cells, hc]
  exact ⟨h1, k.out⟩
theorem g_faddr_p {f n id off : Nat} (hx : x.ev e = some (.ptr id off)) (k : HO S b r ((d, .ptr id (off + f)) :: e) h Q) : HO S b (⟨some d, .op (.faddr f n x), none⟩ :: r) e h Q := by
  refine ⟨?_⟩
  simp only [hops, hcall, hstep, hx]
  exact k.out
theorem g_faddr_r {f n : Nat} {cs : List HV} (hx : x.ev e = some (.rptr cs)) (h1 : f < cs.length) (k : HO S b r ((d, .rptr (cs.drop f)) :: e) h Q) : HO S b (⟨some d, .op (.faddr f n x), none⟩ :: r) e h Q := by
  refine ⟨?_⟩
  simp only [hops, hcall, hstep, hx]
  exact ⟨h1, k.out⟩
structure GM (K V : Type) where
  es : List (Nat × K × V)
  c : Nat
variable {A B : Type}
def GM.nil : GM A B := ⟨[], 0⟩
def GM.obj (fk : A → HV) (fv : B → HV) (m : GM A B) : HObj := .map (m.es.map fun p => (p.1, fk p.2.1, fv p.2.2)) m.c
def GM.idx [DecidableEq A] (m : GM A B) (k : A) : Option Nat := m.es.findIdx? fun p => decide (k = p.2.1)
def GM.get [DecidableEq A] (m : GM A B) (k : A) : Option B := (m.es.find? fun p => decide (k = p.2.1)).map (·.2.2)
def GM.put [DecidableEq A] (m : GM A B) (k : A) (v : B) : GM A B :=
  match m.idx k with
  | some j => match m.es[j]? with
    | some p => ⟨m.es.set j (p.1, k, v), m.c⟩
    | none => m
  | none => ⟨m.es ++ [(m.c, k, v)], m.c + 1⟩
def EncK [DecidableEq A] (fk : A → HV) (kd : EqK) : Prop := ∀ a c : A, keq kd (fk a) (fk c) = some (decide (a = c))
variable [DecidableEq A] {fk : A → HV} {fv : B → HV} {kd : EqK}
end Go.Hw

set_option linter.unusedVariables false
set_option linter.unusedSimpArgs false
namespace Go.Hw
open Go

variable {P : Program} {N m : Nat} {S D : CallP} {b : Nat} {r : List Op} {e e' : Env} {h h' : Heap} {Q : Env → Heap → Prop} {QQ : Ex → Env → Heap → Prop} {d : Nat} {x y z : X}

theorem g_nea {T : Type} [DecidableEq T] {fk : T → HV} {ks : List Sc} {F G : Prop} (hk : EncK fk (.agg ks)) (hag : ∀ a, ∃ cs, fk a = .agg cs) (a c : T) (hx : x.ev e = some (fk a)) (hy : y.ev e = some (fk c)) (hw : (a ≠ c → F) ∧ (a = c → G)) (k1 : F → HO S b r ((d, .bool true) :: e) h Q) (k2 : G → HO S b r ((d, .bool false) :: e) h Q) : HO S b (⟨some d, .op (.eqv true (.agg ks) x y), none⟩ :: r) e h Q := by
  obtain ⟨cs, hcs⟩ := hag a
  obtain ⟨ds, hds⟩ := hag c
  have := hk a c
  rw [hcs] at hx
  rw [hds] at hy
  rw [hcs, hds] at this
  simp only [keq] at this
  refine ⟨?_⟩
  simp only [hops, hcall, hstep, hx, hy, this]
  by_cases hac : a = c
  · simp only [hac, decide_true]; exact (k2 (hw.2 hac)).out
  · simp only [hac, decide_false]; exact (k1 (hw.1 hac)).out
theorem lt_of_blt {a b : Nat} (h : Nat.blt a b = true) : a < b := Nat.le_of_ble_eq_true h


def RenL (σ : List Nat) : List HV → List HV → Prop
  | [], [] => True
  | x :: xs, y :: ys => (Ren σ x y ∧ x.leaf = true) ∧ RenL σ xs ys
  | _, _ => False
theorem RenL.get {σ : List Nat} : ∀ {xs ys : List HV}, RenL σ xs ys → xs.length = ys.length ∧ ∀ (j : Nat) (x y : HV), xs[j]? = some x → ys[j]? = some y → Ren σ x y ∧ x.leaf = true
  | [], [], _ => ⟨rfl, fun j x y h => by simp at h⟩
  | x :: xs, y :: ys, ⟨h1, h2⟩ => by
    obtain ⟨h3, h4⟩ := h2.get
    refine ⟨by simp [h3], fun j u v h5 h6 => ?_⟩
    cases j with
    | zero => simp at h5 h6; subst h5; subst h6; exact h1
    | succ j => simp at h5 h6; exact h4 j u v h5 h6
theorem rl_nil {σ : List Nat} : RenL σ [] [] := trivial
theorem rl_cons {σ : List Nat} {x' y' : HV} {xs ys : List HV} (h1 : Ren σ x' y') (h2 : x'.leaf = true) (h3 : RenL σ xs ys) : RenL σ (x' :: xs) (y' :: ys) := ⟨⟨h1, h2⟩, h3⟩
theorem ro_cells {σ0 σ : List Nat} {j : Nat} {xs ys : List HV} (h1 : h[j]? = some (.cells ys)) (hr : RenL σ0 xs ys) (h2 : RenH σ0 h σ h') : RenH σ0 h (j :: σ) (.cells xs :: h') := ⟨⟨_, h1, hr.get, by simp⟩, h2⟩
end Go.Hw

set_option linter.unusedVariables false
set_option linter.unusedSimpArgs false
namespace Go.Hw
open Go
variable {A B : Type}
structure GM.wf (m : GM A B) : Prop where
  keys : (m.es.map (·.2.1)).Nodup
  births : ∀ p ∈ m.es, p.1 < m.c
variable [DecidableEq A]
end Go.Hw

set_option linter.unusedVariables false
set_option linter.unusedSimpArgs false
namespace Go.Hw
open Go

def kap (σ : List Nat) (N j : Nat) : Option Nat := if j < N then σ.findIdx? (fun k => k == j) else some (σ.length + (j - N))
theorem kap_of {σ : List Nat} {N i j : Nat} (hn : σ.Nodup) (h : σ[i]? = some j) (hj : j < N) : kap σ N j = some i := by
  unfold kap
  rw [if_pos hj, List.findIdx?_eq_some_iff_getElem]
  obtain ⟨h1, h2⟩ := List.getElem?_eq_some_iff.1 h
  refine ⟨h1, by simp [h2], fun k hk => ?_⟩
  intro hc
  have h3 : σ[k]? = some j := by rw [List.getElem?_eq_getElem (by omega)]; simpa using hc
  have := nodup_inj hn k i j h3 h
  omega
theorem kap_some {σ : List Nat} {N i j : Nat} (h : kap σ N j = some i) : (σ[i]? = some j ∧ j < N) ∨ (N ≤ j ∧ i = σ.length + (j - N)) := by
  unfold kap at h
  split at h
  · rename_i hj
    rw [List.findIdx?_eq_some_iff_getElem] at h
    obtain ⟨h1, h2, _⟩ := h
    exact .inl ⟨by rw [List.getElem?_eq_getElem h1]; simpa using h2, hj⟩
  · injection h with h
    exact .inr ⟨by omega, h.symm⟩
theorem kap_none {σ : List Nat} {N j : Nat} (h : kap σ N j = none) : j < N ∧ ∀ i : Nat, σ[i]? ≠ some j := by
  unfold kap at h
  split at h
  · rename_i hj
    refine ⟨hj, fun i hi => ?_⟩
    have := List.findIdx?_eq_none_iff.1 h j (List.mem_of_getElem? hi)
    simp at this
  · cases h
def tau (σ : List Nat) (N k : Nat) : List Nat := σ ++ List.range' N k
theorem tau_get {σ : List Nat} {N k i j : Nat} (h : (tau σ N k)[i]? = some j) : (σ[i]? = some j) ∨ (σ.length ≤ i ∧ j = N + (i - σ.length) ∧ i - σ.length < k) := by
  unfold tau at h
  rw [List.getElem?_append] at h
  split at h
  · exact .inl h
  · rename_i hi
    rcases Nat.lt_or_ge (i - σ.length) k with hlt | hge
    · rw [List.getElem?_range' hlt] at h
      injection h with h
      exact .inr ⟨by omega, by omega, hlt⟩
    · rw [List.getElem?_eq_none (by rw [List.length_range']; exact hge)] at h
      cases h
theorem Ren.back {σ : List Nat} {K1 K2 : GK} {w : World} {x y : HV} (hl : K2.lim = K1.lim) (hk : ∀ i j : Nat, σ[i]? = some j → K2.rho j = K1.rho i ∧ K2.tb j = K1.tb i ∧ K2.wm j = K1.wm i) (hr : Ren σ x y) : ∀ {v : Value}, _root_.Go.Hw.V K1 w x v → _root_.Go.Hw.V K2 w y v := by
  induction hr with
  | pv x h => intro v hv; exact hv.transfer h (fun _ => by rw [hl]; exact Nat.le_refl _)
  | own hs i j off sz hσ h =>
    intro v hv
    obtain ⟨_, ht, hw⟩ := hk i j hσ
    cases hv with
    | nil _ htn => exact .nil _ (by simpa [TokNil, hw] using htn)
    | list0 _ htn ad => exact .list0 _ (by simpa [TokNil, hw] using htn) ad
    | list _ _ b o cap sz' vals hw' hleaf hvv hc hlim hcap htk =>
      refine .list hs _ b o cap sz' vals hw' hleaf (fun q z hz => (hvv q z hz).transfer (h z (List.mem_of_getElem? hz)) (fun _ => by rw [hl]; exact Nat.le_refl _)) hc (by rw [hl]; exact hlim) hcap ?_
      obtain ⟨t1, t2, t3⟩ := htk
      exact ⟨by rw [hw]; exact t1, t2, fun he => by rw [hw] at he; rw [ht]; simpa [hl] using t3 he⟩
  | ptr i j off hσ => intro v hv; cases hv with | ptr _ _ b hr => exact .ptr _ _ b (by rw [(hk i j hσ).1]; exact hr)
  | map i j hσ => intro v hv; cases hv with | map _ b hr => exact .map _ b (by rw [(hk i j hσ).1]; exact hr)
  | arr i j off len sz hσ =>
    intro v hv
    cases hv with
    | arr _ _ _ _ b cap off' hr hcap ho hroom => exact .arr _ _ _ _ b cap off' (by rw [(hk i j hσ).1]; exact hr) hcap ho hroom
    | arrn => exact .arrn _ _ _
    | arr0 => exact .arr0 _ _ _ _
  | agg xs ys hlen h hleaf ih =>
    intro v hv
    cases hv with
    | agg _ vs hn _ hvv =>
      refine .agg ys vs (by omega) (fun y hy => ?_) (fun q y u hy hu => ?_)
      · obtain ⟨q, hq⟩ := List.getElem?_of_mem hy
        obtain ⟨x, hx⟩ := get_of_lt (l := xs) (j := q) (by rw [hlen]; exact lt_of_get hq)
        have h1 := hleaf x (List.mem_of_getElem? hx)
        have h2 := h q x y hx hq
        cases h2 <;> first | exact h1 | rfl
      · obtain ⟨x, hx⟩ := get_of_lt (l := xs) (j := q) (by rw [hlen]; exact lt_of_get hy)
        exact ih q x y hx hy (hvv q x u hx hu)
  | tuple xs ys hlen h ih =>
    intro v hv
    cases hv with
    | tuple _ vs hn hvv => exact .tuple ys vs (by omega) (fun q y u hy hu => by
        obtain ⟨x, hx⟩ := get_of_lt (l := xs) (j := q) (by rw [hlen]; exact lt_of_get hy)
        exact ih q x y hx hy (hvv q x u hx hu))
  | func f xs ys hlen h ih =>
    intro v hv
    cases hv with
    | func _ _ vs hn hvv => exact .func f ys vs (by omega) (fun q y u hy hu => by
        obtain ⟨x, hx⟩ := get_of_lt (l := xs) (j := q) (by rw [hlen]; exact lt_of_get hy)
        exact ih q x y hx hy (hvv q x u hx hu))
theorem Ren.leaf {σ : List Nat} {x y : HV} (h : Ren σ x y) (hx : x.leaf = true) : y.leaf = true := by
  cases h <;> first | exact hx | rfl
theorem RenO.back {σ : List Nat} {K1 K2 : GK} {w : World} {b : Nat} {o1 o2 : HObj} (hl : K2.lim = K1.lim) (hk : ∀ i j : Nat, σ[i]? = some j → K2.rho j = K1.rho i ∧ K2.tb j = K1.tb i ∧ K2.wm j = K1.wm i) (hr : RenO σ o1 o2) (hd : o1 ≠ .dead) (ho : ObjOk K1 w b o1) : ObjOk K2 w b o2 := by
  cases o1 with
  | cells xs =>
    cases o2 <;> simp only [RenO] at hr
    rename_i ys
    obtain ⟨c, e, fr, h1, h2, h3, h4⟩ := ho
    refine ⟨c, e, fr, h1, by omega, h3, fun j y hy => ?_⟩
    obtain ⟨x, hx⟩ := get_of_lt (l := xs) (j := j) (by rw [hr.1]; exact lt_of_get hy)
    obtain ⟨_, v, h5, h6⟩ := h4 j x hx
    obtain ⟨h7, h8⟩ := hr.2 j x y hx hy
    exact ⟨h7.leaf h8, v, h5, h7.back hl hk h6⟩
  | map es c =>
    cases o2 <;> simp only [RenO] at hr
    rename_i fs d
    obtain ⟨rfl, hlen, hr⟩ := hr
    obtain ⟨ms, h1, h2, h3⟩ := ho
    refine ⟨ms, h1, by omega, fun j n x' y' hy => ?_⟩
    obtain ⟨⟨n', x, y⟩, hx⟩ := get_of_lt (l := es) (j := j) (by rw [hlen]; exact lt_of_get hy)
    obtain ⟨m, h4, h5, t1, t2, h6, h7⟩ := h3 j n' x y hx
    obtain ⟨rfl, g1, g2, g3, g4⟩ := hr j n' n x y x' y' hx hy
    have tt : ∀ {u u' : HV}, Ren σ u u' → isTuple u = false → isTuple u' = false := fun hu h => by cases hu <;> first | exact h | rfl
    exact ⟨m, h4, h5, tt g1 g3, tt g2 g4, g1.back hl hk h6, g2.back hl hk h7⟩
  | iter a p q r =>
    cases o2 with
    | iter a' p' q' r' =>
      cases a with
      | none =>
        cases a' with
        | none =>
          simp only [RenO] at hr
          obtain ⟨rfl, rfl, rfl⟩ := hr
          exact ho
        | some _ => simp only [RenO] at hr
      | some i =>
        cases a' with
        | none => simp only [RenO] at hr
        | some j =>
          simp only [RenO] at hr
          obtain ⟨h1, rfl, rfl, rfl⟩ := hr
          obtain ⟨b', h2, h3⟩ := ho
          exact ⟨b', by rw [(hk i j h1).1]; exact h2, h3⟩
    | _ => cases a <;> simp only [RenO] at hr
  | siter s p =>
    cases o2 <;> simp only [RenO] at hr
    obtain ⟨rfl, rfl⟩ := hr
    exact ho
  | bld T r n c =>
    cases o2 with
    | bld T' r' n' c' =>
      cases r with
      | none =>
        cases r' with
        | none =>
          simp only [RenO] at hr
          obtain ⟨rfl, rfl, rfl⟩ := hr
          exact ho
        | some _ => simp only [RenO] at hr
      | some i =>
        cases r' with
        | none => simp only [RenO] at hr
        | some j =>
          simp only [RenO] at hr
          obtain ⟨h1, rfl, rfl, rfl⟩ := hr
          obtain ⟨g, h2, h3⟩ := ho
          exact ⟨g, by rw [(hk i j h1).1]; exact h2, h3⟩
    | _ => cases r <;> simp only [RenO] at hr
  | brow U c l =>
    cases o2 <;> simp only [RenO] at hr
    obtain ⟨rfl, rfl, rfl⟩ := hr
    exact ho
  | tok n => exact ho.elim
  | dead => exact absurd rfl hd
  | res => exact ho.elim
theorem RenO.live2 {σ : List Nat} {o' o : HObj} (hr : RenO σ o' o) (hd : o' ≠ .dead) (hl : o.live) : o'.live := by
  cases o' <;> cases o <;> simp only [RenO] at hr <;> first
    | trivial
    | exact hl.elim
    | exact absurd rfl hd
    | exact hr.elim
    | (rename_i a _ _ _ b _ _ _; cases a <;> cases b <;> first | trivial | exact hr.elim)
    | (rename_i a _ _ _; cases a <;> exact hr.elim)
end Go.Hw

set_option linter.unusedVariables false
set_option linter.unusedSimpArgs false
namespace Go.Hw
open Go

theorem ren_heap {K : GK} {w : World} {h h' : Heap} (σ : List Nat) (hnd : σ.Nodup) (hlen : h'.length = σ.length) (hobj : ∀ (i j : Nat) (o' : HObj), h'[i]? = some o' → σ[i]? = some j → ∃ o, h[j]? = some o ∧ RenO σ o' o ∧ o' ≠ .tok 0) (r : HeapRel K h w) : HeapRel (K.ren σ) h' w := by
  have hinj := nodup_inj hnd
  have hσ : ∀ {i b : Nat} {f : Nat → Option Nat}, (σ[i]?).bind f = some b → ∃ j : Nat, σ[i]? = some j ∧ f j = some b := fun h => Option.bind_eq_some_iff.1 h
  have hget : ∀ {i j : Nat}, σ[i]? = some j → ∃ o', h'[i]? = some o' := fun hi => get_of_lt (by rw [hlen]; exact lt_of_get hi)
  have hwm : ∀ i, (K.ren σ).wm i = match h'[i]? with | some (.tok n) => n | _ => 0 := by
    intro i
    simp only [GK.ren]
    cases hi : σ[i]? with
    | none =>
      have : h'[i]? = none := List.getElem?_eq_none (by rw [hlen]; exact List.getElem?_eq_none_iff.1 hi)
      rw [this]
    | some j =>
      obtain ⟨o', ho'⟩ := hget hi
      obtain ⟨o, h1, h2, _⟩ := hobj i j o' ho' hi
      have := h2.tok
      simp only
      rw [r.wm j, h1, ho']
      cases o' <;> cases o <;> exact this.symm
  refine ⟨fun id b hr => ?_, fun i j b x y hi hj hx hy lx ly => ?_, hwm, fun k b hk => ?_, fun i j b hi hj => ?_, r.limb.view (fun _ => rfl) (fun b _ ho => by
    rcases ho with ⟨i, h⟩ | ⟨i, h⟩
    · obtain ⟨j, _, h2⟩ := hσ h; exact .inl ⟨j, h2⟩
    · obtain ⟨j, _, h2⟩ := hσ h; exact .inr ⟨j, h2⟩)⟩
  · obtain ⟨j, h1, h2⟩ := hσ hr
    obtain ⟨o', ho'⟩ := hget h1
    obtain ⟨o, h3, h4, _⟩ := hobj id j o' ho' h1
    obtain ⟨g1, o2, g2, g3, g4⟩ := r.obj j b h2
    rw [h3] at g2
    injection g2 with g2
    subst g2
    exact ⟨g1, o', ho', h4.ok g3, fun hl => g4 (h4.live hl)⟩
  · obtain ⟨i', h1, h2⟩ := hσ hi
    obtain ⟨j', h3, h4⟩ := hσ hj
    obtain ⟨o1, h5, h6, _⟩ := hobj i i' x hx h1
    obtain ⟨o2, h7, h8, _⟩ := hobj j j' y hy h3
    have := r.inj i' j' b o1 o2 h2 h4 h5 h7 (h6.live lx) (h8.live ly)
    subst this
    exact hinj i j i' h1 h3
  · obtain ⟨j, h1, h2⟩ := hσ hk
    obtain ⟨g1, ⟨n, g2⟩, g3, g4⟩ := r.tok j b h2
    obtain ⟨o', ho'⟩ := hget h1
    obtain ⟨o, h3, h4, _⟩ := hobj k j o' ho' h1
    rw [g2] at h3
    injection h3 with h3
    subst h3
    refine ⟨g1, ⟨n, ?_⟩, fun id o hid2 ho2 hl => ?_, g4⟩
    · cases o' <;> simp only [RenO] at h4 <;> first
        | (subst h4; exact ho')
        | (exfalso; exact h4 ⟨_, rfl⟩)
        | (rename_i q _ _ _; cases q <;> exact h4.elim)
    · obtain ⟨i', h5, h6⟩ := hσ hid2
      obtain ⟨o2, h7, h8, _⟩ := hobj id i' o ho2 h5
      exact g3 i' o2 h6 h7 (h8.live hl)
  · obtain ⟨i', h1, h2⟩ := hσ hi
    obtain ⟨j', h3, h4⟩ := hσ hj
    have := r.tinj i' j' b h2 h4
    subst this
    exact hinj i j i' h1 h3

def GK.back (σ : List Nat) (N : Nat) (K K1 : GK) : GK := { lim := K1.lim, rho := fun j => match kap σ N j with | some i => K1.rho i | none => K.rho j, tb := fun j => match kap σ N j with | some i => K1.tb i | none => K.tb j, wm := fun j => match kap σ N j with | some i => K1.wm i | none => K.wm j }

theorem HCalls.frame {P : Program} {f : FuncId} {args args' : List HV} {h H : Heap} {R R' : HV → Heap → Prop} (σ : List Nat) (hc : HCalls P f args h R) (hnd : σ.Nodup) (hlt : ∀ i j : Nat, σ[i]? = some j → j < H.length) (hlen : h.length = σ.length)
    (hobj : ∀ (i j : Nat) (o' : HObj), h[i]? = some o' → σ[i]? = some j → ∃ o, H[j]? = some o ∧ RenO σ o' o ∧ o' ≠ .tok 0 ∧ o' ≠ .dead)
    (hargs : args'.length = args.length ∧ ∀ (j : Nat) (x x' : HV), args[j]? = some x → args'[j]? = some x' → Ren σ x x' ∨ Ren σ x x'.strip1)
    (hR : ∀ x h1, R x h1 → ∃ y H2, R' y H2 ∧ σ.length ≤ h1.length ∧ Ren (tau σ H.length (h1.length - σ.length)) x y ∧ H2.length = H.length + (h1.length - σ.length) ∧ (∀ j : Nat, j < H.length → (∀ i : Nat, σ[i]? ≠ some j) → H2[j]? = H[j]?) ∧
      ∀ (i j : Nat) (o1 : HObj), (tau σ H.length (h1.length - σ.length))[i]? = some j → h1[i]? = some o1 → ∃ o2, H2[j]? = some o2 ∧ RenO (tau σ H.length (h1.length - σ.length)) o1 o2 ∧ (o1 = .dead → o2 = .dead)) : HCalls P f args' H R' := by
  refine ⟨hc.1, fun K w vs hh hl hv => ?_⟩
  have hh0 : HeapRel (K.ren σ) h w := ren_heap σ hnd hlen (fun i j o' h1 h2 => by obtain ⟨o, g1, g2, g3, _⟩ := hobj i j o' h1 h2; exact ⟨o, g1, g2, g3⟩) hh
  refine (hc.2 (K.ren σ) w vs hh0 (by omega) (fun j x v hx hvj => ?_)).mono ?_
  · obtain ⟨x', hx'⟩ := get_of_lt (l := args') (j := j) (by rw [hargs.1]; exact lt_of_get hx)
    have h1 := hv j x' v hx' hvj
    rcases hargs.2 j x x' hx hx' with h2 | h2
    · exact h2.V h1
    · exact h2.V h1.strip1
  rintro en w' ⟨v, x, K1, h1, rfl, s, hh1, hV, hRx⟩
  obtain ⟨y, H2, hR', hge, hxy, hH2, hrest, hnew⟩ := hR x h1 hRx
  generalize hτ : tau σ H.length (h1.length - σ.length) = τ at hxy hnew
  -- names
  have hσN : ∀ {j : Nat}, kap σ H.length j = none → j < H.length ∧ ∀ i : Nat, σ[i]? ≠ some j := fun h => kap_none h
  have hkτ : ∀ {i j : Nat}, τ[i]? = some j → kap σ H.length j = some i := by
    intro i j hij
    rw [← hτ] at hij
    rcases tau_get hij with h2 | ⟨h2, h3, h4⟩
    · exact kap_of hnd h2 (hlt i j h2)
    · unfold kap
      rw [if_neg (by omega)]
      congr 1
      omega
  have hτk : ∀ {i j : Nat}, kap σ H.length j = some i → i < h1.length → τ[i]? = some j := by
    intro i j hij hi
    rw [← hτ]
    unfold tau
    rcases kap_some hij with ⟨h2, _⟩ | ⟨h2, h3⟩
    · rw [List.getElem?_append_left (lt_of_get h2)]; exact h2
    · rw [List.getElem?_append_right (by omega), List.getElem?_range' (by omega)]
      congr 1
      omega
  let K2 := GK.back σ H.length K K1
  have hk2 : ∀ i j : Nat, τ[i]? = some j → K2.rho j = K1.rho i ∧ K2.tb j = K1.tb i ∧ K2.wm j = K1.wm i := by
    intro i j hij
    have := hkτ hij
    simp only [K2, GK.back, this, and_self]
  have ks : ∀ {i j : Nat}, σ[i]? = some j → kap σ H.length j = some i := fun h2 => kap_of hnd h2 (hlt _ _ h2)
  have hren : ∀ i j : Nat, σ[i]? = some j → (K.ren σ).rho i = K.rho j ∧ (K.ren σ).tb i = K.tb j ∧ (K.ren σ).wm i = K.wm j := by
    intro i j hij
    simp [GK.ren, hij]
  have hH : ∀ {j : Nat}, H.length ≤ j → K.rho j = none ∧ K.tb j = none ∧ K.wm j = 0 := by
    intro j hj
    have hn : H[j]? = none := List.getElem?_eq_none hj
    refine ⟨?_, ?_, ?_⟩
    · cases hr : K.rho j with
      | none => rfl
      | some b => obtain ⟨_, o, ho, _⟩ := hh.obj j b hr; rw [hn] at ho; cases ho
    · cases hr : K.tb j with
      | none => rfl
      | some b => obtain ⟨_, ⟨n, ho⟩, _⟩ := hh.tok j b hr; rw [hn] at ho; cases ho
    · rw [hh.wm j, hn]
  have hown : ∀ b, owned (K.ren σ) b → owned K b := by
    rintro b (⟨i, h2⟩ | ⟨i, h2⟩)
    · obtain ⟨j, _, h3⟩ := Option.bind_eq_some_iff.1 h2; exact .inl ⟨j, h3⟩
    · obtain ⟨j, _, h3⟩ := Option.bind_eq_some_iff.1 h2; exact .inr ⟨j, h3⟩
  -- the caller's other blocks are not the callee's
  have hapart : ∀ {j b : Nat} {o : HObj}, kap σ H.length j = none → K.rho j = some b → H[j]? = some o → o.live → ¬ owned (K.ren σ) b := by
    rintro j b o hj hr ho hol (⟨i, h2⟩ | ⟨i, h2⟩)
    · obtain ⟨j', h3, h4⟩ := Option.bind_eq_some_iff.1 h2
      obtain ⟨o', ho'⟩ := get_of_lt (l := h) (j := i) (by rw [hlen]; exact lt_of_get h3)
      obtain ⟨o3, g1, g2, g3, g4⟩ := hobj i j' o' ho' h3
      obtain ⟨_, o4, g5, g6, _⟩ := hh.obj j' b h4
      rw [g1] at g5
      injection g5 with g5
      subst g5
      have hl3 : o3.live := by
        cases o3 with
        | tok _ => exact g6.elim
        | res => exact g6.elim
        | dead => cases o' <;> simp only [RenO] at g2 <;> first | exact g2.elim | exact absurd rfl g4 | (rename_i q _ _ _; cases q <;> exact g2.elim)
        | _ => trivial
      have := hh.inj j j' b o o3 hr h4 ho g1 hol hl3
      subst this
      exact (hσN hj).2 i h3
    · obtain ⟨j', h3, h4⟩ := Option.bind_eq_some_iff.1 h2
      exact (hh.tok j' b h4).2.2.1 j o hr ho hol
  have htok : ∀ {j b : Nat}, kap σ H.length j = none → K.tb j = some b → ¬ owned (K.ren σ) b := by
    rintro j b hj hr (⟨i, h2⟩ | ⟨i, h2⟩)
    · obtain ⟨j', h3, h4⟩ := Option.bind_eq_some_iff.1 h2
      obtain ⟨o', ho'⟩ := get_of_lt (l := h) (j := i) (by rw [hlen]; exact lt_of_get h3)
      obtain ⟨o3, g1, g2, g3, g4⟩ := hobj i j' o' ho' h3
      obtain ⟨_, o4, g5, g6, _⟩ := hh.obj j' b h4
      rw [g1] at g5
      injection g5 with g5
      subst g5
      have hl3 : o3.live := by
        cases o3 with
        | tok _ => exact g6.elim
        | res => exact g6.elim
        | dead => cases o' <;> simp only [RenO] at g2 <;> first | exact g2.elim | exact absurd rfl g4 | (rename_i q _ _ _; cases q <;> exact g2.elim)
        | _ => trivial
      exact (hh.tok j b hr).2.2.1 j' o3 h4 g1 hl3
    · obtain ⟨j', h3, h4⟩ := Option.bind_eq_some_iff.1 h2
      have := hh.tinj j j' b hr h4
      subst this
      exact (hσN hj).2 i h3
  have hstep : Step K w K2 w' := by
    refine ⟨s.os, s.tape, s.output, s.size, s.lim, fun k => ?_, fun k hk => ?_, fun id b hid => ?_, s.cell, s.shape, fun b hb ho => ?_, fun b hb ho => s.frame b hb fun h2 => ho (hown b h2)⟩
    · cases hkap : kap σ H.length k with
      | none => simp only [K2, GK.back, hkap]; exact Nat.le_refl _
      | some i =>
        simp only [K2, GK.back, hkap]
        rcases kap_some hkap with ⟨h2, _⟩ | ⟨h2, h3⟩
        · have := s.wm i; rw [(hren i k h2).2.2] at this; exact this
        · rw [(hH h2).2.2]; exact Nat.zero_le _
    · cases hkap : kap σ H.length k with
      | none =>
        simp only [K2, GK.back, hkap] at hk ⊢
        exact ⟨trivial, fun b hb => (s.frame b (hh.tok k b hb).1 (htok hkap hb)).2⟩
      | some i =>
        simp only [K2, GK.back, hkap] at hk ⊢
        rcases kap_some hkap with ⟨h2, _⟩ | ⟨h2, h3⟩
        · have := s.tok i (by rw [(hren i k h2).2.2]; exact hk)
          rw [(hren i k h2).2.1] at this
          exact this
        · rw [(hH h2).2.2] at hk
          have hn : σ[i]? = none := List.getElem?_eq_none (by omega)
          have := s.tok i (by simp only [GK.ren, hn]; exact hk)
          simp only [GK.ren, hn, Option.bind_none] at this
          rw [(hH h2).2.1]
          exact ⟨this.1, fun b hb => by cases hb⟩
    · cases hkap : kap σ H.length id with
      | none => simp only [K2, GK.back, hkap]; exact hid
      | some i =>
        simp only [K2, GK.back, hkap]
        rcases kap_some hkap with ⟨h2, _⟩ | ⟨h2, h3⟩
        · exact s.rho i b (by rw [(hren i id h2).1]; exact hid)
        · rw [(hH h2).1] at hid; cases hid
    · rcases ho with ⟨j, hj⟩ | ⟨j, hj⟩
      · cases hkap : kap σ H.length j with
        | none => simp only [K2, GK.back, hkap] at hj; exact .inl ⟨j, hj⟩
        | some i => simp only [K2, GK.back, hkap] at hj; exact hown b (s.own b hb (.inl ⟨i, hj⟩))
      · cases hkap : kap σ H.length j with
        | none => simp only [K2, GK.back, hkap] at hj; exact .inr ⟨j, hj⟩
        | some i => simp only [K2, GK.back, hkap] at hj; exact hown b (s.own b hb (.inr ⟨i, hj⟩))
  have hrho : ∀ {j b : Nat}, K2.rho j = some b → (∃ i, kap σ H.length j = some i ∧ K1.rho i = some b ∧ τ[i]? = some j) ∨ (kap σ H.length j = none ∧ K.rho j = some b) := by
    intro j b hj
    cases hkap : kap σ H.length j with
    | none => simp only [K2, GK.back, hkap] at hj; exact .inr ⟨rfl, hj⟩
    | some i =>
      simp only [K2, GK.back, hkap] at hj
      obtain ⟨_, o, ho, _⟩ := hh1.obj i b hj
      exact .inl ⟨i, rfl, hj, hτk hkap (lt_of_get ho)⟩
  have htb : ∀ {j b : Nat}, K2.tb j = some b → (∃ i, kap σ H.length j = some i ∧ K1.tb i = some b ∧ τ[i]? = some j) ∨ (kap σ H.length j = none ∧ K.tb j = some b) := by
    intro j b hj
    cases hkap : kap σ H.length j with
    | none => simp only [K2, GK.back, hkap] at hj; exact .inr ⟨rfl, hj⟩
    | some i =>
      simp only [K2, GK.back, hkap] at hj
      obtain ⟨_, ⟨n, ho⟩, _⟩ := hh1.tok i b hj
      exact .inl ⟨i, rfl, hj, hτk hkap (lt_of_get ho)⟩
  have hkeep : ∀ {j : Nat}, kap σ H.length j = none → H2[j]? = H[j]? := fun hj => hrest _ (hσN hj).1 (hσN hj).2
  have hfar : ∀ {j b : Nat} {o : HObj}, kap σ H.length j = none → K.rho j = some b → H[j]? = some o → o.live → ¬ owned K1 b := fun hj hr ho hl h2 => hapart hj hr ho hl (s.own _ (hh.obj _ _ hr).1 h2)
  have hftok : ∀ {j b : Nat}, kap σ H.length j = none → K.tb j = some b → ¬ owned K1 b := fun hj hr h2 => htok hj hr (s.own _ (hh.tok _ _ hr).1 h2)
  have hlive : ∀ {i j : Nat} {o1 o2 : HObj}, τ[i]? = some j → h1[i]? = some o1 → H2[j]? = some o2 → RenO τ o1 o2 ∧ (o2.live → o1.live) ∧ (o1.live → o2.live) ∧ (o1 = .dead → o2 = .dead) := by
    intro i j o1 o2 hij ho1 ho2
    obtain ⟨o3, g1, g2, g3⟩ := hnew i j o1 hij ho1
    rw [ho2] at g1
    injection g1 with g1
    subst g1
    refine ⟨g2, fun hl2 => ?_, fun hl1 => g2.live hl1, g3⟩
    by_cases hd : o1 = .dead
    · rw [g3 hd] at hl2; exact hl2.elim
    · exact g2.live2 hd hl2
  have hheap : HeapRel K2 H2 w' := by
    refine ⟨fun id b hr => ?_, fun i j b x y hi hj hx hy lx ly => ?_, fun k => ?_, fun k b hk => ?_, fun i j b hi hj => ?_, ⟨hh1.limb.z, hh.limb.t.step hstep⟩⟩
    · rcases hrho hr with ⟨i, h2, h3, h4⟩ | ⟨h2, h3⟩
      · obtain ⟨g1, o1, g2, g3, g4⟩ := hh1.obj i b h3
        obtain ⟨o2, g5, g6, g7⟩ := hnew i id o1 h4 g2
        refine ⟨g1, o2, g5, ?_, fun hl2 => g4 ((hlive h4 g2 g5).2.1 hl2)⟩
        by_cases hd : o1 = .dead
        · rw [g7 hd]; trivial
        · exact g6.back (K1 := K1) (K2 := K2) rfl hk2 hd g3
      · obtain ⟨g1, o, g2, g3, g4⟩ := hh.obj id b h3
        refine ⟨Nat.lt_of_lt_of_le g1 s.size, o, by rw [hkeep h2]; exact g2, ?_, fun hl2 => ?_⟩
        · cases o with
          | dead => trivial
          | tok _ => exact g3.elim
          | res => exact g3.elim
          | _ => exact ObjOk.keep hstep (s.frame b g1 (hapart h2 h3 g2 trivial)).1 g3
        · have := (s.frame b g1 (hapart h2 h3 g2 hl2)).2
          show K1.lim b = 0
          rw [this]
          exact g4 hl2
    · rcases hrho hi with ⟨i', h2, h3, h4⟩ | ⟨h2, h3⟩
      · obtain ⟨_, o1, g2, _⟩ := hh1.obj i' b h3
        have l1 := (hlive h4 g2 hx).2.1 lx
        rcases hrho hj with ⟨j', k2, k3, k4⟩ | ⟨k2, k3⟩
        · obtain ⟨_, o2, g3, _⟩ := hh1.obj j' b k3
          have l2 := (hlive k4 g3 hy).2.1 ly
          have := hh1.inj i' j' b o1 o2 h3 k3 g2 g3 l1 l2
          subst this
          rw [h4] at k4
          injection k4
        · rw [hkeep k2] at hy
          exact absurd (.inl ⟨i', h3⟩) (hfar k2 k3 hy ly)
      · rw [hkeep h2] at hx
        rcases hrho hj with ⟨j', k2, k3, k4⟩ | ⟨k2, k3⟩
        · exact absurd (.inl ⟨j', k3⟩) (hfar h2 h3 hx lx)
        · rw [hkeep k2] at hy
          exact hh.inj i j b x y h3 k3 hx hy lx ly
    · cases hkap : kap σ H.length k with
      | none =>
        simp only [K2, GK.back, hkap]
        rw [hkeep hkap]
        exact hh.wm k
      | some i =>
        simp only [K2, GK.back, hkap]
        rw [hh1.wm i]
        cases ho1 : h1[i]? with
        | none =>
          have hk : H2[k]? = none := by
            refine List.getElem?_eq_none ?_
            have := List.getElem?_eq_none_iff.1 ho1
            rcases kap_some hkap with ⟨h2, _⟩ | ⟨h2, h3⟩
            · have := lt_of_get h2; omega
            · omega
          rw [hk]
        | some o1 =>
          obtain ⟨o2, g1, g2, g3⟩ := hnew i k o1 (hτk hkap (lt_of_get ho1)) ho1
          rw [g1]
          have := g2.tok
          cases o1 <;> cases o2 <;> exact this
    · rcases htb hk with ⟨i, h2, h3, h4⟩ | ⟨h2, h3⟩
      · obtain ⟨g1, ⟨n, g2⟩, g3, g4⟩ := hh1.tok i b h3
        obtain ⟨o2, g5, g6, g7⟩ := hnew i k _ h4 g2
        refine ⟨g1, ⟨n, ?_⟩, fun id o hid ho hl => ?_, g4⟩
        · cases o2 <;> simp only [RenO] at g6
          rw [g5, g6]
        · rcases hrho hid with ⟨i', k2, k3, k4⟩ | ⟨k2, k3⟩
          · obtain ⟨_, o1, g8, _⟩ := hh1.obj i' b k3
            exact g3 i' o1 k3 g8 ((hlive k4 g8 ho).2.1 hl)
          · rw [hkeep k2] at ho
            exact hfar k2 k3 ho hl (.inr ⟨i, h3⟩)
      · obtain ⟨g1, ⟨n, g2⟩, g3, c, e, fr, g4, g5, g6⟩ := hh.tok k b h3
        have hf := s.frame b g1 (htok h2 h3)
        refine ⟨Nat.lt_of_lt_of_le g1 s.size, ⟨n, by rw [hkeep h2]; exact g2⟩, fun id o hid ho hl => ?_, c, e, fr, by rw [hf.1]; exact g4, ?_, g6⟩
        · rcases hrho hid with ⟨i', k2, k3, k4⟩ | ⟨k2, k3⟩
          · exact hftok h2 h3 (.inl ⟨i', k3⟩)
          · rw [hkeep k2] at ho
            exact g3 id o k3 ho hl
        · show K1.lim b ≤ c.size
          rw [hf.2]
          exact g5
    · rcases htb hi with ⟨i', h2, h3, h4⟩ | ⟨h2, h3⟩
      · rcases htb hj with ⟨j', k2, k3, k4⟩ | ⟨k2, k3⟩
        · have := hh1.tinj i' j' b h3 k3
          subst this
          rw [h4] at k4
          injection k4
        · exact absurd (.inr ⟨i', h3⟩) (hftok k2 k3)
      · rcases htb hj with ⟨j', k2, k3, k4⟩ | ⟨k2, k3⟩
        · exact absurd (.inr ⟨j', k3⟩) (hftok h2 h3)
        · exact hh.tinj i j b h3 k3
  exact ⟨v, y, K2, H2, rfl, hstep, hheap, hxy.back (K1 := K1) (K2 := K2) rfl hk2 hV, hR'⟩
end Go.Hw

set_option linter.unusedVariables false
set_option linter.unusedSimpArgs false
namespace Go.Hw
open Go

variable {P : Program} {N m : Nat} {S D : CallP} {b : Nat} {r : List Op} {e e' : Env} {h h' : Heap} {Q : Env → Heap → Prop} {QQ : Ex → Env → Heap → Prop} {d : Nat} {x y z : X}

def MC (P : Program) (f : FuncId) (args : List HV) (h : Heap) (x0 : HV) (h0 : Heap) : Prop := HCalls P f args h fun x h' => x = x0 ∧ h' = h0
def SameOff (σ : List Nat) : Nat → Heap → Heap → Prop
  | _, [], _ => True
  | i, o :: H, o2 :: H2 => (i ∈ σ ∨ o2 = o) ∧ SameOff σ (i + 1) H H2
  | _, _ :: _, [] => False
theorem SameOff.get {σ : List Nat} : ∀ {H H2 : Heap} {k : Nat}, SameOff σ k H H2 → ∀ j : Nat, j < H.length → k + j ∉ σ → H2[j]? = H[j]?
  | [], _, _, _, j, hj, _ => by simp at hj
  | o :: H, [], k, h, _, _, _ => h.elim
  | o :: H, o2 :: H2, k, ⟨h1, h2⟩, j, hj, hn => by
    cases j with
    | zero =>
      rcases h1 with h1 | h1
      · exact absurd h1 hn
      · simp [h1]
    | succ j =>
      simp only [List.getElem?_cons_succ]
      exact h2.get j (by simpa using hj) (by rw [show k + 1 + j = k + (j + 1) by omega]; exact hn)
theorem so_nil {σ : List Nat} {k : Nat} {H2 : Heap} : SameOff σ k [] H2 := trivial
theorem so_same {σ : List Nat} {k : Nat} {o : HObj} {H H2 : Heap} (h : SameOff σ (k + 1) H H2) : SameOff σ k (o :: H) (o :: H2) := ⟨.inr rfl, h⟩
theorem so_skip {σ : List Nat} {k : Nat} {o o2 : HObj} {H H2 : Heap} (hk : k ∈ σ) (h : SameOff σ (k + 1) H H2) : SameOff σ k (o :: H) (o2 :: H2) := ⟨.inl hk, h⟩
def ROut (σ0 : List Nat) (H2 : Heap) : List Nat → Heap → Prop
  | [], [] => True
  | j :: σ, o1 :: h1 => (∃ o2, H2[j]? = some o2 ∧ RenO σ0 o1 o2 ∧ (o1 = .dead → o2 = .dead)) ∧ ROut σ0 H2 σ h1
  | _, _ => False
theorem ROut.get {σ0 : List Nat} {H2 : Heap} : ∀ {σ : List Nat} {h1 : Heap}, ROut σ0 H2 σ h1 → ∀ (i j : Nat) (o1 : HObj), σ[i]? = some j → h1[i]? = some o1 → ∃ o2, H2[j]? = some o2 ∧ RenO σ0 o1 o2 ∧ (o1 = .dead → o2 = .dead)
  | [], [], _, i, j, o1, hi, _ => by simp at hi
  | k :: σ, o :: h1, ⟨g1, g2⟩, i, j, o1, hi, ho => by
    cases i with
    | zero => simp at hi ho; subst hi; subst ho; exact g1
    | succ i => simp at hi ho; exact g2.get i j o1 hi ho
theorem ou_nil {σ0 : List Nat} {H2 : Heap} : ROut σ0 H2 [] [] := trivial
theorem ou_tok {σ0 σ : List Nat} {H2 h1 : Heap} {j n : Nat} (hj : H2[j]? = some (.tok n)) (h : ROut σ0 H2 σ h1) : ROut σ0 H2 (j :: σ) (.tok n :: h1) := ⟨⟨_, hj, rfl, fun h => by cases h⟩, h⟩
theorem ou_cells {σ0 σ : List Nat} {H2 h1 : Heap} {j : Nat} {xs ys : List HV} (hj : H2[j]? = some (.cells ys)) (hr : RenL σ0 xs ys) (h : ROut σ0 H2 σ h1) : ROut σ0 H2 (j :: σ) (.cells xs :: h1) := ⟨⟨_, hj, hr.get, fun h => by cases h⟩, h⟩
def RenA (σ : List Nat) : List HV → List HV → Prop
  | [], [] => True
  | x :: xs, y :: ys => (Ren σ x y ∨ Ren σ x y.strip1) ∧ RenA σ xs ys
  | _, _ => False
theorem RenA.get {σ : List Nat} : ∀ {xs ys : List HV}, RenA σ xs ys → ys.length = xs.length ∧ ∀ (j : Nat) (x y : HV), xs[j]? = some x → ys[j]? = some y → Ren σ x y ∨ Ren σ x y.strip1
  | [], [], _ => ⟨rfl, fun j x y h => by simp at h⟩
  | x :: xs, y :: ys, ⟨h1, h2⟩ => by
    obtain ⟨h3, h4⟩ := h2.get
    refine ⟨by simp [h3], fun j u v h5 h6 => ?_⟩
    cases j with
    | zero => simp at h5 h6; subst h5; subst h6; exact h1
    | succ j => simp at h5 h6; exact h4 j u v h5 h6
theorem ra_nil {σ : List Nat} : RenA σ [] [] := trivial
theorem ra_cons {σ : List Nat} {x y : HV} {xs ys : List HV} (h1 : Ren σ x y) (h2 : RenA σ xs ys) : RenA σ (x :: xs) (y :: ys) := ⟨.inl h1, h2⟩
theorem weak_renm (m0 : Nat) (hm : m = m0) (σ : List Nat) (hid : ∀ i, i < m0 → σ[i]? = some i) (hnd : σ.Nodup) (hh : RenH σ h σ h') (he : RenE σ e e') : WeakF m e h e' h' :=
  weak_ren σ (by rw [hm]; exact hid) hnd hh he
end Go.Hw

set_option linter.unusedVariables false
set_option linter.unusedSimpArgs false
namespace Go.Hw
open Go

theorem HeapRel.recell {K : GK} {w : World} {h : Heap} {id j : Nat} {cs : List HV} {y : HV} (hh : HeapRel K h w) (hc : h[id]? = some (.cells cs)) (hy : y.leaf = true) (hv : ∀ (x : HV) (v : Value), cs[j]? = some x → V K w x v → V K w y v) : HeapRel K (h.set id (.cells (cs.set j y))) w := by
  have hget : ∀ (i : Nat) (o : HObj), (h.set id (.cells (cs.set j y)))[i]? = some o → (i ≠ id ∧ h[i]? = some o) ∨ (i = id ∧ o = .cells (cs.set j y)) := by
    intro i o ho
    by_cases hi : i = id
    · subst hi
      rw [List.getElem?_set_self (lt_of_get hc)] at ho
      injection ho with ho
      exact .inr ⟨rfl, ho.symm⟩
    · rw [List.getElem?_set_ne (fun e => hi e.symm)] at ho
      exact .inl ⟨hi, ho⟩
  have hback : ∀ (i : Nat) (o : HObj), (h.set id (.cells (cs.set j y)))[i]? = some o → o.live → ∃ o', h[i]? = some o' ∧ o'.live := by
    intro i o ho hl
    rcases hget i o ho with ⟨_, h1⟩ | ⟨rfl, _⟩
    · exact ⟨o, h1, hl⟩
    · exact ⟨_, hc, trivial⟩
  refine ⟨fun i b hr => ?_, fun i k b x z hi hk hx hz lx lz => ?_, fun k => ?_, fun k b hk => ?_, hh.tinj, hh.limb⟩
  · obtain ⟨g1, o, g2, g3, g4⟩ := hh.obj i b hr
    by_cases hi : i = id
    · subst hi
      rw [hc] at g2
      injection g2 with g2
      subst g2
      refine ⟨g1, _, List.getElem?_set_self (lt_of_get hc), ?_, fun _ => g4 trivial⟩
      obtain ⟨c, e, fr, h1, h2, h3, h4⟩ := g3
      refine ⟨c, e, fr, h1, by simpa using h2, h3, fun q x hx => ?_⟩
      rw [List.getElem?_set] at hx
      split at hx
      · rename_i hq
        subst hq
        split at hx
        · injection hx with hx
          subst hx
          rename_i hlt
          obtain ⟨_, v, h5, h6⟩ := h4 j cs[j] (List.getElem?_eq_getElem hlt)
          exact ⟨hy, v, h5, hv _ v (List.getElem?_eq_getElem hlt) h6⟩
        · cases hx
      · exact h4 q x hx
    · exact ⟨g1, o, by rw [List.getElem?_set_ne (fun e => hi e.symm)]; exact g2, g3, g4⟩
  · obtain ⟨x', h1, h2⟩ := hback i x hx lx
    obtain ⟨z', h3, h4⟩ := hback k z hz lz
    exact hh.inj i k b x' z' hi hk h1 h3 h2 h4
  · rw [hh.wm k]
    by_cases hi : k = id
    · subst hi
      rw [List.getElem?_set_self (lt_of_get hc), hc]
    · rw [List.getElem?_set_ne (fun e => hi e.symm)]
  · obtain ⟨g1, ⟨n, g2⟩, g3, g4⟩ := hh.tok k b hk
    have hi : k ≠ id := fun e => by subst e; rw [hc] at g2; cases g2
    refine ⟨g1, ⟨n, by rw [List.getElem?_set_ne (fun e => hi e.symm)]; exact g2⟩, fun i o hr ho hl => ?_, g4⟩
    obtain ⟨o', h1, h2⟩ := hback i o ho hl
    exact g3 i o' hr h1 h2
theorem w_acc_cell {A : Type} {m : Nat} {e : Env} {h h' : Heap} {l : List A} {f : A → HV} (id j sz : Nat) {n : Nat} {cs : List HV} (hn : h.length = n) (hf : Enc f sz) (hc : h[id]? = some (.cells cs)) (hj : cs[j]? = some (.list (l.map f) .full)) (hh : h.set id (.cells (cs.set j (.list (l.map f) (.own n 1 sz)))) ++ [.tok (1 + l.length)] = h') : WeakF m e h e h' := by
  subst hn
  subst hh
  refine WeakF.of fun N ds K w a hr => ?_
  have hw := wid_map hf l
  have htp : TokPlace h (h ++ [.tok (1 + (l.map f).length)]) h.length (1 + (l.map f).length) := .inr ⟨rfl, rfl, by omega⟩
  obtain ⟨s, hh'⟩ := tok_bare hr.heap htp rfl
  have hlt := lt_of_get hc
  have hc' : (h ++ [.tok (1 + (l.map f).length)])[id]? = some (.cells cs) := by rw [List.getElem?_append_left hlt]; exact hc
  have key : ∀ (x : HV) (v : Value), cs[j]? = some x → V (K.tokAt h.length (1 + (l.map f).length) none) w x v → V (K.tokAt h.length (1 + (l.map f).length) none) w (.list (l.map f) (.own h.length 1 sz)) v := by
    intro x v hx hV
    rw [hj] at hx
    injection hx with hx
    subst hx
    generalize l.map f = hs at hw hV
    cases hV with
    | nil _ _ => exact .nil _ (by simp [TokNil, GK.tokAt])
    | list0 _ _ ad => exact .list0 _ (by simp [TokNil, GK.tokAt]) ad
    | list _ _ b of cap sz' vals hw' hleaf hvv hc hlim hcap htk => exact .list _ _ b of cap sz vals hw hleaf hvv hc hlim hcap ⟨by simp [GK.tokAt], flat_length hw, fun _ => .inl htk⟩
  have h2 := hh'.recell (y := .list (l.map f) (.own h.length 1 sz)) hc' rfl key
  refine ⟨_, s, ?_, fun u x hx => (hr.env u x hx).step s, hr.size, hr.defers⟩
  rw [List.set_append_left _ _ hlt] at h2
  simpa using h2
end Go.Hw

set_option linter.unusedVariables false
set_option linter.unusedSimpArgs false
namespace Go.Hw
open Go
variable {P : Program} {N m : Nat} {S D : CallP} {b : Nat} {r : List Op} {e e' : Env} {h h' : Heap} {Q : Env → Heap → Prop} {QQ : Ex → Env → Heap → Prop} {d : Nat} {x y z : X}

end Go.Hw

set_option linter.unusedVariables false
set_option linter.unusedSimpArgs false
namespace Go.Hw
open Go
variable {P : Program} {N m : Nat} {S D : CallP} {b : Nat} {r : List Op} {e e' : Env} {h h' : Heap} {Q : Env → Heap → Prop} {QQ : Ex → Env → Heap → Prop} {d : Nat} {x y z : X}

theorem pv_nil : PV (.list [] .full) := .list _ _ (by simp) (by simp [flat])
@[reducible] def oo (d : Nat) (x : O) : Op := ⟨some d, .op x, none⟩
@[reducible] def os (x : O) : Op := ⟨none, .op x, none⟩
@[reducible] def og (d : Nat) (x : O) (t : Nat) (b : Bool) : Op := ⟨some d, .op x, some (t, b)⟩
@[reducible] def co (d : Nat) (x : OC) : Op := ⟨some d, x, none⟩
@[reducible] def cs (x : OC) : Op := ⟨none, x, none⟩
@[reducible] def cg (d : Nat) (x : OC) (t : Nat) (b : Bool) : Op := ⟨some d, x, some (t, b)⟩
theorem q_reg {ops : List Op} {keep : List Nat} {q : C} (k : HO (HCalls P) 0 ops e h (Fin (SeqS P N m q QQ) keep)) : SC P N m (.seq (.reg ops keep) q) QQ e h := sc_seq (s_reg k)
theorem g_endq {keep : List Nat} {q : C} (e' : Env) (hp : prune e keep = e') (k : SC P N m q QQ e' h) : HO S b [] e h (Fin (SeqS P N m q QQ) keep) := g_end e' hp k

theorem g_mkfunc {f : FuncId} {xs : List X} {vs cs : List HV} (hx : evs e xs = some vs) (hc : vs.map HV.strip1 = cs) (k : HO S b r ((d, .func f cs) :: e) h Q) : HO S b (⟨some d, .op (.mkfunc f xs), none⟩ :: r) e h Q := by
  subst hc
  refine ⟨?_⟩
  simp only [hops, hcall, hstep, hx]
  exact k.out
def RenFL (σ : List Nat) : List HV → List HV → Prop
  | [], [] => True
  | x :: xs, y :: ys => Ren σ x y ∧ RenFL σ xs ys
  | _, _ => False
theorem RenFL.get {σ : List Nat} : ∀ {xs ys : List HV}, RenFL σ xs ys → xs.length = ys.length ∧ ∀ (j : Nat) (x y : HV), xs[j]? = some x → ys[j]? = some y → Ren σ x y
  | [], [], _ => ⟨rfl, fun j x y h => by simp at h⟩
  | x :: xs, y :: ys, ⟨h1, h2⟩ => by
    obtain ⟨h3, h4⟩ := h2.get
    refine ⟨by simp [h3], fun j u v h5 h6 => ?_⟩
    cases j with
    | zero => simp at h5 h6; subst h5; subst h6; exact h1
    | succ j => simp at h5 h6; exact h4 j u v h5 h6
theorem rf_nil {σ : List Nat} : RenFL σ [] [] := trivial
theorem rf_cons {σ : List Nat} {x' y' : HV} {xs ys : List HV} (h1 : Ren σ x' y') (h3 : RenFL σ xs ys) : RenFL σ (x' :: xs) (y' :: ys) := ⟨h1, h3⟩
theorem Ren.fn {σ : List Nat} {f : FuncId} {xs ys : List HV} (h : RenFL σ xs ys) : Ren σ (.func f xs) (.func f ys) := .func f xs ys h.get.1 h.get.2

def SubD (P : Program) (S : CallP) (f : FuncId) : Prop := ∀ as h R, DCalls P f as h R → S f as h R
def SubH (P : Program) (S : CallP) (f : FuncId) : Prop := ∀ as h R, HCalls P f as h R → S f as h R
theorem dh {f : FuncId} : SubD P (HCalls P) f := fun _ _ _ h => DCalls.sub h
theorem dd {f : FuncId} : SubD P (DCalls P) f := fun _ _ _ h => h
theorem hh {f : FuncId} : SubH P (HCalls P) f := fun _ _ _ h => h
theorem hm {acts : List FuncId} {f : FuncId} (hf : acts.contains f = true) : SubH P (MCalls P acts) f := fun as h R hd => by
  unfold MCalls
  rw [if_pos hf]
  exact hd
theorem k_call {f : FuncId} (hS : SubD P S f) {xs : List X} {vs as : List HV} {A : Type} {g : A → HV} {K : A → Prop} (hx : evs e xs = some vs) (ha : vs.map HV.strip1 = as) (hw : ∃ a, PCall P f as (g a) ∧ K a) (k : ∀ a, K a → HO S b r ((d, g a) :: e) h Q) : HO S b (⟨some d, .call f xs, none⟩ :: r) e h Q := by
  obtain ⟨a, h1, h2⟩ := hw
  subst ha
  refine ⟨?_⟩
  simp only [hops, hcall, hx]
  exact hS _ _ _ ⟨_, h1, (k a h2).out⟩
theorem k_callv {f : FuncId} (hS : SubD P S f) {caps : List HV} (hf : x.ev e = some (.func f caps)) {xs : List X} {vs as : List HV} {A : Type} {g : A → HV} {K : A → Prop} (hx : evs e xs = some vs) (ha : vs.map HV.strip1 ++ caps = as) (hw : ∃ a, PCall P f as (g a) ∧ K a) (k : ∀ a, K a → HO S b r ((d, g a) :: e) h Q) : HO S b (⟨some d, .callv x xs, none⟩ :: r) e h Q := by
  obtain ⟨a, h1, h2⟩ := hw
  subst ha
  refine ⟨?_⟩
  simp only [hops, hcall, hf, hx]
  exact hS _ _ _ ⟨_, h1, (k a h2).out⟩
theorem mc_frame {f : FuncId} {vs as : List HV} {A : Type} {h0 : Heap} {g g2 : A → HV} {ho H2 : A → Heap} {K : A → Prop} {R : HV → Heap → Prop} (σ τ : List Nat) (n k : Nat) (hw : ∃ a, MC P f as h0 (g a) (ho a) ∧ K a) (hN : h.length = n) (hτ : tau σ n k = τ) (hnd : σ.Nodup) (hlt : ∀ j ∈ σ, j < n)
    (hin : RenH σ h σ h0) (hdead : HObj.dead ∉ h0) (hargs : RenA σ as vs)
    (l1 : ∀ a, (ho a).length = σ.length + k) (l2 : ∀ a, (H2 a).length = n + k) (hres : ∀ a, Ren τ (g a) (g2 a)) (hoff : ∀ a, SameOff σ 0 h (H2 a)) (hback : ∀ a, ROut τ (H2 a) τ (ho a))
    (kk : ∀ a, K a → R (g2 a) (H2 a)) : HCalls P f vs h R := by
  obtain ⟨a, h1, h2⟩ := hw
  subst hN
  have hk := kk a h2
  refine HCalls.frame (R := fun x h' => x = g a ∧ h' = ho a) σ h1 hnd (fun i j hij => hlt j (List.mem_of_getElem? hij)) hin.get.1 (fun i j o' hi hj => ?_) ?_ ?_
  · obtain ⟨o, g1, g2, g3⟩ := hin.get.2 i j o' hi hj
    exact ⟨o, g1, g2, g3, fun hd => hdead (hd ▸ List.mem_of_getElem? hi)⟩
  · obtain ⟨g1, g2⟩ := hargs.get
    exact ⟨g1, g2⟩
  · rintro x h' ⟨rfl, rfl⟩
    have hkk : (ho a).length - σ.length = k := by rw [l1 a]; omega
    refine ⟨g2 a, H2 a, hk, by rw [l1 a]; omega, ?_, by rw [hkk]; exact l2 a, fun j hj hn => ?_, fun i j o1 hi ho1 => ?_⟩
    · rw [hkk, hτ]; exact hres a
    · refine (hoff a).get j hj ?_
      rw [Nat.zero_add]
      intro hm
      obtain ⟨i, hi⟩ := List.getElem?_of_mem hm
      exact hn i hi
    · rw [hkk, hτ] at hi ⊢
      exact (hback a).get i j o1 hi ho1
theorem k_hcall {f : FuncId} (hS : SubH P S f) {xs : List X} {vs ws as : List HV} {A : Type} {h0 : Heap} {g g2 : A → HV} {ho H2 : A → Heap} {K : A → Prop} (σ τ : List Nat) (n k : Nat) (hx : evs e xs = some vs) (ha : vs.map HV.strip1 = ws) (hw : ∃ a, MC P f as h0 (g a) (ho a) ∧ K a) (hN : h.length = n) (hτ : tau σ n k = τ) (hnd : σ.Nodup) (hlt : ∀ j ∈ σ, j < n)
    (hin : RenH σ h σ h0) (hdead : HObj.dead ∉ h0) (hargs : RenA σ as ws)
    (l1 : ∀ a, (ho a).length = σ.length + k) (l2 : ∀ a, (H2 a).length = n + k) (hres : ∀ a, Ren τ (g a) (g2 a)) (hoff : ∀ a, SameOff σ 0 h (H2 a)) (hback : ∀ a, ROut τ (H2 a) τ (ho a))
    (kk : ∀ a, K a → HO S b r ((d, g2 a) :: e) (H2 a) Q) : HO S b (⟨some d, .call f xs, none⟩ :: r) e h Q := by
  subst ha
  refine ⟨?_⟩
  simp only [hops, hcall, hx]
  exact hS _ _ _ (mc_frame σ τ n k hw hN hτ hnd hlt hin hdead hargs l1 l2 hres hoff hback fun a ha => (kk a ha).out)
theorem k_hcallv {f : FuncId} (hS : SubH P S f) {caps : List HV} (hf : x.ev e = some (.func f caps)) {xs : List X} {vs ws as : List HV} {A : Type} {h0 : Heap} {g g2 : A → HV} {ho H2 : A → Heap} {K : A → Prop} (σ τ : List Nat) (n k : Nat) (hx : evs e xs = some vs) (ha : vs.map HV.strip1 ++ caps = ws) (hw : ∃ a, MC P f as h0 (g a) (ho a) ∧ K a) (hN : h.length = n) (hτ : tau σ n k = τ) (hnd : σ.Nodup) (hlt : ∀ j ∈ σ, j < n)
    (hin : RenH σ h σ h0) (hdead : HObj.dead ∉ h0) (hargs : RenA σ as ws)
    (l1 : ∀ a, (ho a).length = σ.length + k) (l2 : ∀ a, (H2 a).length = n + k) (hres : ∀ a, Ren τ (g a) (g2 a)) (hoff : ∀ a, SameOff σ 0 h (H2 a)) (hback : ∀ a, ROut τ (H2 a) τ (ho a))
    (kk : ∀ a, K a → HO S b r ((d, g2 a) :: e) (H2 a) Q) : HO S b (⟨some d, .callv x xs, none⟩ :: r) e h Q := by
  subst ha
  refine ⟨?_⟩
  simp only [hops, hcall, hf, hx]
  exact hS _ _ _ (mc_frame σ τ n k hw hN hτ hnd hlt hin hdead hargs l1 l2 hres hoff hback fun a ha => (kk a ha).out)
end Go.Hw

set_option linter.unusedVariables false
set_option linter.unusedSimpArgs false
namespace Go.Hw
open Go
variable {P : Program}
def RetS2 (rs : List RS) (m : Nat) (R : HV → Heap → Prop) : Ex → Env → Heap → Prop := fun q e h => (q = .normal ∨ q = .ret) ∧ ∃ vs, resVals2 e h rs = some vs ∧ ∃ ws h', ws.length = vs.length ∧ WeakF m (argEnv vs) h (argEnv ws) h' ∧ R (retV ws) h'
theorem argEnvFrom_get : ∀ (l : List HV) (i j : Nat) (x : HV), l[j]? = some x → Env.get (argEnvFrom i l) (i + j) = some x
  | [], i, j, x, h => by simp at h
  | y :: r, i, 0, x, h => by simp at h; subst h; simp [argEnvFrom, Env.get]
  | y :: r, i, j + 1, x, h => by
    simp only [argEnvFrom, Env.get]
    rw [if_neg (by omega), show i + (j + 1) = i + 1 + j by omega]
    exact argEnvFrom_get r (i + 1) j x (by simpa using h)
theorem sc_func2 {f : FuncId} {fn : Func} {code : Code} {c : C} {ann : Ann} {rs : List RS} {args : List HV} {h : Heap} {R : HV → Heap → Prop} (hf : P.funcs[f]? = some fn) (hb : fn.body = some code) (hn : fn.name ≠ "runtime.NumGoroutine")
    (hres : resTags P fn.results.toList = some rs) (hargs : args.length ≤ fn.ntmps) (hc : comp P ann fn.ntmps code = some c)
    (hw : SC P fn.ntmps h.length c (RetS2 rs h.length R) (argEnv args) h) : HCalls P f args h R := by
  refine ⟨⟨fn, hf, by rw [hb]; rfl, hn⟩, fun K w vs hh hl hv => ?_⟩
  refine (callsIn_wide (n := 0)).1 (callsIn_of_wp_marks (F := Fence.wide) hf hb trivial (wpIn_mono (hw none (.inl rfl) ann code hc K w K w _ (base_of hh) (.refl K w) ⟨[], .nil _ _ _, hh, fun t x hx => ?_, ?_, rfl⟩) ?_))
  · obtain ⟨_, h2⟩ := argEnv_get args 0 t x hx
    simp only [Nat.sub_zero] at h2
    have hlt := lt_of_get h2
    obtain ⟨v, hvt⟩ := get_of_lt (l := vs) (j := t) (by omega)
    have : (vs.toArray ++ Array.replicate (fn.ntmps - vs.toArray.size) undef).getD t undef = v := by
      rw [Array.getD_eq_getD_getElem?, Array.getElem?_append_left (by simp; omega)]
      simp [hvt]
    rw [this]
    exact hv t x v h2 hvt
  · simp; omega
  · rintro ex a' w1 ⟨q, K1, e1, h1, rfl, s1, ⟨ds, ⟨Ds, hds, hnd, hD⟩, r0⟩, hq, xs, hxs, ys, h', hlen, hwk, hR⟩
    have key : LeavesInM Fence.wide 0 P fn a'.tmps (fun en w' => ∃ v x K' h', en = Ending.returned v ∧ Step K w K' w' ∧ HeapRel K' h' w' ∧ _root_.Go.Hw.V K' w' x v ∧ R x h') a'.defers .returning w1 := by
      rw [r0.defers, hds]
      refine leaves_marks (K0 := K) (w0 := w) (K := K1) (h := h1) (e := e1) (fun w' s1 hh1 he1 => ?_) Ds w1 hnd hD s1 r0.heap r0.env
      have r1 : RelD fn.ntmps w K1 w' e1 h1 { a' with defers := [] } := ⟨[], .nil _ _ _, hh1, he1, r0.size, rfl⟩
      obtain ⟨us, k1, k2, k3, k4⟩ := res_run (P := P) r1 hres hxs
      obtain ⟨K', s, hr'⟩ := hwk us.length K w K1 w' { tmps := us.toArray, defers := [] } (base_of hh) s1 ⟨[], .nil _ _ _, r1.heap, fun t x hx => by
        obtain ⟨_, h2⟩ := argEnv_get xs 0 t x hx
        simp only [Nat.sub_zero] at h2
        have hlt := lt_of_get h2
        obtain ⟨v, hvt⟩ := get_of_lt (l := us) (j := t) (by omega)
        have : us.toArray.getD t undef = v := by simp [Array.getD_eq_getD_getElem?, hvt]
        show _root_.Go.Hw.V K1 w' x (us.toArray.getD t undef)
        rw [this]
        exact k4 t x v h2 hvt, by simp, rfl⟩
      have k4' : ∀ (j : Nat) (x : HV) (u : Value), ys[j]? = some x → us[j]? = some u → V K' w' x u := by
        intro j x u hx hu
        have h2 := argEnvFrom_get ys 0 j x hx
        rw [Nat.zero_add] at h2
        have h3 := hr'.env j x h2
        have : us.toArray.getD j undef = u := by simp [Array.getD_eq_getD_getElem?, hu]
        rw [show ({ tmps := us.toArray, defers := [] } : Act).tmps = us.toArray from rfl, this] at h3
        exact h3
      have hrun : (results fn a'.tmps).run P w' = .ok (packV us) w' := by
        have he : results fn a'.tmps = (do
            let vs ← fn.results.mapM (resOf a'.tmps)
            pure (if h : vs.size = 1 then vs[0] else .tuple vs)) := rfl
        have hr2 : fn.results = fn.results.toList.toArray := by simp
        have hm : (fn.results.mapM (resOf a'.tmps)).run P w' = .ok us.toArray w' := by
          rw [hr2]
          simp only [List.mapM_toArray, Sem.run_map, k1, Result.andThen_ok]
        rw [he]
        simp only [Sem.run_bind, hm, Result.andThen_ok, Sem.run_pure]
        congr 1
        cases us with
        | nil => rfl
        | cons x r =>
          cases r with
          | nil => rfl
          | cons y r => simp [packV]
      have hV : V K' w' (retV ys) (packV us) := by
        have hall : V K' w' (.tuple ys) (.tuple us.toArray) := V.tuple ys us (by omega) k4'
        cases us with
        | nil =>
          cases ys with
          | nil => exact hall
          | cons _ _ => simp at hlen k2 k3; omega
        | cons t r =>
          cases ys with
          | nil => simp at hlen k2 k3; omega
          | cons u xs =>
            cases r with
            | nil =>
              cases xs with
              | nil => exact k4' 0 u t rfl rfl
              | cons _ _ => simp at hlen k2 k3; omega
            | cons t2 r =>
              cases xs with
              | nil => simp at hlen k2 k3; omega
              | cons u2 us => exact hall
      exact ⟨_, hrun, _, _, K', h', rfl, s, hr'.heap, hV, hR⟩
    rcases hq with rfl | rfl
    · exact key
    · exact key

theorem p_hfunc2 {f : FuncId} {fn : Func} {code : Code} {c : C} {ann : Ann} {rs : List RS} {args : List HV} {h : Heap} {x0 : HV} {h0 : Heap} (hf : P.funcs[f]? = some fn) (hb : fn.body = some code) (hn : fn.name ≠ "runtime.NumGoroutine")
    (hres : resTags P fn.results.toList = some rs) (hargs : args.length ≤ fn.ntmps) (hc : comp P ann fn.ntmps code = some c)
    (hw : SC P fn.ntmps h.length c (RetS2 rs h.length fun x h' => x = x0 ∧ h' = h0) (argEnv args) h) : MC P f args h x0 h0 :=
  sc_func2 hf hb hn hres hargs hc hw
theorem p_func2 {f : FuncId} {fn : Func} {code : Code} {c : C} {ann : Ann} {rs : List RS} {args : List HV} {A : Type} {g : A → HV} {a : A} (hf : P.funcs[f]? = some fn) (hb : fn.body = some code) (hn : fn.name ≠ "runtime.NumGoroutine")
    (hres : resTags P fn.results.toList = some rs) (hargs : args.length ≤ fn.ntmps) (hc : comp P ann fn.ntmps code = some c) (hpv : ∀ x ∈ args, PV x) (hpr : PV (g a)) (hs : (g a).strip1 = g a)
    (hw : SC P fn.ntmps 0 c (RetS2 rs 0 fun x h' => x = g a ∧ h' = []) (argEnv args) []) : PCall P f args (g a) :=
  ⟨hpv, hpr, (sc_func2 (h := []) hf hb hn hres hargs hc hw).mono fun x _ ⟨h1, _⟩ => by rw [h1, hs]⟩
variable {m : Nat} {e : Env} {h : Heap}
theorem g_hret3 {A : Type} {a r0 : A} {g : A → HV} {ho : A → Heap} {rs : List RS} {ex : Ex} {vs ws : List HV} (ha : a = r0) (hq : ex = .normal ∨ ex = .ret) (hv : resVals2 e h rs = some vs) (e1 e2 : Env) (h1 : argEnv vs = e1) (h2 : argEnv ws = e2) (hl : ws.length = vs.length) (hk : WeakF m e1 h e2 (ho a)) (hf : retV ws = g a) : RetS2 rs m (fun x h' => x = g r0 ∧ h' = ho r0) ex e h := by
  subst ha; subst h1; subst h2
  exact ⟨hq, vs, hv, ws, ho a, hl, hk, hf, rfl⟩
end Go.Hw

set_option linter.unusedVariables false
set_option linter.unusedSimpArgs false
namespace Go.Hw
open Go

section
variable {H : Type} {enc : TypeId × Value → H} {P : Program}

mutual
def hvOf : DataW H → HV
  | .lit (.bool b) => .bool b
  | .lit (.int k n) => .int k n
  | .lit (.string s) => .str s
  | .nil => .list [] .none
  | .slice es _ => .list (hvOfs es) .none
  | .agg ps => .agg (hvCells ps)
  | _ => .any
def hvOfs : List (DataW H) → List HV
  | [] => []
  | d :: r => hvOf d :: hvOfs r
def hvCells : List (DataW H) → List HV
  | [] => []
  | d :: r => (hvOf d).cells ++ hvCells r
end
theorem hvOfs_map : ∀ (l : List (DataW H)), hvOfs l = l.map hvOf
  | [] => by simp [hvOfs]
  | d :: r => by simp [hvOfs, hvOfs_map r]
theorem hvCells_flat : ∀ (l : List (DataW H)), hvCells l = flat (l.map hvOf)
  | [] => by simp [hvCells, flat]
  | d :: r => by rw [hvCells, hvCells_flat r, List.map_cons, flat_cons]

def K0 (W : World) : GK := { lim := fun b => match W.heap[b]? with | some (.cells c _ _) => c.size | _ => 0, rho := fun _ => none, tb := fun _ => none, wm := fun _ => 0 }
theorem heap0 (W : World) (hT : TabOk (K0 W) W := by exact ⟨fun p hp => absurd hp List.not_mem_nil, fun p hp => absurd hp List.not_mem_nil⟩) : HeapRel (K0 W) [] W :=
  ⟨fun id b hr => by simp [K0] at hr, fun i j b x y hi => by simp [K0] at hi, fun k => by simp [K0], fun k b hk => by simp [K0] at hk, fun i j b hi => by simp [K0] at hi, ⟨fun b hb => by simp [K0, Array.getElem?_eq_none hb], hT⟩⟩
theorem cell_lim {W : World} {b i : Nat} {v : Value} (h : W.cell? ⟨b, i, none⟩ = some v) : i < (K0 W).lim b := by
  unfold World.cell? at h
  simp only [K0]
  split at h
  · rename_i c e fr hc
    rw [hc]
    simp only at h ⊢
    have h' : c[i]? = some v := by simpa using h
    exact (Array.getElem?_eq_some_iff.1 h').1
  · cases h
theorem cell_spot {W : World} {a : Addr} {v : Value} (h : W.cell? a = some v) : a.spot = none := World.cell?_spot h

def Vs (W : World) (hs : List HV) (cs : List Value) : Prop := hs.length = cs.length ∧ (∀ y ∈ hs, y.leaf = true) ∧ ∀ (j : Nat) (y : HV) (v : Value), hs[j]? = some y → cs[j]? = some v → V (K0 W) W y v
theorem Vs.append {W : World} {a b : List HV} {c d : List Value} (h1 : Vs W a c) (h2 : Vs W b d) : Vs W (a ++ b) (c ++ d) := by
  refine ⟨by simp [h1.1, h2.1], fun y hy => ?_, fun j y v hy hv => ?_⟩
  · rcases List.mem_append.1 hy with h | h
    · exact h1.2.1 y h
    · exact h2.2.1 y h
  · rw [List.getElem?_append] at hy hv
    rw [h1.1] at hy
    split at hy
    · rename_i hlt; rw [if_pos hlt] at hv; exact h1.2.2 j y v hy hv
    · rename_i hlt; rw [if_neg hlt] at hv; exact h2.2.2 _ y v hy hv
def tiledL (P : Program) : List Field → Nat → Bool
  | [], _ => true
  | f :: r, o => f.offset == o && tiledL P r (o + P.cellsOf f.type)
def sizesOf (P : Program) : List Field → Nat
  | [] => 0
  | f :: r => P.cellsOf f.type + sizesOf P r
def plainL (P : Program) : Nat → TypeId → Bool
  | 0, _ => false
  | d + 1, t => match P.underlying t with
    | some .bool | some (.int _) | some .string => true
    | some (.slice e) => plainL P d e && P.cellsOf e != 0
    | some (.struct fs) => fs.toList.all (fun f => plainL P d f.type) && tiledL P fs.toList 0 && sizesOf P fs.toList == P.cellsOf t
    | _ => false

theorem flat_get {sz : Nat} : ∀ {hs : List HV}, (∀ y ∈ hs, y.cells.length = sz) → ∀ (j : Nat) (y : HV), (flat hs)[j]? = some y → ∃ x, hs[j / sz]? = some x ∧ x.cells[j % sz]? = some y
  | [], _, j, y, h => by simp [flat] at h
  | x :: r, hw, j, y, h => by
    have hx := hw x (by simp)
    rw [flat_cons, List.getElem?_append, hx] at h
    split at h
    · rename_i hlt
      rw [Nat.div_eq_of_lt hlt, Nat.mod_eq_of_lt hlt]
      exact ⟨x, rfl, h⟩
    · rename_i hge
      obtain ⟨z, h1, h2⟩ := flat_get (fun y hy => hw y (by simp [hy])) _ y h
      have hpos : 0 < sz := by
        rcases Nat.eq_zero_or_pos sz with h0 | h0
        · subst h0
          have : z.cells = [] := List.eq_nil_of_length_eq_zero (hw z (by simp [List.mem_of_getElem? h1]))
          rw [this] at h2
          simp at h2
        · exact h0
      have e1 : j / sz = (j - sz) / sz + 1 := by rw [← Nat.sub_add_cancel (show sz ≤ j by omega), Nat.add_div_right _ hpos]; simp
      have e2 : j % sz = (j - sz) % sz := Nat.mod_eq_sub_mod (by omega)
      rw [e1, e2]
      exact ⟨z, by simpa using h1, h2⟩

theorem trod_V {W : World} {held : Bool} : ∀ (d fuel : Nat) (t : TypeId) (cs : List Value) (x : DataW H × List MemPlace), plainL P d t = true → DataW.trod enc P W 0 (fun _ => true) held fuel t cs = some x → Vs W (hvOf x.1).cells cs ∧ (hvOf x.1).cells.length = P.cellsOf t ∧ isTuple (hvOf x.1) = false ∨ (P.cellsOf t ≠ 1 ∧ ∀ fs, P.underlying t ≠ some (.struct fs))
  | 0, fuel, t, cs, x, hp, h => by simp [plainL] at hp
  | d + 1, fuel, t, cs, x, hp, h => by
    by_cases hone : P.cellsOf t ≠ 1 ∧ ∀ fs, P.underlying t ≠ some (.struct fs)
    · exact .inr hone
    refine .inl ?_
    have hc1 : (∀ fs, P.underlying t ≠ some (.struct fs)) → P.cellsOf t = 1 := fun hn => Classical.byContradiction fun h1 => hone ⟨h1, hn⟩
    unfold plainL at hp
    have leaf1 : ∀ {y : HV} {v : Value}, y.cells = [y] → y.leaf = true → isTuple y = false → V (K0 W) W y v → P.cellsOf t = 1 → Vs W y.cells [v] ∧ y.cells.length = P.cellsOf t ∧ isTuple y = false := by
      intro y v h1 h2 h3 h4 h5
      rw [h1]
      refine ⟨⟨rfl, by simpa using h2, fun j z u hz hu => ?_⟩, by rw [h5]; rfl, h3⟩
      cases j with
      | zero => simp at hz hu; subst hz; subst hu; exact h4
      | succ j => simp at hz
    split at hp
    · rename_i hu
      obtain ⟨b, rfl, rfl⟩ := DataW.trod_bool hu h
      exact leaf1 rfl rfl rfl (.bool b) (hc1 (by simp [hu]))
    · rename_i k hu
      obtain ⟨n, rfl, rfl, _⟩ := DataW.trod_int hu h
      exact leaf1 rfl rfl rfl (.int k n) (hc1 (by simp [hu]))
    · rename_i hu
      obtain ⟨s, rfl, rfl, _⟩ := DataW.trod_string hu h
      refine leaf1 rfl rfl rfl ?_ (hc1 (by simp [hu]))
      have := V.str (K := K0 W) (w := W) s.data.toList
      simp only [hvOf]
      simpa using this
    · rename_i e hu
      simp only [Bool.and_eq_true, bne_iff_ne, ne_eq] at hp
      obtain ⟨hpe, hsz⟩ := hp
      have hct := hc1 (by simp [hu])
      rcases DataW.trod_slice hu h with ⟨rfl, rfl⟩ | ⟨a, len, cap, elems, rest, n, rfl, rfl, rfl, _, hlc, hcm, hlen, hel, hsp, _⟩
      · exact leaf1 (by simp [hvOf, HV.cells]) rfl rfl (by simp only [hvOf]; exact .nil _ trivial) hct
      · refine leaf1 (by simp [hvOf, HV.cells]) (by simp [hvOf, HV.leaf]) (by simp [hvOf, isTuple]) ?_ hct
        simp only [hvOf, hvOfs_map, List.map_map]
        show V (K0 W) W (.list (elems.map (hvOf ∘ Prod.fst)) .none) _
        obtain ⟨hrl, hr⟩ := hsp rfl
        -- each element
        have each : ∀ i y, elems[i]? = some y → ∃ cs', W.cells? 0 (a.add (i * P.cellsOf e)) (P.cellsOf e) = some cs' ∧ DataW.trod enc P W 0 (fun _ => true) held n e cs' = some y := by
          intro i y hy
          have hi : i < len := by rw [← hlen]; exact lt_of_get hy
          have := hel i hi
          rw [hy, Option.bind_eq_some_iff] at this
          exact this
        have hspot : 0 < cap → a.spot = none := by
          intro h0
          have h1 : ∃ cs', W.cells? 0 (a.add (0 * P.cellsOf e)) (P.cellsOf e) = some cs' := by
            rcases Nat.eq_zero_or_pos len with hl0 | hl0
            · have hj := hr 0 (by omega)
              obtain ⟨y, hy⟩ := get_of_lt (l := rest) (j := 0) (by omega)
              rw [hy, Option.bind_eq_some_iff, hl0] at hj
              obtain ⟨cs', h1, _⟩ := hj
              exact ⟨cs', by simpa using h1⟩
            · obtain ⟨y, hy⟩ := get_of_lt (l := elems) (j := 0) (by omega)
              obtain ⟨cs', h1, _⟩ := each 0 y hy
              exact ⟨cs', h1⟩
          obtain ⟨cs', h1⟩ := h1
          obtain ⟨_, h2, h3⟩ := World.cells?_some h1
          have h4 := h3 0 (by omega)
          obtain ⟨v, hv⟩ := get_of_lt (l := cs') (j := 0) (by omega)
          rw [hv] at h4
          have := cell_spot h4
          simpa [Addr.add] using this
        rcases Nat.eq_zero_or_pos cap with hc0 | hc0
        · obtain rfl : len = 0 := by omega
          subst hc0
          have : elems = [] := List.eq_nil_of_length_eq_zero hlen
          subst this
          exact .list0 .none trivial a
        · obtain ⟨b, o, sp⟩ := a
          obtain rfl : sp = none := hspot hc0
          have hadd : ∀ i, (⟨b, o, none⟩ : Addr).add i = ⟨b, o + i, none⟩ := fun i => Addr.add_lit ..
          have ih : ∀ i y, elems[i]? = some y → (∃ cs', W.cells? 0 ⟨b, o + i * P.cellsOf e, none⟩ (P.cellsOf e) = some cs' ∧ Vs W (hvOf y.1).cells cs') ∧ (hvOf y.1).cells.length = P.cellsOf e ∧ isTuple (hvOf y.1) = false := by
            intro i y hy
            obtain ⟨cs', h1, h2⟩ := each i y hy
            rw [hadd] at h1
            rcases trod_V d n e cs' y hpe h2 with ⟨h3, h4, h5⟩ | ⟨h3, h4⟩
            · exact ⟨⟨cs', h1, h3⟩, h4, h5⟩
            · exfalso
              -- a type of one cell
              have hl := (World.cells?_some h1).2.1
              cases d with
              | zero => simp [plainL] at hpe
              | succ d =>
                unfold plainL at hpe
                split at hpe
                · rename_i hu'; obtain ⟨_, rfl, _⟩ := DataW.trod_bool hu' h2; simp at hl; exact h3 hl.symm
                · rename_i hu'; obtain ⟨_, rfl, _⟩ := DataW.trod_int hu' h2; simp at hl; exact h3 hl.symm
                · rename_i hu'; obtain ⟨_, rfl, _⟩ := DataW.trod_string hu' h2; simp at hl; exact h3 hl.symm
                · rename_i hu'; rcases DataW.trod_slice hu' h2 with ⟨rfl, _⟩ | ⟨_, _, _, _, _, _, _, rfl, _⟩ <;> (simp at hl; exact h3 hl.symm)
                · rename_i fs hu'; exact h4 fs hu'
                · cases hpe
          have hw : ∀ y ∈ elems.map (hvOf ∘ Prod.fst), y.cells.length = P.cellsOf e := by
            intro y hy
            obtain ⟨z, hz, rfl⟩ := List.mem_map.1 hy
            obtain ⟨i, hi⟩ := mem_get hz
            exact (ih i z hi).2.1
          have hfl := flat_length hw
          have hcell : ∀ (j : Nat) (y : HV), (flat (elems.map (hvOf ∘ Prod.fst)))[j]? = some y → y.leaf = true ∧ ∃ v, W.cell? ⟨b, o + j, none⟩ = some v ∧ V (K0 W) W y v := by
            intro j y hy
            obtain ⟨x, h1, h2⟩ := flat_get hw j y hy
            rw [List.getElem?_map] at h1
            obtain ⟨z, h3, rfl⟩ := Option.map_eq_some_iff.1 h1
            obtain ⟨⟨cs', h4, h5⟩, h6, _⟩ := ih _ z h3
            obtain ⟨_, h7, h8⟩ := World.cells?_some h4
            have hlt : j % P.cellsOf e < P.cellsOf e := Nat.mod_lt _ (by omega)
            obtain ⟨v, hv⟩ := get_of_lt (l := cs') (j := j % P.cellsOf e) (by omega)
            have h9 := h8 _ hlt
            rw [hv, Addr.add_lit] at h9
            refine ⟨h5.2.1 y (List.mem_of_getElem? h2), v, ?_, h5.2.2 _ y v h2 hv⟩
            have : o + j / P.cellsOf e * P.cellsOf e + j % P.cellsOf e = o + j := by
              have := Nat.div_add_mod j (P.cellsOf e)
              rw [Nat.mul_comm] at this
              omega
            rwa [this] at h9
          have hlen' : len = (elems.map (hvOf ∘ Prod.fst)).length := by simp [hlen]
          rw [hlen']
          refine .list _ .none b o cap (P.cellsOf e) (fun j => (W.cell? ⟨b, o + j, none⟩).getD undef) hw (fun y hy => ?_) (fun j y hy => ?_) (fun j hj => ?_) (fun h0 => ?_) (by rw [← hlen']; exact hlc) trivial
          · obtain ⟨j, hj⟩ := mem_get hy
            exact (hcell j y hj).1
          · obtain ⟨_, v, h1, h2⟩ := hcell j y hy
            simp only [h1, Option.getD_some]
            exact h2
          · obtain ⟨y, hy⟩ := get_of_lt hj
            obtain ⟨_, v, h1, h2⟩ := hcell j y hy
            simp only [h1, Option.getD_some]
          · obtain ⟨y, hy⟩ := get_of_lt (l := flat (elems.map (hvOf ∘ Prod.fst))) (j := (flat (elems.map (hvOf ∘ Prod.fst))).length - 1) (by omega)
            obtain ⟨_, v, h1, _⟩ := hcell _ y hy
            have := cell_lim h1
            omega
    · rename_i fs hu
      simp only [Bool.and_eq_true, beq_iff_eq, List.all_eq_true] at hp
      obtain ⟨⟨hpf, htile⟩, hsize⟩ := hp
      obtain ⟨xs, n, rfl, rfl, hl, hxl, hx⟩ := DataW.trod_struct hu h
      have hL : fs.toList.length = xs.length := by simp [hxl]
      have hx' : ∀ (i : Nat) (f : Field), fs.toList[i]? = some f → DataW.trod enc P W 0 (fun _ => true) held n f.type ((cs.drop f.offset).take (P.cellsOf f.type)) = xs[i]? := fun i f hf => hx i f (by simpa using hf)
      simp only [hvOf, HV.cells, hvCells_flat, List.map_map]
      -- field by field
      have key : ∀ (L : List Field) (ys : List (DataW H × List MemPlace)) (off : Nat), L.length = ys.length → (∀ f ∈ L, plainL P d f.type = true) → tiledL P L off = true → (∀ (i : Nat) (f : Field), L[i]? = some f → DataW.trod enc P W 0 (fun _ => true) held n f.type ((cs.drop f.offset).take (P.cellsOf f.type)) = ys[i]?) → off + sizesOf P L ≤ cs.length →
          Vs W (flat (ys.map (hvOf ∘ Prod.fst))) ((cs.drop off).take (sizesOf P L)) := by
        intro L
        induction L with
        | nil =>
          intro ys off h1 _ _ _ _
          have : ys = [] := List.eq_nil_of_length_eq_zero h1.symm
          subst this
          exact ⟨by simp [flat, sizesOf], by simp [flat], fun j y v hy => by simp [flat] at hy⟩
        | cons f L ihL =>
          intro ys off h1 h2 h3 h4 h5
          cases ys with
          | nil => simp at h1
          | cons y ys =>
            simp only [tiledL, Bool.and_eq_true, beq_iff_eq] at h3
            simp only [sizesOf] at h5 ⊢
            have hy := h4 0 f rfl
            rw [h3.1] at hy
            simp only [List.getElem?_cons_zero] at hy
            have hV := trod_V d n f.type _ y (h2 f (by simp)) hy
            have hlen1 : ((cs.drop off).take (P.cellsOf f.type)).length = P.cellsOf f.type := by simp; omega
            have hV' : Vs W (hvOf y.1).cells ((cs.drop off).take (P.cellsOf f.type)) := by
              rcases hV with hV | ⟨q1, q2⟩
              · exact hV.1
              · exfalso
                have hpf := h2 f (by simp)
                generalize hcs : (cs.drop off).take (P.cellsOf f.type) = cs' at hy hlen1
                cases d with
                | zero => simp [plainL] at hpf
                | succ d =>
                  unfold plainL at hpf
                  split at hpf
                  · rename_i hu'; obtain ⟨_, rfl, _⟩ := DataW.trod_bool hu' hy; simp at hlen1; exact q1 hlen1.symm
                  · rename_i hu'; obtain ⟨_, rfl, _⟩ := DataW.trod_int hu' hy; simp at hlen1; exact q1 hlen1.symm
                  · rename_i hu'; obtain ⟨_, rfl, _⟩ := DataW.trod_string hu' hy; simp at hlen1; exact q1 hlen1.symm
                  · rename_i hu'; rcases DataW.trod_slice hu' hy with ⟨rfl, _⟩ | ⟨_, _, _, _, _, _, _, rfl, _⟩ <;> (simp at hlen1; exact q1 hlen1.symm)
                  · rename_i fs' hu'; exact q2 fs' hu'
                  · cases hpf
            have hR := ihL ys (off + P.cellsOf f.type) (by simpa using h1) (fun g hg => h2 g (by simp [hg])) h3.2 (fun i g hg => by simpa using h4 (i + 1) g (by simpa using hg)) (by omega)
            rw [List.map_cons, flat_cons]
            have e1 : (cs.drop off).take (P.cellsOf f.type + sizesOf P L) = (cs.drop off).take (P.cellsOf f.type) ++ (cs.drop (off + P.cellsOf f.type)).take (sizesOf P L) := by
              rw [List.take_add, List.drop_drop]
            rw [e1]
            exact hV'.append hR
      have hfin := key fs.toList xs 0 hL hpf htile hx' (by omega)
      rw [List.drop_zero, hsize, ← hl, List.take_length] at hfin
      exact ⟨hfin, by rw [hfin.1, hl], rfl⟩
    · cases hp
end
end Go.Hw

set_option linter.unusedVariables false
set_option linter.unusedSimpArgs false
namespace Go.Hw
open Go

section
variable {H : Type} {enc : TypeId × Value → H} {P : Program} {W : World}


def Rd (enc : TypeId × Value → H) (P : Program) (W : World) (t : TypeId) (d : DataW H) : Prop := ∃ fuel cs ps, DataW.trod enc P W 0 (fun _ => true) true fuel t cs = some (d, ps)
theorem rd_of {t : TypeId} {v : Value} {d : DataW H} {ps : List MemPlace} (h : DataW.Trod enc P W 0 (fun _ => true) true t v d ps) : Rd enc P W t d := by
  obtain ⟨n, hn⟩ := h
  exact ⟨n, _, ps, hn⟩
theorem rd_int {t : TypeId} {k : IntKind} {d : DataW H} (ht : P.underlying t = some (.int k)) (h : Rd enc P W t d) : ∃ n, hvOf d = .int k n ∧ k.min ≤ n ∧ n ≤ k.max := by
  obtain ⟨n, cs, ps, h⟩ := h
  obtain ⟨m, _, hx, hw⟩ := DataW.trod_int ht h
  injection hx with hx _
  subst hx
  simp only [Lit.wf, Bool.and_eq_true, decide_eq_true_eq] at hw
  exact ⟨m, by simp [hvOf], hw.1, hw.2⟩
theorem rd_list {A : Type} {t e : TypeId} {f : A → HV} {p : A → Prop} (ht : P.underlying t = some (.slice e)) (he : ∀ y : DataW H, Rd enc P W e y → ∃ a, hvOf y = f a ∧ p a) {d : DataW H} (h : Rd enc P W t d) : ∃ l : List A, hvOf d = .list (l.map f) .none ∧ l.length ≤ 9223372036854775807 ∧ ∀ a ∈ l, p a := by
  obtain ⟨n, cs, ps, h⟩ := h
  rcases DataW.trod_slice ht h with ⟨_, hx⟩ | ⟨a, len, cap, elems, rest, n, rfl, rfl, hx, _, hlc, hcm, hlen, hel, hsp, _⟩
  · injection hx with hx _
    subst hx
    exact ⟨[], by simp [hvOf], by simp, by simp⟩
  · injection hx with hx _
    subst hx
    have each : ∀ y ∈ elems, Rd enc P W e y.1 := by
      intro y hy
      obtain ⟨i, hi⟩ := mem_get hy
      have := hel i (by rw [← hlen]; exact lt_of_get hi)
      rw [hi, Option.bind_eq_some_iff] at this
      obtain ⟨cs', _, h2⟩ := this
      exact ⟨n, cs', y.2, h2⟩
    have hl : elems.length ≤ 9223372036854775807 := by rw [hlen]; exact Nat.le_trans hlc hcm
    clear hel hlen hsp h
    have key : ∀ l : List (DataW H × List MemPlace), (∀ y ∈ l, Rd enc P W e y.1) → ∃ r : List A, l.map (hvOf ∘ Prod.fst) = r.map f ∧ r.length = l.length ∧ ∀ a ∈ r, p a := by
      intro l
      induction l with
      | nil => intro _; exact ⟨[], rfl, rfl, by simp⟩
      | cons y l ih =>
        intro h
        obtain ⟨r, h1, h2, h3⟩ := ih fun z hz => h z (by simp [hz])
        obtain ⟨a, h4, h5⟩ := he y.1 (h y (by simp))
        refine ⟨a :: r, by simp [h1, h4], by simp [h2], fun b hb => ?_⟩
        simp at hb
        rcases hb with rfl | hb
        · exact h5
        · exact h3 b hb
    obtain ⟨r, h1, h2, h3⟩ := key elems each
    exact ⟨r, by simp only [hvOf, hvOfs_map, List.map_map]; rw [← h1], by rw [h2]; exact hl, h3⟩
theorem rd_struct {t : TypeId} {fs : Array Field} {d : DataW H} (ht : P.underlying t = some (.struct fs)) (h : Rd enc P W t d) : ∃ xs : List (DataW H), d = .agg xs ∧ xs.length = fs.size ∧ ∀ (i : Nat) (f : Field) (y : DataW H), fs[i]? = some f → xs[i]? = some y → Rd enc P W f.type y := by
  obtain ⟨n, cs, ps, h⟩ := h
  obtain ⟨xs, n, rfl, hx, _, h2, h3⟩ := DataW.trod_struct ht h
  injection hx with hx _
  subst hx
  refine ⟨_, rfl, by simp [h2], fun i f y hf hy => ?_⟩
  rw [List.getElem?_map] at hy
  obtain ⟨z, hz, rfl⟩ := Option.map_eq_some_iff.1 hy
  have := h3 i f hf
  rw [hz] at this
  exact ⟨n, _, z.2, this⟩


def scalarB (P : Program) (t : TypeId) : Bool :=
  (match P.underlying t with
    | some .bool | some (.int _) | some .string | some (.slice _) => true
    | _ => false) && P.cellsOf t == 1
theorem arg_V {t : TypeId} {v : Value} {d : DataW H} {ps : List MemPlace} {n base : Nat} (hp : plainL P n t = true) (hs : scalarB P t = true) (hok : Value.okWide P W .any base t v) (h : DataW.Trod enc P W 0 (fun _ => true) true t v d ps) : V (K0 W) W (hvOf d) v := by
  obtain ⟨m, hm⟩ := h
  simp only [scalarB, Bool.and_eq_true, beq_iff_eq] at hs
  obtain ⟨hk, hc⟩ := hs
  rcases trod_V n m t _ _ hp hm with ⟨⟨h1, h2, h3⟩, h4, _⟩ | ⟨h1, _⟩
  · simp only at h1 h3 h4
    have hcells : v.cells = #[v] := by
      cases v <;> first | rfl | skip
      exfalso
      unfold Value.okWide at hok
      split at hk <;> first | (cases hk; done) | (rename_i hu; simp only [hu, Cell.okWide, Cell.ok] at hok)
    rw [hcells] at h1 h3
    -- one cell
    have hy : ∃ y, (hvOf d).cells = [y] := by
      match hh : (hvOf d).cells, h4 with
      | [y], _ => exact ⟨y, rfl⟩
      | [], h => rw [hc] at h; simp at h
      | _ :: _ :: _, h => rw [hc] at h; simp at h
    obtain ⟨y, hy⟩ := hy
    have hV := h3 0 y v (by rw [hy]; rfl) rfl
    have : hvOf d = y := by
      cases hd : hvOf d <;> rw [hd] at hy <;> simp only [HV.cells] at hy <;> first
        | (injection hy with hy _)
        | skip
      -- an aggregate
      exfalso
      rename_i cs
      split at hk
      · rename_i hu; obtain ⟨_, _, hx⟩ := DataW.trod_bool hu hm; injection hx with hx _; subst hx; simp [hvOf] at hd
      · rename_i hu; obtain ⟨_, _, hx, _⟩ := DataW.trod_int hu hm; injection hx with hx _; subst hx; simp [hvOf] at hd
      · rename_i hu; obtain ⟨_, _, hx, _⟩ := DataW.trod_string hu hm; injection hx with hx _; subst hx; simp [hvOf] at hd
      · rename_i hu; rcases DataW.trod_slice hu hm with ⟨_, hx⟩ | ⟨_, _, _, _, _, _, _, _, hx, _⟩ <;> (injection hx with hx _; subst hx; simp [hvOf] at hd)
      · cases hk
    rw [this]
    exact hV
  · exact absurd hc h1


theorem kept_of {W' : World} {K' : GK} (s : Step (K0 W) W K' W') : ∀ b, b < W.heap.size → W'.heap[b]? = W.heap[b]? := fun b hb =>
  (s.frame b hb (by rintro (⟨i, h⟩ | ⟨i, h⟩) <;> simp [K0] at h)).1
theorem keptBut_of {W' : World} {K' : GK} (s : Step (K0 W) W K' W') (may : MemPlace → Prop) : W.keptBut W' may := by
  refine ⟨s.os, s.output, fun i hi => ?_⟩
  rw [kept_of s i hi]
  cases hw : W.heap[i]? with
  | none => trivial
  | some o => cases o <;> first | rfl | exact ⟨rfl, rfl, rfl, fun _ _ => rfl⟩ | exact .inr ⟨rfl, rfl⟩
theorem args_stay {W' : World} {K' : GK} (s : Step (K0 W) W K' W') (hl : laidOutB P = true) : ∀ {ts : List TypeId} {vs : List Value} {ds : List (DataW H)} {ps : List MemPlace}, (∀ t ∈ ts, P.readableRec t = true ∧ t < P.types.size) → DataW.TrodAll enc P W 0 (fun _ => true) true ts vs ds ps → (∀ p ∈ ps, p.block < W.heap.size) → ∀ sp : Nat → Bool, (∀ p ∈ ps, sp p.block = true) → DataW.TrodAll enc P W' 0 sp true ts vs ds ps
  | [], [], [], _, _, h, _, _, _ => h
  | t :: ts, v :: vs, d :: ds, _, ht, ⟨p, q, h1, h2, rfl⟩, hlt, sp, hsp => by
    have hsame : ∀ x ∈ p, W.sameAt W' x := by
      intro x hx
      have hb := kept_of s x.block (hlt x (by simp [hx]))
      cases x with
      | cell b off => exact World.cell?_of_block hb
      | map b => exact hb
    exact ⟨p, q, WideElems.Trod_stays hl (ht t (by simp)).1 (ht t (by simp)).2 h1 hsame (fun x hx => hsp x (by simp [hx])), args_stay s hl (fun t ht' => ht t (by simp [ht'])) h2 (fun x hx => hlt x (by simp [hx])) sp (fun x hx => hsp x (by simp [hx])), rfl⟩
  | [], [], _ :: _, _, _, h, _, _, _ => h.elim
  | [], _ :: _, _, _, _, h, _, _, _ => h.elim
  | _ :: _, [], _, _, _, h, _, _, _ => h.elim
  | _ :: _, _ :: _, [], _, _, h, _, _, _ => h.elim
theorem post_same {f : Func} {s : ChangeSpec} {apart fresh handsOn again : Bool} {W' : World} {args : Array Value} {v : Value} {ds gs : List (DataW H)} {before pa pv : List MemPlace}
    (hW : DataW.Whole enc P f.params.toList s.vars apart W args.toList ds gs before)
    (hres : ∀ (b : Nat) (sp : Nat → Bool) (hd : Bool), DataW.TrodAll enc P W' b sp hd f.resultTypes.toList (v.resultList f.resultTypes.size) (s.fn H (ds ++ gs)).results [])
    (hargs : ∀ sp : Nat → Bool, (∀ p ∈ before, sp p.block = true) → DataW.TrodAll enc P W' 0 sp true f.params.toList args.toList (s.fn H (ds ++ gs)).args pa)
    (hvars : ∀ sp : Nat → Bool, (∀ p ∈ before, sp p.block = true) → DataW.TrodVars enc P W' sp s.vars (s.fn H (ds ++ gs)).vars pv)
    (hps : before = pa ++ pv) (hk : W.keptBut W' (· ∈ before)) (hfz : ∀ a : Addr, a.block < W.heap.size → W'.frozen? a = W.frozen? a)
    (hok : ∀ (j : Nat) (t : TypeId) (r : Value), f.resultTypes[j]? = some t → (v.resultList f.resultTypes.size)[j]? = some r → Value.okWide P W' .any 0 t r) :
    s.post enc P f apart fresh handsOn again W args v W' := by
  have hlt : ∀ p ∈ before, p.block < W.heap.size := fun p hp => hW.lt p hp
  have hold : ∀ p ∈ before, (fun b => decide (b < W.heap.size)) p.block = true := fun p hp => by simpa using hlt p hp
  refine ⟨ds, gs, before, [], pa, pv, hW, hres _ _ _, hargs _ hold, hvars _ hold, World.keptBut_mono (fun p hp => ⟨hp, ?_⟩) hk, fun _ => ?_⟩
  · rw [hps, List.mem_append] at hp
    exact Or.inr hp
  · obtain ⟨_, _, _, _, _, hz, hn⟩ := hW
    refine ⟨hok, _, _, ([] ++ pa) ++ pv, ⟨[] ++ pa, pv, ChangeShapes.trodAll_append (hargs _ (fun _ _ => rfl)) (hres _ _ _), hvars _ (fun _ _ => rfl), rfl, ?_, ?_⟩, ?_⟩
    · intro b off hp
      have hb : MemPlace.cell b off ∈ before := by rw [hps]; simpa using hp
      rw [hfz _ (hlt _ hb)]
      exact hz b off hb
    · intro ha
      have := hn ha
      rw [hps] at this
      simpa using this
    · intro p hp _
      rw [hps]
      simpa using hp

theorem law_contract {f : FuncId} {fn : Func} {s : ChangeSpec} {apart fresh handsOn again : Bool} {tb : TypeId} {base n : Nat} {args : Array Value} {ds gs : List (DataW H)} {before : List MemPlace} (hl : laidOutB P = true) (hvars : s.vars = [])
    (hres : fn.resultTypes = #[tb]) (htb : P.underlying tb = some .bool) (hpl : fn.params.toList.all (fun t => plainL P n t && scalarB P t && P.readableRec t && decide (t < P.types.size)) = true)
    (hspec : (s.fn H ds).results = [.lit (.bool true)] ∧ (s.fn H ds).args = ds ∧ (s.fn H ds).vars = [])
    (hval : ∀ (j : Nat) t v, fn.params[j]? = some t → args[j]? = some v → Value.okWide P W .any base t v)
    (hW : DataW.Whole enc P fn.params.toList s.vars apart W args.toList ds gs before)
    (hcall : HCalls P f (ds.map hvOf) [] fun x _ => x = .bool true) (hT : TabOk (K0 W) W := by exact ⟨fun p hp => absurd hp List.not_mem_nil, fun p hp => absurd hp List.not_mem_nil⟩) :
    Calls P f args W fun e W' => ∃ v, e = .returned v ∧ s.post enc P fn apart fresh handsOn again W args v W' := by
  have hlt : ∀ p ∈ before, p.block < W.heap.size := fun p hp => hW.lt p hp
  have hW' := hW
  obtain ⟨p, q, hA, hV, hpq, hfz, hnd⟩ := hW
  rw [hvars] at hV
  obtain ⟨rfl, rfl⟩ := ChangeShapes.trodVars_none hV
  simp only [List.append_nil] at hpq
  subst hpq
  -- the values
  have hall : ∀ {ts : List TypeId} {vs : List Value} {ds : List (DataW H)} {ps : List MemPlace}, ts.all (fun t => plainL P n t && scalarB P t && P.readableRec t && decide (t < P.types.size)) = true → (∀ (j : Nat) t v, ts[j]? = some t → vs[j]? = some v → Value.okWide P W .any base t v) → DataW.TrodAll enc P W 0 (fun _ => true) true ts vs ds ps →
      ds.length = vs.length ∧ ∀ (j : Nat) (x : HV) (v : Value), (ds.map hvOf)[j]? = some x → vs[j]? = some v → V (K0 W) W x v := by
    intro ts
    induction ts with
    | nil =>
      intro vs ds ps _ _ h
      cases vs <;> cases ds <;> first | exact h.elim | skip
      exact ⟨rfl, fun j x v hx => by simp at hx⟩
    | cons t ts ih =>
      intro vs ds ps hp hv h
      cases vs with
      | nil => cases ds <;> exact h.elim
      | cons v vs =>
        cases ds with
        | nil => exact h.elim
        | cons d ds =>
          obtain ⟨p, q, h1, h2, _⟩ := h
          simp only [List.all_cons, Bool.and_eq_true] at hp
          obtain ⟨g1, g2⟩ := ih hp.2 (fun j t v ht hvv => hv (j + 1) t v (by simpa using ht) (by simpa using hvv)) h2
          refine ⟨by simp [g1], fun j x u hx hu => ?_⟩
          cases j with
          | zero =>
            simp at hx hu
            subst hx; subst hu
            exact arg_V hp.1.1.1.1 hp.1.1.1.2 (hv 0 t v rfl rfl) h1
          | succ j => exact g2 j x u (by simpa using hx) (by simpa using hu)
  obtain ⟨g1, g2⟩ := hall hpl (fun j t v ht hv => hval j t v (by simpa using ht) (by simpa using hv)) hA
  have := hcall.2 (K0 W) W args.toList (heap0 W hT) (by simpa using g1) g2
  simp only [Array.toArray_toList] at this
  refine this.mono ?_
  rintro e W' ⟨v, x, K', h', rfl, s', hh', hVx, rfl⟩
  cases hVx
  refine ⟨_, rfl, post_same (pa := before) (pv := []) hW' (fun b sp hd => ?_) (fun sp hsp => ?_) (fun sp _ => ?_) (by simp) (keptBut_of s' _) (fun a ha => ?_) (RowKit.ok_one hres rfl (RowKit.okWide_bool_mk htb _))⟩
  · rw [List.append_nil, hspec.1, hres]
    exact ChangeShapes.trodAll_mk1 (RowKit.shut_bool htb _)
  · rw [List.append_nil, hspec.2.1]
    refine args_stay s' hl (fun t ht => ?_) hA hlt sp hsp
    have := List.all_eq_true.1 hpl t ht
    simp only [Bool.and_eq_true, decide_eq_true_eq] at this
    exact ⟨this.1.2, this.2⟩
  · rw [List.append_nil, hspec.2.2, hvars]
    rfl
  · unfold World.frozen?
    rw [kept_of s' a.block ha]
end
end Go.Hw

set_option linter.unusedVariables false
set_option linter.unusedSimpArgs false
namespace Go.Hw
open Go

def Leaf {A : Type} (f : A → HV) : Prop := ∀ a, ∀ x ∈ (f a).cells, x.leaf = true
theorem lfn : ∀ x ∈ ([] : List HV), x.leaf = true := fun x hx => by simp at hx
theorem lfc {y : HV} {ys : List HV} (h1 : y.leaf = true) (h2 : ∀ x ∈ ys, x.leaf = true) : ∀ x ∈ y :: ys, x.leaf = true := fun x hx => by
  rcases List.mem_cons.1 hx with rfl | h
  · exact h1
  · exact h2 x h

abbrev GA {A : Type} (f : A → HV) (l : List A) : HObj := .cells (flat (l.map f))


theorem freeze_one {K : GK} {w : World} {h : Heap} {id sz : Nat} {hs : List HV} {v : Value} (hh : HeapRel K h w) (hc : h[id]? = some (.cells (flat hs))) (hw : ∀ x ∈ hs, x.cells.length = sz) (hV : V K w (.arr id 0 hs.length sz) v) :
    ∃ K', Step K w K' w ∧ HeapRel K' (h.set id .dead) w ∧ V K' w (.list hs .none) v := by
  have hd := heap_dead hh hc
  have hfl := flat_length hw
  generalize hn : hs.length = n at hV hfl
  cases hV with
  | arrn =>
    obtain rfl : hs = [] := List.eq_nil_of_length_eq_zero hn
    exact ⟨K, .refl K w, hd, V.nil _ (show TokNil K .none from trivial)⟩
  | arr0 _ _ _ ad =>
    obtain rfl : hs = [] := List.eq_nil_of_length_eq_zero hn
    exact ⟨K, .refl K w, hd, V.list0 _ (show TokNil K .none from trivial) ad⟩
  | arr _ _ _ _ b cap off' hr hcap hoff hroom =>
    obtain ⟨hb1, o0, ho0, hok, hlim⟩ := hh.obj id b hr
    rw [hc] at ho0; injection ho0 with ho0; subst ho0
    have hlim := hlim trivial
    obtain ⟨c, et', fr, hb, hlen, hfr, hvs⟩ := hok
    have hntb : ∀ k, K.tb k ≠ some b := fun k hk => (hh.tok k b hk).2.2.1 id _ hr hc trivial
    have hl : ∀ q, q ≠ b → (K.limAt b (flat hs).length).lim q = K.lim q := fun q hq => by simp [GK.limAt, hq]
    have hlb : (K.limAt b (flat hs).length).lim b = (flat hs).length := by simp [GK.limAt]
    have s : Step K w (K.limAt b (flat hs).length) w := by
      refine ⟨rfl, tk, rfl, Nat.le_refl _, fun q => ?_, fun _ => Nat.le_refl _, fun k _ => ⟨rfl, fun q hq => hl q fun e => hntb k (e ▸ hq)⟩, fun _ _ h => h, fun _ _ _ _ h => h, fun _ _ h => h, fun _ _ h => h, fun q _ ho => ⟨rfl, hl q fun e => ho (e ▸ .inl ⟨id, hr⟩)⟩⟩
      by_cases e : q = b
      · subst e; rw [hlim]; exact Nat.zero_le _
      · rw [hl q e]; exact Nat.le_refl _
    have hfree : ∀ (i : Nat) (x : HObj), K.rho i = some b → (h.set id HObj.dead)[i]? = some x → ¬ x.live := by
      intro i x hi hx lx
      by_cases e : i = id
      · subst e; rw [List.getElem?_set_self (lt_of_get hc)] at hx; injection hx with hx; subst hx; exact lx.elim
      · rw [List.getElem?_set_ne (Ne.symm e)] at hx
        exact e (hh.inj i id b x _ hi hr hx hc lx trivial)
    refine ⟨_, s, ⟨fun i q hi => ?_, hd.inj, hd.wm, fun k q hk => ?_, hd.tinj, ⟨fun q hq => ?_, hd.limb.t.step s⟩⟩, ?_⟩
    · obtain ⟨h1, o, h2, h3, h4⟩ := hd.obj i q hi
      refine ⟨h1, o, h2, ObjOk.keep s rfl h3, fun hlive => ?_⟩
      have : q ≠ b := fun e => hfree i o (e ▸ hi) h2 hlive
      rw [hl q this]; exact h4 hlive
    · obtain ⟨h1, h2, h3, c', e', fr', h4, h5, h6⟩ := hd.tok k q hk
      have : q ≠ b := fun e => hntb k (e ▸ hk)
      exact ⟨h1, h2, h3, c', e', fr', h4, by rw [hl q this]; exact h5, h6⟩
    · have : q ≠ b := by omega
      rw [hl q this]; exact hd.limb q hq
    · subst hn
      refine .list hs .none b off' cap sz (fun j => (c[j]?).getD undef) hw (fun x hx => ?_) (fun j x hx => ?_) (fun j hj => ?_) (fun hp => ?_) hcap trivial
      · obtain ⟨j, hj⟩ := mem_get hx
        exact (hvs j x hj).1
      · obtain ⟨_, v, h7, h8⟩ := hvs j x hx
        rw [h7]
        exact h8.step s
      · have hpos : 0 < hs.length := by
          rcases Nat.eq_zero_or_pos hs.length with e | e
          · rw [hfl, e] at hj; simp at hj
          · exact e
        obtain rfl : off' = 0 := hoff (by omega)
        rw [Nat.zero_add, cell_of_row w b j c et' fr hb, Array.getElem?_eq_getElem (by omega)]
        simp [show j < c.size by omega]
      · have hpos : 0 < hs.length := by
          rcases Nat.eq_zero_or_pos hs.length with e | e
          · rw [hfl, e] at hp; simp at hp
          · exact e
        obtain rfl : off' = 0 := hoff (by omega)
        rw [hlb]; omega

variable {P : Program} {N m : Nat} {S D : CallP} {b : Nat} {r : List Op} {e e' : Env} {h h' : Heap} {Q : Env → Heap → Prop} {QQ : Ex → Env → Heap → Prop} {d : Nat} {x y z : X}

theorem w_freeze {A : Type} {f : A → HV} {l : List A} {id sz n : Nat} (t : Nat) (hf : Enc f sz) (hg : e.get t = some (.arr id 0 n sz)) (hn : l.length = n) (hc : h[id]? = some (GA f l)) (hh : h.set id .dead = h') : WeakF m e h ((t, .list (l.map f) .none) :: e) h' := by
  subst hh; subst hn
  refine WeakF.of fun N ds K w a hr => ?_
  obtain ⟨K', s, hh', hV⟩ := freeze_one hr.heap hc (wid_map hf l) (by have := hr.env t _ hg; rw [List.length_map]; exact this)
  refine ⟨K', s, hh', fun u x hx => ?_, hr.size, hr.defers⟩
  simp only [Env.get] at hx
  split at hx
  · rename_i e1
    injection hx with hx; subst hx
    first
      | (subst e1; exact hV)
      | (rw [← e1]; exact hV)
  · exact (hr.env u x hx).step s

theorem w_nilarr {A : Type} {f : A → HV} {sz n : Nat} (t : Nat) (hg : e.get t = some (.list [] .full)) (hN : h.length = n) (hh : h ++ [GA f ([] : List A)] = h') : WeakF m e h ((t, .arr n 0 0 sz) :: e) h' := by
  subst hh; subst hN
  refine WeakF.of fun N ds K w a hr => ⟨K, .refl K w, heap_app hr.heap _, fun u x hx => ?_, hr.size, hr.defers⟩
  simp only [Env.get] at hx
  split at hx
  · rename_i e1
    injection hx with hx; subst hx
    have h0 := hr.env t _ hg
    have : V K w (.arr h.length 0 0 sz) (a.tmps.getD t undef) := by
      generalize a.tmps.getD t undef = v at h0
      cases h0 with
      | nil => exact .arrn _ _ _
      | list0 _ _ ad => exact .arr0 _ _ _ ad
      | list _ _ b of cap sz' vals hw' hleaf hvv hc hlim hcap htk =>
        have : cap = 0 := htk
        subst this
        exact .arr0 _ _ _ _
    first
      | (subst e1; exact this)
      | (rw [← e1]; exact this)
  · exact hr.env u x hx

theorem HCalls.freeze {f : FuncId} {vs : List HV} {id sz : Nat} {hs : List HV} {R : HV → Heap → Prop} (j : Nat) (hj : vs[j]? = some (.arr id 0 hs.length sz)) (hc : h[id]? = some (.cells (flat hs))) (hw : ∀ x ∈ hs, x.cells.length = sz)
    (hcall : HCalls P f (vs.set j (.list hs .none)) (h.set id .dead) R) : HCalls P f vs h R := by
  refine ⟨hcall.1, fun K w us hh hl hv => ?_⟩
  have hjl := lt_of_get hj
  obtain ⟨v, hvj⟩ := get_of_lt (l := us) (j := j) (by omega)
  obtain ⟨K', s, hh', hV⟩ := freeze_one hh hc hw (hv j _ v hj hvj)
  refine (hcall.2 K' w us hh' (by simpa using hl) fun q x u hq hu => ?_).mono ?_
  · rw [List.getElem?_set] at hq
    split at hq
    · rename_i e1
      subst e1
      rw [hvj] at hu
      injection hu with hu; subst hu
      injection hq with hq; subst hq; exact hV
    · exact (hv q x u hq hu).step s
  · rintro en w' ⟨u, x, K2, h2, h3, s2, h5, h6, h7⟩
    exact ⟨u, x, K2, h2, h3, s.trans s2, h5, h6, h7⟩

theorem src_map {A : Type} {f : A → HV} {sz : Nat} (hf : Enc f sz) (l : List A) (tok : Tok) : srcCells h (.list (l.map f) tok) = flat (l.map f) := by
  have : (l.map f).map HV.strip1 = l.map f := by rw [List.map_map]; exact List.map_congr_left fun a _ => hf.str a
  show flat ((l.map f).map HV.strip1) = _
  rw [this]
theorem g_lenA {id n sz : Nat} (hx : x.ev e = some (.arr id 0 n sz)) (k : HO S b r ((d, .int .i64 n) :: e) h Q) : HO S b (⟨some d, .op (.len false x), none⟩ :: r) e h Q := by
  refine ⟨?_⟩
  simp only [hops, hcall, hstep, hx]
  exact k.out
theorem g_iaA {id n sz : Nat} {i : IntKind} {q : Int} {C : Prop} (hx : x.ev e = some (.arr id 0 n sz)) (hy : y.ev e = some (.int i q)) (hw : (0 ≤ q ∧ q < n) ∧ C) (k : C → HO S b r ((d, .ptr id (q.toNat * sz)) :: e) h Q) : HO S b (⟨some d, .op (.iaddr sz x y), none⟩ :: r) e h Q := by
  have := (k hw.2).out
  refine ⟨?_⟩
  simp only [hops, hcall, hstep, hx, hy]
  refine ⟨⟨hw.1.1, hw.1.2, trivial⟩, ?_⟩
  rw [Nat.zero_add]
  exact this
theorem ga_drop {A : Type} {f : A → HV} {sz i sub : Nat} {l : List A} {a : A} (hf : Enc f sz) (ha : l[i]? = some a) (hs : sub ≤ sz) : ∃ rest, (flat (l.map f)).drop (i * sz + sub) = (f a).cells.drop sub ++ rest := by
  have hlt := lt_of_get ha
  have hget : (l.map f)[i]? = some (f a) := by rw [List.getElem?_map, ha]; rfl
  refine ⟨flat ((l.map f).drop (i + 1)), ?_⟩
  rw [← List.drop_drop, ← flat_drop i (wid_map hf l), List.drop_eq_getElem_cons (l := l.map f) (i := i) (by simpa using hlt), flat_cons]
  have : (l.map f)[i]'(by simpa using hlt) = f a := by
    rw [List.getElem?_eq_getElem (by simpa using hlt)] at hget
    injection hget
  rw [this, List.drop_append_of_le_length (by rw [hf.wid]; exact hs)]
theorem at_none {cs rest : List HV} {v : HV} (h1 : cs.head? = some v) : atCells none (cs ++ rest) = some v := by
  cases cs with
  | nil => cases h1
  | cons c r => exact h1
theorem at_some {n : Nat} {cs rest : List HV} {v : HV} (h1 : atCells (some n) cs = some v) : atCells (some n) (cs ++ rest) = some v := by
  simp only [atCells] at h1 ⊢
  split at h1
  · rename_i hle
    rw [if_pos (by simp; omega), List.take_append_of_le_length hle]; exact h1
  · cases h1
theorem at_any {n : Option Nat} {cs rest : List HV} {v : HV} (h1 : atCells n cs = some v) : atCells n (cs ++ rest) = some v := by
  cases n with
  | none => exact at_none h1
  | some n => exact at_some h1
theorem g_ldA {A : Type} {f : A → HV} {sz id off sub : Nat} {q : Int} {l : List A} {n : Option Nat} {K : A → Prop} {g : A → HV} (hf : Enc f sz) (hx : x.ev e = some (.ptr id off)) (ho : off = q.toNat * sz + sub) (hs : sub ≤ sz) (hc : h[id]? = some (GA f l)) (hg : ∀ a, atCells n ((f a).cells.drop sub) = some (g a))
    (hw : q.toNat < l.length ∧ ∀ a, l[q.toNat]? = some a → K a) (k : ∀ a, K a → HO S b r ((d, g a) :: e) h Q) : HO S b (⟨some d, .op (.load n x), none⟩ :: r) e h Q := by
  obtain ⟨a, ha⟩ := get_of_lt hw.1
  obtain ⟨rest, hd⟩ := ga_drop hf ha hs
  have hcs : Heap.cells h id = some (flat (l.map f)) := by simp [Heap.cells, hc]
  have := (k a (hw.2 a ha)).out
  refine ⟨?_⟩
  simp only [hops, hcall, hstep, hx, hcs, ho, hd, at_any (hg a)]
  exact this
theorem put_flat {A : Type} {f : A → HV} {sz i sub : Nat} {l : List A} {a a' : A} {vs : List HV} (hf : Enc f sz) (ha : l[i]? = some a) (hs : sub + vs.length ≤ sz) (hv : putAt (f a).cells sub vs = (f a').cells) : putAt (flat (l.map f)) (i * sz + sub) vs = flat ((l.set i a').map f) := by
  have hlt := lt_of_get ha
  have hwl := wid_map hf l
  have hfl : (flat (l.map f)).length = l.length * sz := by rw [flat_length hwl, List.length_map]
  have hget : (l.map f)[i]? = some (f a) := by rw [List.getElem?_map, ha]; rfl
  have hcell := fun j (hj : j < sz) => flat_at hwl hget j hj
  have hbig : (i + 1) * sz ≤ l.length * sz := Nat.mul_le_mul_right _ hlt
  rw [Nat.add_mul, Nat.one_mul] at hbig
  have hget' : ((l.set i a').map f)[i]? = some (f a') := by rw [List.getElem?_map, List.getElem?_set_self hlt]; rfl
  have hwl' := wid_map hf (l.set i a')
  have hcell' := fun j (hj : j < sz) => flat_at hwl' hget' j hj
  have hfl' : (flat ((l.set i a').map f)).length = l.length * sz := by rw [flat_length hwl', List.length_map, List.length_set]
  apply List.ext_getElem?
  intro q
  rw [show putAt (flat (l.map f)) (i * sz + sub) vs = (flat (l.map f)).take (i * sz + sub) ++ vs ++ (flat (l.map f)).drop (i * sz + sub + vs.length) from rfl, seg_get _ _ _ _ (by omega)]
  by_cases hq : q < l.length * sz
  · by_cases h1 : q / sz = i
    · -- within the element
      have hsz : 0 < sz := by
        rcases Nat.eq_zero_or_pos sz with e | e
        · subst e; simp at hq
        · exact e
      have hqm := Nat.div_add_mod q sz
      have hml := Nat.mod_lt q hsz
      obtain ⟨j, hj, rfl⟩ : ∃ j, j < sz ∧ q = i * sz + j := ⟨q % sz, hml, by rw [← h1, Nat.mul_comm]; omega⟩
      rw [hcell' j hj, ← hv, show putAt (f a).cells sub vs = (f a).cells.take sub ++ vs ++ (f a).cells.drop (sub + vs.length) from rfl, seg_get _ _ _ _ (by rw [hf.wid]; exact hs), ← hcell j hj]
      by_cases h2 : j < sub
      · rw [if_pos (by omega), if_pos h2]
      · rw [if_neg (by omega), if_neg h2]
        by_cases h3 : j < sub + vs.length
        · rw [if_pos (by omega), if_pos h3, show i * sz + j - (i * sz + sub) = j - sub by omega]
        · rw [if_neg (by omega), if_neg h3]
    · -- another element
      have hsz : 0 < sz := by
        rcases Nat.eq_zero_or_pos sz with e | e
        · subst e; simp at hq
        · exact e
      have hml := Nat.mod_lt q hsz
      have hqm := Nat.div_add_mod q sz
      have hql : q / sz < l.length := Nat.div_lt_of_lt_mul (by rw [Nat.mul_comm]; exact hq)
      obtain ⟨p, hp⟩ := get_of_lt (l := l) hql
      have g1 : (l.map f)[q / sz]? = some (f p) := by rw [List.getElem?_map, hp]; rfl
      have g2 : ((l.set i a').map f)[q / sz]? = some (f p) := by rw [List.getElem?_map, List.getElem?_set_ne (Ne.symm h1), hp]; rfl
      have e1 := flat_at hwl g1 (q % sz) hml
      have e2 := flat_at hwl' g2 (q % sz) hml
      have hqe : q / sz * sz + q % sz = q := by rw [Nat.mul_comm]; exact hqm
      rw [hqe] at e1 e2
      rw [e2, ← e1]
      rcases Nat.lt_or_gt_of_ne h1 with h2 | h2
      · have h5 : (q / sz + 1) * sz ≤ i * sz := Nat.mul_le_mul_right _ h2
        rw [Nat.add_mul, Nat.one_mul] at h5
        rw [if_pos (by omega)]
      · have h5 : (i + 1) * sz ≤ q / sz * sz := Nat.mul_le_mul_right _ h2
        rw [Nat.add_mul, Nat.one_mul] at h5
        rw [if_neg (by omega), if_neg (by omega)]
  · rw [List.getElem?_eq_none (l := flat ((l.set i a').map f)) (by omega), if_neg (by omega), if_neg (by omega), List.getElem?_eq_none (by omega)]
theorem g_stA {A : Type} {f : A → HV} {sz id off sub n : Nat} {q : Int} {l : List A} {v : HV} {K : List A → Prop} {u : A → A} (hf : Enc f sz) (hx : x.ev e = some (.ptr id off)) (hy : y.ev e = some v) (ho : off = q.toNat * sz + sub) (hc : h[id]? = some (GA f l)) (hn : v.cells.length = n) (hs : sub + n ≤ sz) (ht : isTuple v = false)
    (hv : ∀ a, putAt (f a).cells sub v.cells = (f (u a)).cells)
    (hw : q.toNat < l.length ∧ ∀ a, l[q.toNat]? = some a → ∀ t, t = l.set q.toNat (u a) → K t) (h2 : List A → Heap) (hh : ∀ t, h.set id (GA f t) = h2 t) (k : ∀ t, K t → HO S b r e (h2 t) Q) : HO S b (⟨none, .op (.store n x y), none⟩ :: r) e h Q := by
  obtain ⟨a, ha⟩ := get_of_lt hw.1
  have hcs : Heap.cells h id = some (flat (l.map f)) := by simp [Heap.cells, hc]
  have hk := (k _ (hw.2 a ha _ rfl)).out
  rw [← hh] at hk
  have hfl : (flat (l.map f)).length = l.length * sz := by rw [flat_length (wid_map hf l), List.length_map]
  have hbig : (q.toNat + 1) * sz ≤ l.length * sz := Nat.mul_le_mul_right _ hw.1
  rw [Nat.add_mul, Nat.one_mul] at hbig
  subst hn
  refine ⟨?_⟩
  simp only [hops, hcall, hstep, hx, hy, hcs, ho]
  refine ⟨⟨trivial, by omega, ht⟩, ?_⟩
  rw [put_flat hf ha hs (hv a)]
  exact hk
theorem ro_arr {A : Type} {f : A → HV} {sz : Nat} (hf : Enc f sz) (hl : Leaf f) {σ0 σ : List Nat} {j : Nat} {l : List A} (h1 : h[j]? = some (GA f l)) (h2 : RenH σ0 h σ h') : RenH σ0 h (j :: σ) (GA f l :: h') := by
  refine ⟨⟨_, h1, ⟨rfl, fun i x y g1 g2 => ?_⟩, by simp⟩, h2⟩
  rw [g1] at g2
  injection g2 with g2
  subst g2
  have hm := List.mem_of_getElem? g1
  refine ⟨.pv _ (pv_flat hf l x hm), ?_⟩
  simp only [flat, List.mem_flatMap, List.mem_map] at hm
  obtain ⟨y, ⟨a, _, rfl⟩, hy⟩ := hm
  exact hl a x hy
theorem ou_arr {A : Type} {f : A → HV} {sz : Nat} (hf : Enc f sz) (hl : Leaf f) {σ0 σ : List Nat} {H2 h1 : Heap} {j : Nat} {l : List A} (hj : H2[j]? = some (GA f l)) (h : ROut σ0 H2 σ h1) : ROut σ0 H2 (j :: σ) (GA f l :: h1) := by
  have : RenH σ0 H2 [j] [GA f l] := ro_arr hf hl hj ro_nil
  obtain ⟨⟨o, g1, g2, _⟩, _⟩ := this
  exact ⟨⟨o, g1, g2, fun h => by cases h⟩, h⟩
theorem rn_arr {σ : List Nat} {i j n sz : Nat} (h : σ[i]? = some j) : Ren σ (.arr i 0 n sz) (.arr j 0 n sz) := .arr i j 0 n sz h
end Go.Hw

set_option linter.unusedVariables false
set_option linter.unusedSimpArgs false
namespace Go.Hw
open Go
variable {P : Program} {N m : Nat} {S D : CallP} {b : Nat} {r : List Op} {e e' : Env} {h h' : Heap} {Q : Env → Heap → Prop} {QQ : Ex → Env → Heap → Prop} {d : Nat} {x y z : X}

structure ASrc {A : Type} (f : A → HV) (sz : Nat) (h : Heap) (v : HV) (l : List A) : Prop where
  ok : srcOk sz h v
  len : srcLen v = l.length
  cells : srcCells h v = flat (l.map f)
theorem asrc_list {A : Type} {f : A → HV} {sz : Nat} (hf : Enc f sz) {l : List A} {tok : Tok} : ASrc f sz h (.list (l.map f) tok) l :=
  ⟨fun v hv => by obtain ⟨a, _, rfl⟩ := List.mem_map.1 hv; exact ⟨hf.wid a, hf.tup a⟩, by simp [srcLen], src_map hf l tok⟩
theorem g_apB0 {A : Type} {f : A → HV} {sz by_ n : Nat} {l : List A} {v : HV} {K : List A → Prop} (hx : x.ev e = some (.list [] .full)) (hy : y.ev e = some v) (hs : ASrc f sz h v l) (hN : h.length = n) (hw : l.length * by_ ≤ 140737488355328 ∧ ∀ t, t = l → K t)
    (k : ∀ t, K t → HO S b r ((d, .arr n 0 t.length sz) :: e) (h ++ [GA f t]) Q) : HO S b (⟨some d, .op (.appendarr sz by_ x y), none⟩ :: r) e h Q := by
  subst hN
  have hk := k l (hw.2 l rfl)
  refine ⟨?_⟩
  simp only [hops, hcall, hstep, hx, hy, hs.cells, hs.len]
  exact ⟨hs.ok, hw.1, hk.out⟩
theorem g_apB {A : Type} {f : A → HV} {sz by_ n id q : Nat} {l0 l : List A} {v : HV} {K : List A → Prop} (hf : Enc f sz) (hx : x.ev e = some (.arr id 0 q sz)) (hc : h[id]? = some (GA f l0)) (hy : y.ev e = some v) (hs : ASrc f sz h v l) (hN : h.length = n)
    (hw : q ≤ l0.length ∧ (q + l.length) * by_ ≤ 140737488355328 ∧ ∀ t, t = l0.take q ++ l → K t)
    (h2 : List A → Heap) (hh : ∀ t, h.set id .dead ++ [GA f t] = h2 t) (k : ∀ t, K t → HO S b r ((d, .arr n 0 t.length sz) :: e) (h2 t) Q) : HO S b (⟨some d, .op (.appendarr sz by_ x y), none⟩ :: r) e h Q := by
  subst hN
  have hk := (k _ (hw.2.2 _ rfl)).out
  rw [← hh] at hk
  have hfl := flat_length (wid_map hf l0)
  simp only [List.length_map] at hfl
  have hcs : Heap.cells h id = some (flat (l0.map f)) := by simp [Heap.cells, hc]
  have hle : q * sz ≤ l0.length * sz := Nat.mul_le_mul_right _ hw.1
  refine ⟨?_⟩
  simp only [hops, hcall, hstep, hx, hy, hs.cells, hs.len, hcs]
  refine ⟨hs.ok, ⟨trivial, by omega, hw.2.1⟩, ?_⟩
  have e1 : (flat (l0.map f)).take (q * sz) ++ flat (l.map f) = flat ((l0.take q ++ l).map f) := by
    rw [List.map_append, flat_append, List.map_take, flat_take _ (wid_map hf l0)]
  rw [e1]
  rw [List.length_append, List.length_take, Nat.min_eq_left hw.1] at hk
  exact hk
end Go.Hw

set_option linter.unusedVariables false
set_option linter.unusedSimpArgs false
namespace Go.Hw
open Go
class EncC {A : Type} (f : A → HV) (sz : outParam Nat) : Prop where
  out : Enc f sz
instance (k : IntKind) : EncC (eInt k) 1 := ⟨enc_int k⟩
instance : EncC eBool 1 := ⟨enc_bool⟩
instance : EncC eStr 1 := ⟨enc_str⟩
instance : EncC eB 1 := ⟨enc_bytes⟩
instance : EncC (fun c : UInt8 => HV.int .u8 c.toNat) 1 := ⟨enc_byte⟩
instance {A : Type} {f : A → HV} {sz : Nat} [e : EncC f sz] : EncC (eLst f) 1 := ⟨enc_lst e.out⟩
class PVi (x : HV) : Prop where
  out : PV x
class PVl (l : List HV) : Prop where
  out : ∀ x ∈ l, PV x
instance : PVl [] := ⟨pvn⟩
instance {x : HV} {l : List HV} [a : PVi x] [b : PVl l] : PVl (x :: l) := ⟨pvc a.out b.out⟩
instance (k : IntKind) (n : Int) : PVi (.int k n) := ⟨.int k n⟩
instance (b : Bool) : PVi (.bool b) := ⟨.bool b⟩
instance (s : List UInt8) : PVi (.str s) := ⟨.str s⟩
instance {A : Type} {f : A → HV} {sz : Nat} {l : List A} [e : EncC f sz] : PVi (.list (List.map f l) .none) := ⟨pv_lst e.out l .none (by simp)⟩
instance {A : Type} {f : A → HV} {sz : Nat} {l : List A} [e : EncC f sz] : PVi (.list (List.map f l) .full) := ⟨pv_lst e.out l .full (by simp)⟩
instance {l : List UInt8} : PVi (.list (bytesOf l) .none) := ⟨pv_lst enc_byte l .none (by simp)⟩
instance {l : List UInt8} : PVi (.list (bytesOf l) .full) := ⟨pv_lst enc_byte l .full (by simp)⟩
instance : PVi (.list [] .full) := ⟨pv_nil⟩
instance : PVi .nilslice := ⟨.nilslice⟩
instance : PVi .nilptr := ⟨.nilptr⟩
instance : PVi .nilmap := ⟨.nilmap⟩
instance : PVi .nilfunc := ⟨.nilfunc⟩
instance : PVi .nilif := ⟨.nilif⟩
instance {cs : List HV} [a : PVl cs] : PVi (.agg cs) := ⟨.agg cs a.out⟩
instance {cs : List HV} [a : PVl cs] : PVi (.tuple cs) := ⟨.tuple cs a.out⟩
instance {cs : List HV} [a : PVl cs] : PVi (.rptr cs) := ⟨.rptr cs a.out⟩
instance {f : FuncId} {cs : List HV} [a : PVl cs] : PVi (.func f cs) := ⟨.func f cs a.out⟩
theorem rnI {σ : List Nat} {x : HV} [a : PVi x] : Ren σ x x := .pv x a.out
theorem en {e : Env} : evs e [] = some [] := rfl
theorem ec {e : Env} {x : X} {xs : List X} {v : HV} {vs : List HV} (h1 : x.ev e = some v) (h2 : evs e xs = some vs) : evs e (x :: xs) = some (v :: vs) := ev_cons h1 h2
theorem mz {a : HV} {l : List HV} {sz : Nat} (h2 : ∀ v ∈ l, v.cells.length = sz ∧ isTuple v = false) (h1 : a.cells.length = sz ∧ isTuple a = false := by exact ⟨rfl, rfl⟩) : ∀ v ∈ a :: l, v.cells.length = sz ∧ isTuple v = false := mkc h1 h2
theorem lb {a b : Nat} (h : Nat.ble a b = true) : a ≤ b := Nat.le_of_ble_eq_true h

variable {P : Program} {N m : Nat} {S D : CallP} {b : Nat} {r : List Op} {e e' : Env} {h h' : Heap} {Q : Env → Heap → Prop} {QQ : Ex → Env → Heap → Prop} {d : Nat} {x y z : X}
theorem ws (h1 : Env.sub e' e := by repeat (first | exact sub_nil | refine sub_cons rfl (.inl rfl) ?_ | refine sub_cons rfl (.inr rfl) ?_)) : WeakF m e h e' h := WeakF.of (Weak.sub h1)
theorem wr (σ : List Nat) (hh : RenH σ h σ h' := by repeat (first | exact ro_nil | refine ro_tok rfl ?_ | refine ro_cells rfl ?_ ?_ | exact rl_nil | refine rl_cons (by first | exact rnI | exact .ptr _ _ _ rfl | exact .own _ _ _ _ _ rfl (pv_flat EncC.out _) | exact .map _ _ rfl | exact rn_arr rfl) rfl ?_))
    (he : RenE σ e e' := by repeat (first | exact re_nil | refine re_cons rfl (by first | exact rnI | exact .ptr _ _ _ rfl | exact .own _ _ _ _ _ rfl (pv_flat EncC.out _) | exact .map _ _ rfl | exact rn_arr rfl) ?_ | refine re_cons1 rfl rnI ?_))
    (hid : ∀ i, i < m → σ[i]? = some i := by simp) (hnd : σ.Nodup := by decide) : WeakF m e h e' h' := weak_ren σ hid hnd hh he
theorem wrm (m0 : Nat) (σ : List Nat) (hh : RenH σ h σ h' := by repeat (first | exact ro_nil | refine ro_tok rfl ?_ | refine ro_cells rfl ?_ ?_ | exact rl_nil | refine rl_cons (by first | exact rnI | exact .ptr _ _ _ rfl | exact .own _ _ _ _ _ rfl (pv_flat EncC.out _) | exact .map _ _ rfl | exact rn_arr rfl) rfl ?_))
    (he : RenE σ e e' := by repeat (first | exact re_nil | refine re_cons rfl (by first | exact rnI | exact .ptr _ _ _ rfl | exact .own _ _ _ _ _ rfl (pv_flat EncC.out _) | exact .map _ _ rfl | exact rn_arr rfl) ?_ | refine re_cons1 rfl rnI ?_))
    (hm : m = m0 := by rfl) (hid : ∀ i, i < m0 → σ[i]? = some i := by decide) (hnd : σ.Nodup := by decide) : WeakF m e h e' h' := weak_renm m0 hm σ hid hnd hh he
theorem gr {A : Type} {a r0 : A} {g : A → HV} {ho : A → Heap} {rs : List RS} {ex : Ex} (vs ws : List HV) (ha : a = r0) (hq : ex = .normal ∨ ex = .ret) (hk : WeakF m (argEnv vs) h (argEnv ws) (ho a)) (hv : resVals2 e h rs = some vs := by rfl) (hl : ws.length = vs.length := by rfl) (hf : retV ws = g a := by rfl) : RetS2 rs m (fun x h' => x = g r0 ∧ h' = ho r0) ex e h :=
  g_hret3 ha hq hv _ _ rfl rfl hl hk hf
theorem gr1 {A : Type} {a r0 : A} {g : A → HV} {ho : A → Heap} {rs : List RS} {ex : Ex} (vs : List HV) (ha : a = r0) (hq : ex = .normal ∨ ex = .ret) (hk : WeakF m (argEnv vs) h (argEnv vs) (ho a)) (hv : resVals2 e h rs = some vs := by rfl) (hf : retV vs = g a := by rfl) : RetS2 rs m (fun x h' => x = g r0 ∧ h' = ho r0) ex e h :=
  g_hret3 ha hq hv _ _ rfl rfl rfl hk hf
theorem g_sp {n id off : Nat} {cs : List HV} {v : HV} (hx : x.ev e = some (.ptr id off)) (hy : y.ev e = some v) (hc : h[id]? = some (.cells cs)) (k : HO S b r e h' Q) (h1 : v.cells.length = n ∧ off + n ≤ cs.length ∧ isTuple v = false := by exact ⟨rfl, lb rfl, rfl⟩) (hh : h.set id (.cells (putAt cs off v.cells)) = h' := by rfl) : HO S b (⟨none, .op (.store n x y), none⟩ :: r) e h Q :=
  g_store_p hx hy hc h1 hh k
section
variable {f : FuncId} {xs : List X} {vs as caps : List HV} {A : Type} {h0 : Heap} {g g2 : A → HV} {ho H2 : A → Heap} {K : A → Prop}
theorem kh (hS : SubH P S f) (σ τ : List Nat) (n k : Nat) (hx : evs e xs = some vs) (hw : ∃ a, MC P f as h0 (g a) (ho a) ∧ K a) (kk : ∀ a, K a → HO S b r ((d, g2 a) :: e) (H2 a) Q)
    (hN : h.length = n := by rfl) (hτ : tau σ n k = τ := by rfl) (hnd : σ.Nodup := by decide) (hlt : ∀ j ∈ σ, j < n := by decide)
    (hin : RenH σ h σ h0 := by repeat (first | exact ro_nil | refine ro_tok rfl ?_ | refine ro_cells rfl ?_ ?_ | exact rl_nil | refine rl_cons (by first | exact rnI | exact .ptr _ _ _ rfl | exact .own _ _ _ _ _ rfl (pv_flat EncC.out _) | exact .map _ _ rfl | exact rn_arr rfl) rfl ?_)) (hdead : HObj.dead ∉ h0 := by first | (simp only [List.mem_cons, List.not_mem_nil, GA, GM.obj, reduceCtorEq, or_self, not_false_eq_true]; done) | simp [GM.obj])
    (hargs : RenA σ as (vs.map HV.strip1) := by repeat (first | exact ra_nil | refine ra_cons (by first | exact rnI | exact .ptr _ _ _ rfl | exact .own _ _ _ _ _ rfl (pv_flat EncC.out _) | exact .map _ _ rfl | exact rn_arr rfl) ?_))
    (l1 : ∀ a, (ho a).length = σ.length + k := by intro _; rfl) (l2 : ∀ a, (H2 a).length = n + k := by intro _; rfl) (hres : ∀ a, Ren τ (g a) (g2 a) := by intro _; exact rnI)
    (hoff : ∀ a, SameOff σ 0 h (H2 a) := by intro _; repeat (first | exact so_nil | refine so_same ?_ | refine so_skip (by decide) ?_))
    (hback : ∀ a, ROut τ (H2 a) τ (ho a) := by intro _; repeat (first | exact ou_nil | refine ou_tok rfl ?_ | refine ou_cells rfl ?_ ?_ | exact rl_nil | refine rl_cons (by first | exact rnI | exact .ptr _ _ _ rfl | exact .own _ _ _ _ _ rfl (pv_flat EncC.out _) | exact .map _ _ rfl | exact rn_arr rfl) rfl ?_)) :
    HO S b (⟨some d, .call f xs, none⟩ :: r) e h Q := k_hcall hS σ τ n k hx rfl hw hN hτ hnd hlt hin hdead hargs l1 l2 hres hoff hback kk
theorem khv (hS : SubH P S f) (hf : x.ev e = some (.func f caps)) (σ τ : List Nat) (n k : Nat) (hx : evs e xs = some vs) (hw : ∃ a, MC P f as h0 (g a) (ho a) ∧ K a) (kk : ∀ a, K a → HO S b r ((d, g2 a) :: e) (H2 a) Q)
    (hN : h.length = n := by rfl) (hτ : tau σ n k = τ := by rfl) (hnd : σ.Nodup := by decide) (hlt : ∀ j ∈ σ, j < n := by decide)
    (hin : RenH σ h σ h0 := by repeat (first | exact ro_nil | refine ro_tok rfl ?_ | refine ro_cells rfl ?_ ?_ | exact rl_nil | refine rl_cons (by first | exact rnI | exact .ptr _ _ _ rfl | exact .own _ _ _ _ _ rfl (pv_flat EncC.out _) | exact .map _ _ rfl | exact rn_arr rfl) rfl ?_)) (hdead : HObj.dead ∉ h0 := by first | (simp only [List.mem_cons, List.not_mem_nil, GA, GM.obj, reduceCtorEq, or_self, not_false_eq_true]; done) | simp [GM.obj])
    (hargs : RenA σ as (vs.map HV.strip1 ++ caps) := by repeat (first | exact ra_nil | refine ra_cons (by first | exact rnI | exact .ptr _ _ _ rfl | exact .own _ _ _ _ _ rfl (pv_flat EncC.out _) | exact .map _ _ rfl | exact rn_arr rfl) ?_))
    (l1 : ∀ a, (ho a).length = σ.length + k := by intro _; rfl) (l2 : ∀ a, (H2 a).length = n + k := by intro _; rfl) (hres : ∀ a, Ren τ (g a) (g2 a) := by intro _; exact rnI)
    (hoff : ∀ a, SameOff σ 0 h (H2 a) := by intro _; repeat (first | exact so_nil | refine so_same ?_ | refine so_skip (by decide) ?_))
    (hback : ∀ a, ROut τ (H2 a) τ (ho a) := by intro _; repeat (first | exact ou_nil | refine ou_tok rfl ?_ | refine ou_cells rfl ?_ ?_ | exact rl_nil | refine rl_cons (by first | exact rnI | exact .ptr _ _ _ rfl | exact .own _ _ _ _ _ rfl (pv_flat EncC.out _) | exact .map _ _ rfl | exact rn_arr rfl) rfl ?_)) :
    HO S b (⟨some d, .callv x xs, none⟩ :: r) e h Q := k_hcallv hS hf σ τ n k hx rfl hw hN hτ hnd hlt hin hdead hargs l1 l2 hres hoff hback kk
end
theorem zf {P : Program} {f : FuncId} {fn : Func} {code : Code} {c : C} {ann : Ann} {rs : List RS} {args : List HV} {A : Type} {g : A → HV} {a : A} (hf : P.funcs[f]? = some fn) (hc : comp P ann fn.ntmps code = some c)
    (hw : SC P fn.ntmps 0 c (RetS2 rs 0 fun x h' => x = g a ∧ h' = []) (argEnv args) []) (hb : fn.body = some code := by rfl) (hn : fn.name ≠ "runtime.NumGoroutine" := by decide)
    (hres : resTags P fn.results.toList = some rs := by kernel_rfl) (hargs : args.length ≤ fn.ntmps := by exact lb rfl) [hpv : PVl args] [hpr : PVi (g a)] (hs : (g a).strip1 = g a := by rfl) : PCall P f args (g a) :=
  p_func2 hf hb hn hres hargs hc hpv.out hpr.out hs hw
theorem zh {P : Program} {f : FuncId} {fn : Func} {code : Code} {c : C} {ann : Ann} {rs : List RS} {args : List HV} {h : Heap} {x0 : HV} {h0 : Heap} (hf : P.funcs[f]? = some fn) (hc : comp P ann fn.ntmps code = some c)
    (hw : SC P fn.ntmps h.length c (RetS2 rs h.length fun x h' => x = x0 ∧ h' = h0) (argEnv args) h) (hb : fn.body = some code := by rfl) (hn : fn.name ≠ "runtime.NumGoroutine" := by decide)
    (hres : resTags P fn.results.toList = some rs := by kernel_rfl) (hargs : args.length ≤ fn.ntmps := by exact lb rfl) : MC P f args h x0 h0 :=
  p_hfunc2 hf hb hn hres hargs hc hw

@[reducible] def ii (n : Int) : HV := .int .i64 n
@[reducible] def ln {A : Type} (f : A → HV) (l : List A) : HV := .list (l.map f) .none
instance (n : Nat) : OfNat X n := ⟨.t n⟩
abbrev R64 (n : Int) : Prop := -9223372036854775808 ≤ n ∧ n ≤ 9223372036854775807
@[reducible] def nl {A : Type} (f : A → HV) : HV := .list (List.map f []) .full
instance {A : Type} {f : A → HV} {sz : Nat} [e : EncC f sz] : PVi (nl f) := ⟨pv_lst e.out [] .full (by simp)⟩
@[reducible] def mo (d t : Nat) : Op := oo d (.mv (.t t))
end Go.Hw

