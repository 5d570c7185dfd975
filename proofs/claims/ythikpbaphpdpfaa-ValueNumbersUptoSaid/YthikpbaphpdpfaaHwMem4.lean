/- append. -/
import Derived.Test.YthikpbaphpdpfaaHwMem3
set_option linter.unusedVariables false
set_option linter.unusedSimpArgs false
namespace Go.Hw
open Go

variable {P : Program}

def GK.tokAt (K : GK) (k W : Nat) (tb : Option Nat) : GK := { K with wm := fun i => if i = k then W else K.wm i, tb := fun i => if i = k then tb else K.tb i }

/-- The place k of the heap gets a token W. -/
def TokPlace (h h' : Heap) (k W : Nat) : Prop := (∃ n, h[k]? = some (.tok n) ∧ n < W ∧ h' = h.set k (.tok W)) ∨ (k = h.length ∧ h' = h ++ [.tok W] ∧ 0 < W)
theorem TokPlace.get {h h' : Heap} {k W : Nat} (t : TokPlace h h' k W) : h'[k]? = some (.tok W) := by
  rcases t with ⟨n, h1, h2, rfl⟩ | ⟨rfl, rfl, h2⟩
  · rw [List.getElem?_set_self (lt_of_get h1)]
  · simp
theorem TokPlace.other {h h' : Heap} {k W : Nat} (t : TokPlace h h' k W) {i : Nat} (hi : i ≠ k) : h'[i]? = h[i]? := by
  rcases t with ⟨n, h1, h2, rfl⟩ | ⟨rfl, rfl, h2⟩
  · rw [List.getElem?_set_ne (Ne.symm hi)]
  · rcases Nat.lt_or_ge i h.length with h5 | h5
    · rw [List.getElem?_append_left h5]
    · rw [List.getElem?_eq_none (by simp; omega), List.getElem?_eq_none h5]
theorem TokPlace.was {h h' : Heap} {k W : Nat} (t : TokPlace h h' k W) : h[k]? = none ∨ ∃ n, h[k]? = some (.tok n) := by
  rcases t with ⟨n, h1, h2, rfl⟩ | ⟨rfl, rfl, h2⟩
  · exact .inr ⟨n, h1⟩
  · exact .inl (List.getElem?_eq_none (Nat.le_refl _))
theorem TokPlace.wm {h h' : Heap} {k W : Nat} (t : TokPlace h h' k W) {K : GK} {w : World} (hh : HeapRel K h w) : K.wm k < W := by
  rw [hh.wm k]
  rcases t with ⟨n, h1, h2, rfl⟩ | ⟨rfl, rfl, h2⟩
  · rw [h1]; exact h2
  · simp [h2]
theorem TokPlace.rho {h h' : Heap} {k W : Nat} (t : TokPlace h h' k W) {K : GK} {w : World} (hh : HeapRel K h w) : K.rho k = none := by
  cases hr : K.rho k with
  | none => rfl
  | some b =>
    obtain ⟨_, o, h2, h3, _⟩ := hh.obj k b hr
    rcases t.was with h | ⟨n, h⟩ <;> rw [h] at h2
    · cases h2
    · injection h2 with h2; subst h2; exact h3.elim

/-- A token with no block of its own: the world is as it was. -/
theorem tok_bare {K : GK} {w : World} {h h' : Heap} {k W : Nat} (hh : HeapRel K h w) (t : TokPlace h h' k W) (hnew : k = h.length) : Step K w (K.tokAt k W none) w ∧ HeapRel (K.tokAt k W none) h' w := by
  have htb : K.tb k = none := by
    cases hr : K.tb k with
    | none => rfl
    | some b =>
      obtain ⟨_, ⟨n, hn⟩, _⟩ := hh.tok k b hr
      rw [hnew, List.getElem?_eq_none (Nat.le_refl _)] at hn; cases hn
  have hw := t.wm hh
  have s : Step K w (K.tokAt k W none) w := by
    refine ⟨rfl, rfl, rfl, Nat.le_refl _, fun _ => Nat.le_refl _, fun i => ?_, fun i hi => ⟨?_, fun _ _ => rfl⟩, fun _ _ h => h, fun _ _ _ _ h => h, fun _ _ h => h, fun b hb ho => ?_, fun _ _ _ => ⟨rfl, rfl⟩⟩
    · simp only [GK.tokAt]; split
      · rename_i e; subst e; omega
      · exact Nat.le_refl _
    · simp only [GK.tokAt] at hi ⊢
      split at hi
      · rename_i e; subst e; omega
      · rename_i e; rw [if_neg e]
    · rcases ho with ho | ⟨i, ho⟩
      · exact .inl ho
      · simp only [GK.tokAt] at ho
        split at ho
        · cases ho
        · exact .inr ⟨i, ho⟩
  refine ⟨s, ⟨fun i b hr => ?_, fun i j b x y hi hj hx hy lx ly => ?_, fun i => ?_, fun i b hi => ?_, fun i j b hi hj => ?_, hh.limb⟩⟩
  · obtain ⟨h1, o, h2, h3, h4⟩ := hh.obj i b hr
    have hne : i ≠ k := by intro e; subst e; have hr2 : K.rho i = none := t.rho hh; rw [show K.rho i = some _ from hr] at hr2; cases hr2
    exact ⟨h1, o, by rw [t.other hne]; exact h2, h3.keep s rfl, h4⟩
  · have key : ∀ {i : Nat} {x : HObj}, h'[i]? = some x → x.live → h[i]? = some x := by
      intro i x hx lx
      have : i ≠ k := by intro e; subst e; rw [t.get] at hx; injection hx with hx; subst hx; exact lx.elim
      rw [← t.other this]; exact hx
    exact hh.inj i j b x y hi hj (key hx lx) (key hy ly) lx ly
  · simp only [GK.tokAt]
    by_cases e : i = k
    · subst e; rw [if_pos rfl, t.get]
    · rw [if_neg e, t.other e]; exact hh.wm i
  · simp only [GK.tokAt] at hi
    split at hi
    · cases hi
    · rename_i e
      obtain ⟨h1, ⟨n, h2⟩, h3, h4⟩ := hh.tok i b hi
      refine ⟨h1, ⟨n, by rw [t.other e]; exact h2⟩, fun id o hid ho => ?_, h4⟩
      by_cases e2 : id = k
      · subst e2; rw [t.get] at ho; injection ho with ho; subst ho; exact fun h => h.elim
      · exact h3 id o hid (by rw [← t.other e2]; exact ho)
  · simp only [GK.tokAt] at hi hj
    split at hi
    · cases hi
    · split at hj
      · cases hj
      · exact hh.tinj i j b hi hj

/-- A token with a new block. -/
theorem tok_push' {K : GK} {w w' : World} {h h' : Heap} {k W n : Nat} {c : Array Value} {et : TypeId} {fr : Nat × Nat} (hh : HeapRel K h w) (t : TokPlace h h' k W) (hheap : w'.heap = w.heap.push (.cells c et fr)) (hos : w'.os = w.os) (htape : w'.tape = w.tape) (hout : w'.output = w.output) (hn : n ≤ c.size) (hfr : nofr c fr) :
    Step K w ((K.limAt w.heap.size n).tokAt k W (some w.heap.size)) w' ∧ HeapRel ((K.limAt w.heap.size n).tokAt k W (some w.heap.size)) h' w' := by
  have hw := t.wm hh
  have s : Step K w ((K.limAt w.heap.size n).tokAt k W (some w.heap.size)) w' := step_push hh hheap hos htape hout (fun b hb => by simp [GK.limAt, GK.tokAt, hb]) (fun _ _ h => h) (fun _ _ h => .inl h)
    (fun i => by
      simp only [GK.tokAt, GK.limAt]; split
      · rename_i e; subst e; omega
      · exact Nat.le_refl _)
    (fun i hi => by
      simp only [GK.tokAt, GK.limAt] at hi ⊢
      split at hi
      · rename_i e; subst e; omega
      · rename_i e; rw [if_neg e])
    (fun i b hb => by
      simp only [GK.tokAt, GK.limAt] at hb
      split at hb
      · injection hb with hb; exact .inr hb.symm
      · exact .inl hb)
  have hold : ∀ b, b < w.heap.size → w'.heap[b]? = w.heap[b]? := fun b hb => by rw [hheap, Array.getElem?_push, if_neg (by omega)]
  have hnewb : w'.heap[w.heap.size]? = some (.cells c et fr) := by rw [hheap]; simp
  have hsz : w'.heap.size = w.heap.size + 1 := by rw [hheap]; simp
  have hl : ∀ b, b < w.heap.size → ((K.limAt w.heap.size n).tokAt k W (some w.heap.size)).lim b = K.lim b := fun b hb => by simp [GK.limAt, GK.tokAt, show b ≠ w.heap.size by omega]
  refine ⟨s, ⟨fun i b hr => ?_, fun i j b x y hi hj hx hy lx ly => ?_, fun i => ?_, fun i b hi => ?_, fun i j b hi hj => ?_, fun b hb => ?_⟩⟩
  · obtain ⟨h1, o, h2, h3, h4⟩ := hh.obj i b hr
    have hne : i ≠ k := by intro e; subst e; have hr2 : K.rho i = none := t.rho hh; rw [show K.rho i = some _ from hr] at hr2; cases hr2
    exact ⟨by omega, o, by rw [t.other hne]; exact h2, h3.keep s (hold b h1), fun hlive => by rw [hl b h1]; exact h4 hlive⟩
  · have key : ∀ {i : Nat} {x : HObj}, h'[i]? = some x → x.live → h[i]? = some x := by
      intro i x hx lx
      have : i ≠ k := by intro e; subst e; rw [t.get] at hx; injection hx with hx; subst hx; exact lx.elim
      rw [← t.other this]; exact hx
    exact hh.inj i j b x y hi hj (key hx lx) (key hy ly) lx ly
  · simp only [GK.tokAt, GK.limAt]
    by_cases e : i = k
    · subst e; rw [if_pos rfl, t.get]
    · rw [if_neg e, t.other e]; exact hh.wm i
  · simp only [GK.tokAt, GK.limAt] at hi
    split at hi
    · rename_i e
      injection hi with hi
      subst hi; subst e
      refine ⟨by omega, ⟨W, t.get⟩, fun id o hid ho => ?_, c, et, fr, hnewb, by simp [GK.limAt, GK.tokAt, hn], hfr⟩
      have := (hh.obj id _ hid).1
      omega
    · rename_i e
      obtain ⟨h1, ⟨q, h2⟩, h3, c', e', fr, h4, h5, h6⟩ := hh.tok i b hi
      refine ⟨by omega, ⟨q, by rw [t.other e]; exact h2⟩, fun id o hid ho => ?_, c', e', fr, by rw [hold b h1]; exact h4, by rw [hl b h1]; exact h5, h6⟩
      by_cases e2 : id = k
      · subst e2; rw [t.get] at ho; injection ho with ho; subst ho; exact fun h => h.elim
      · exact h3 id o hid (by rw [← t.other e2]; exact ho)
  · simp only [GK.tokAt, GK.limAt] at hi hj
    split at hi <;> split at hj
    · simp_all
    · injection hi with hi
      have := (hh.tok j b hj).1; omega
    · injection hj with hj
      have := (hh.tok i b hi).1; omega
    · exact hh.tinj i j b hi hj
  · have : b ≠ w.heap.size := by omega
    simp only [GK.limAt, GK.tokAt, if_neg this]
    exact hh.limb b (by omega)

theorem tok_push {K : GK} {w w' : World} {h h' : Heap} {k W n : Nat} {c : Array Value} {et : TypeId} (hh : HeapRel K h w) (t : TokPlace h h' k W) (hheap : w'.heap = w.heap.push (.cells c et)) (hos : w'.os = w.os) (htape : w'.tape = w.tape) (hout : w'.output = w.output) (hn : n ≤ c.size) :
    Step K w ((K.limAt w.heap.size n).tokAt k W (some w.heap.size)) w' ∧ HeapRel ((K.limAt w.heap.size n).tokAt k W (some w.heap.size)) h' w' :=
  tok_push' hh t hheap hos htape hout hn (fun i _ => by omega)

/-- Cells behind what a token's block holds are written. -/
theorem tok_fill {K : GK} {w : World} {h h' : Heap} {k W b : Nat} {us : List Value} {c : Array Value} {et : TypeId} {fr : Nat × Nat} (hh : HeapRel K h w) (t : TokPlace h h' k W) (htb : K.tb k = some b) (hb : w.heap[b]? = some (.cells c et fr)) (hfit : K.lim b + us.length ≤ c.size) (hone : ∀ u ∈ us, u.oneCell' = true) :
    ∃ w', (storeCells ⟨b, K.lim b, none⟩ us).run P w = .ok () w' ∧ Step K w ((K.limAt b (K.lim b + us.length)).tokAt k W (some b)) w' ∧ HeapRel ((K.limAt b (K.lim b + us.length)).tokAt k W (some b)) h' w' ∧
      (∃ c', w'.heap[b]? = some (.cells c' et fr) ∧ c'.size = c.size ∧ (∀ j, j < K.lim b → c'[j]? = c[j]?) ∧ ∀ (j : Nat) (u : Value), us[j]? = some u → c'[K.lim b + j]? = some u) := by
  obtain ⟨hblt, ⟨n0, hn0⟩, hnl, c0, e0, fr0, hb0, hlim0, hfr⟩ := hh.tok k b htb
  rw [hb] at hb0
  injection hb0 with hb0
  injection hb0 with hb0 he0 hf0
  subst hb0; subst he0; subst hf0
  have hrun := run_storeCells_nofr (P := P) b (K.lim b) et fr us 0 c w hb hfr (by omega) hone
  simp only [Nat.add_zero] at hrun
  generalize hcur : (c.toList.take (K.lim b) ++ us ++ c.toList.drop (K.lim b + us.length)).toArray = cur at hrun
  have hcsz : cur.size = c.size := by rw [← hcur]; simp; omega
  have hcget : ∀ j, cur[j]? = if j < K.lim b then c[j]? else if j < K.lim b + us.length then us[j - K.lim b]? else c[j]? := by
    intro j
    rw [← hcur]
    simp only [List.getElem?_toArray]
    rw [seg_get _ _ _ _ (by simp; omega)]
    simp
  have hoth : ∀ q, q ≠ b → (w.setRow b cur).heap[q]? = w.heap[q]? := fun q hq => setRow_other w b q cur hq
  have hsame := setRow_heap w b c cur et fr hb
  have hw := t.wm hh
  have hl : ∀ q, q ≠ b → ((K.limAt b (K.lim b + us.length)).tokAt k W (some b)).lim q = K.lim q := fun q hq => by simp [GK.limAt, GK.tokAt, hq]
  have hlb : ((K.limAt b (K.lim b + us.length)).tokAt k W (some b)).lim b = K.lim b + us.length := by simp [GK.limAt, GK.tokAt]
  have s : Step K w ((K.limAt b (K.lim b + us.length)).tokAt k W (some b)) (w.setRow b cur) := by
    refine ⟨rfl, rfl, rfl, by simp, fun q => ?_, fun i => ?_, fun i hi => ⟨?_, fun q hq => ?_⟩, fun _ _ h => h, fun x i v hi hcell => ?_, fun x n hr => ?_, fun q hq ho => ?_, fun x hx ho => ?_⟩
    · by_cases e : q = b
      · subst e; rw [hlb]; omega
      · rw [hl q e]; exact Nat.le_refl _
    · simp only [GK.tokAt, GK.limAt]; split
      · rename_i e; subst e; omega
      · exact Nat.le_refl _
    · simp only [GK.tokAt, GK.limAt] at hi ⊢
      split at hi
      · rename_i e; subst e; omega
      · rename_i e; rw [if_neg e]
    · have hne : i ≠ k := by
        intro e; subst e
        simp only [GK.tokAt, if_true] at hi
        omega
      refine hl q fun e => ?_
      subst e
      exact hne (hh.tinj i k q hq htb)
    · by_cases hx : x = b
      · subst hx
        rw [cell_of_row _ x i _ _ _ hsame, hcget i, if_pos hi]
        rw [cell_of_row _ x i _ _ _ hb] at hcell; exact hcell
      · rw [cell_setRow_other w b cur _ hx]; exact hcell
    · obtain ⟨c', e', fr', hb', hn⟩ := hr
      by_cases hx : x = b
      · subst hx
        rw [hb] at hb'
        injection hb' with hb'
        injection hb' with hb'
        subst hb'
        exact ⟨cur, et, fr, hsame, by omega⟩
      · exact ⟨c', e', fr', by rw [hoth x hx]; exact hb', hn⟩
    · rcases ho with ho | ⟨i, ho⟩
      · exact .inl ho
      · simp only [GK.tokAt, GK.limAt] at ho
        split at ho
        · injection ho with ho; subst ho; exact .inr ⟨k, htb⟩
        · exact .inr ⟨i, ho⟩
    · have hx' : x ≠ b := by intro e; subst e; exact ho (.inr ⟨k, htb⟩)
      exact ⟨hoth x hx', hl x hx'⟩
  refine ⟨w.setRow b cur, hrun, s, ⟨fun i b' hr => ?_, fun i j b' x y hi hj hx hy lx ly => ?_, fun i => ?_, fun i b' hi => ?_, fun i j b' hi hj => ?_, fun q hq => ?_⟩, cur, hsame, hcsz, fun j hj => by rw [hcget j, if_pos hj], fun j u hu => ?_⟩
  · obtain ⟨h1, o, h2, h3, h4⟩ := hh.obj i b' hr
    have hne : i ≠ k := by intro e; subst e; have hr2 : K.rho i = none := t.rho hh; rw [show K.rho i = some _ from hr] at hr2; cases hr2
    refine ⟨by simpa using h1, o, by rw [t.other hne]; exact h2, ?_, fun hlive => ?_⟩
    · by_cases hbb : b' = b
      · subst hbb
        have hdead := hnl i o hr h2
        cases o with
        | dead => trivial
        | cells _ => exact absurd trivial hdead
        | map _ _ => exact absurd trivial hdead
        | iter _ _ _ _ => exact absurd trivial hdead
        | siter _ _ => exact absurd trivial hdead
        | tok _ => exact h3.elim
        | res => exact h3.elim
      · exact h3.keep s (hoth b' hbb)
    · have hbb : b' ≠ b := by intro e; subst e; exact hnl i o hr h2 hlive
      rw [hl b' hbb]; exact h4 hlive
  · have key : ∀ {i : Nat} {x : HObj}, h'[i]? = some x → x.live → h[i]? = some x := by
      intro i x hx lx
      have : i ≠ k := by intro e; subst e; rw [t.get] at hx; injection hx with hx; subst hx; exact lx.elim
      rw [← t.other this]; exact hx
    exact hh.inj i j b' x y hi hj (key hx lx) (key hy ly) lx ly
  · simp only [GK.tokAt, GK.limAt]
    by_cases e : i = k
    · subst e; rw [if_pos rfl, t.get]
    · rw [if_neg e, t.other e]; exact hh.wm i
  · simp only [GK.tokAt, GK.limAt] at hi
    split at hi
    · rename_i e
      injection hi with hi
      subst hi; subst e
      refine ⟨by simpa using hblt, ⟨W, t.get⟩, fun id o hid ho => ?_, cur, et, fr, hsame, by rw [hlb]; omega, fun j hj => hfr j (by omega)⟩
      by_cases e2 : id = i
      · subst e2; rw [t.get] at ho; injection ho with ho; subst ho; exact fun h => h.elim
      · exact hnl id o hid (by rw [← t.other e2]; exact ho)
    · rename_i e
      obtain ⟨h1, ⟨q, h2⟩, h3, c', e', fr', h4, h5, h6⟩ := hh.tok i b' hi
      have hbb : b' ≠ b := by intro e'; subst e'; exact e (hh.tinj i k b' hi htb)
      refine ⟨by simpa using h1, ⟨q, by rw [t.other e]; exact h2⟩, fun id o hid ho => ?_, c', e', fr', by rw [hoth b' hbb]; exact h4, by rw [hl b' hbb]; exact h5, h6⟩
      by_cases e2 : id = k
      · subst e2; rw [t.get] at ho; injection ho with ho; subst ho; exact fun h => h.elim
      · exact h3 id o hid (by rw [← t.other e2]; exact ho)
  · simp only [GK.tokAt, GK.limAt] at hi hj
    split at hi <;> split at hj
    · simp_all
    · rename_i e1 e2
      injection hi with hi
      subst hi
      exact absurd (hh.tinj j k b hj htb) e2
    · rename_i e1 e2
      injection hj with hj
      subst hj
      exact absurd (hh.tinj i k b hi htb) e1
    · exact hh.tinj i j b' hi hj
  · have : q ≠ b := by simp at hq; omega
    rw [hl q this]
    exact hh.limb q (by simpa using hq)
  · rw [hcget, if_neg (by omega), if_pos (by have := lt_of_get hu; omega), Nat.add_sub_cancel_left]
    exact hu

end Go.Hw
