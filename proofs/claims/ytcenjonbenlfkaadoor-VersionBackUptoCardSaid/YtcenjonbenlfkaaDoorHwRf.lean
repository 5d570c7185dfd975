import Derived.Test.YtcenjonbenlfkaaDoorHwF2
import Derived.RangeFuncNested
set_option linter.unusedVariables false
set_option linter.unusedSimpArgs false
namespace Go.Hw
open Go Go.RowKit
variable {P : Program}

theorem wpIn_any {F : Fence} {n m : Nat} {c : Code} {Q : Exit → Act → World → Prop} {a : Act} {w : World} (hF : ∀ n, F.room n) (h : c.wpIn F n P Q a w) : c.wpIn F m P Q a w :=
  fun b k cs hro hb _ => h b k cs hro hb (hF _)
theorem wf_room (ro : Option Nat) (n : Nat) : (WF ro).room n := fun _ h => by simp [Fence.wide] at h

def CellsOnly (h : Heap) : Prop := ∀ (id : Nat) (o : HObj), h[id]? = some o → (match o with | .cells _ => True | .tok _ => True | _ => False)

theorem plain_own {K : GK} {h : Heap} {w : World} (hh : HeapRel K h w) (hd : CellsOnly h) {b : Nat} {o : Obj} (hb : w.heap[b]? = some o) (ho : o.isCells = false) : ¬ owned K b := by
  rintro (⟨id, hr⟩ | ⟨k, hk⟩)
  · obtain ⟨_, x, h1, h2, _⟩ := hh.obj id b hr
    have := hd id x h1
    cases x with
    | cells cs =>
      obtain ⟨c, e, fr, h3, _⟩ := h2
      rw [hb] at h3; cases h3; cases ho
    | _ => first | exact this.elim | exact h2.elim
  · obtain ⟨_, _, _, c, e, fr, h3, _⟩ := hh.tok k b hk
    rw [hb] at h3; cases h3; cases ho
theorem CellsOnly.nil : CellsOnly [] := fun id o h => by simp at h
theorem CellsOnly.cells {cs : List HV} {h : Heap} (k : CellsOnly h) : CellsOnly (.cells cs :: h) := fun id o hx => by
  cases id with
  | zero => simp at hx; subst hx; trivial
  | succ j => exact k j o (by simpa using hx)
theorem CellsOnly.tok {n : Nat} {h : Heap} (k : CellsOnly h) : CellsOnly (.tok n :: h) := fun id o hx => by
  cases id with
  | zero => simp at hx; subst hx; trivial
  | succ j => exact k j o (by simpa using hx)

theorem Step.put {K K' : GK} {w w' : World} (s : Step K w K' w') {r : Nat} {o o' : Obj} (hr : w.heap[r]? = some o) (ho : o.isCells = false) (hn : ¬ owned K r) (ho' : o'.isCells = false) : Step K (w.putObj r o') K' (w'.putObj r o') := by
  have hlt := (Array.getElem?_eq_some_iff.1 hr).1
  have hr' : w'.heap[r]? = some o := (s.frame r hlt hn).1.trans hr
  have hlt' := (Array.getElem?_eq_some_iff.1 hr').1
  have hput : ∀ (u : World), r < u.heap.size → (u.putObj r o').heap[r]? = some o' := fun u hu => World.putObj_heap_same hu
  have hother : ∀ (u : World) (b : Nat), b ≠ r → (u.putObj r o').heap[b]? = u.heap[b]? := fun u b hb => World.putObj_heap_other hb
  have hsz : ∀ (u : World), (u.putObj r o').heap.size = u.heap.size := fun u => (by simp [World.putObj])
  refine ⟨s.os, s.tape, s.output, by rw [hsz, hsz]; exact s.size, s.lim, s.wm, s.tok, s.rho, fun b i v hi hc => ?_, fun b n hroom => ?_, fun b hb h => s.own b (by rwa [hsz] at hb) h, fun b hb h => ?_⟩
  · by_cases hbr : b = r
    · subst hbr
      simp only [World.cell?, hput w hlt] at hc
      cases o' <;> first | (simp [Obj.isCells] at ho'; done) | (simp at hc)
    · rw [World.cell?_of_block (hother w b hbr)] at hc
      rw [World.cell?_of_block (hother w' b hbr)]
      exact s.cell b i v hi hc
  · by_cases hbr : b = r
    · subst hbr
      obtain ⟨c, e, fr, h1, _⟩ := hroom
      rw [hput w hlt] at h1
      cases h1
      cases ho'
    · obtain ⟨c, e, fr, h1, h2⟩ := hroom
      rw [hother w b hbr] at h1
      obtain ⟨c', e', fr', h3, h4⟩ := s.shape b n ⟨c, e, fr, h1, h2⟩
      exact ⟨c', e', fr', (hother w' b hbr).trans h3, h4⟩
  · rw [hsz] at hb
    obtain ⟨h1, h2⟩ := s.frame b hb h
    refine ⟨?_, h2⟩
    by_cases hbr : b = r
    · subst hbr; rw [hput w hlt, hput w' hlt']
    · rw [hother w b hbr, hother w' b hbr]; exact h1

theorem fold_env {K : GK} {w : World} {N : Nat} : ∀ (ps : List Nat) (hs : List HV) (vs : List Value) (e : Env) (t : Array Value), ps.Nodup → (∀ p ∈ ps, p < N) → t.size = N → hs.length = ps.length → vs.length = ps.length →
    (∀ (j : Nat) (y : HV) (v : Value), hs[j]? = some y → vs[j]? = some v → V K w y v) → EnvRel K w e t → EnvRel K w (ps.zip hs ++ e) ((ps.zip vs).foldl (fun t (p : Nat × Value) => t.setIfInBounds p.1 p.2) t)
  | [], _, _, e, t, _, _, _, _, _, _, he => by simpa using he
  | p :: ps, [], _, e, t, _, _, _, h, _, _, _ => by simp at h
  | p :: ps, y :: hs, [], e, t, _, _, _, _, h, _, _ => by simp at h
  | p :: ps, y :: hs, v :: vs, e, t, hn, hb, ht, h1, h2, hv, he => by
    obtain ⟨hn1, hn2⟩ := List.nodup_cons.1 hn
    have hpN := hb p (by simp)
    have he' : EnvRel K w ((p, y) :: e) (t.setIfInBounds p v) := by
      intro u x hx
      simp only [Env.get] at hx
      split at hx
      · rename_i e1
        subst e1
        injection hx with hx
        subst hx
        simp only [Array.getD_eq_getD_getElem?, Array.getElem?_setIfInBounds, ht, hpN, if_true, Option.getD_some]
        exact hv 0 y v rfl rfl
      · rename_i hne
        have := he u x hx
        rw [Array.getD_eq_getD_getElem?, Array.getElem?_setIfInBounds, if_neg hne, ← Array.getD_eq_getD_getElem?]
        exact this
    have ih := fold_env ps hs vs ((p, y) :: e) (t.setIfInBounds p v) hn2 (fun q hq => hb q (by simp [hq])) (by simpa using ht) (by simpa using h1) (by simpa using h2) (fun j a b ha hb => hv (j + 1) a b (by simpa using ha) (by simpa using hb)) he'
    simp only [List.zip_cons_cons, List.foldl_cons, List.cons_append]
    intro u x hx
    refine ih u x ?_
    simp only [Env.get] at hx
    -- the pair (p, y) may stand ahead of, or behind, the others
    have key : ∀ (l : List (Nat × HV)), (∀ q ∈ l, q.1 ≠ p) → Env.get ((p, y) :: (l ++ e)) u = Env.get (l ++ (p, y) :: e) u := by
      intro l
      induction l with
      | nil => intro _; rfl
      | cons q l ihl =>
        intro hq
        have h1 := hq q (by simp)
        have h2 := ihl (fun z hz => hq z (by simp [hz]))
        obtain ⟨q1, q2⟩ := q
        simp only [List.cons_append, Env.get] at h2 ⊢
        by_cases hqu : q1 = u
        · rw [if_neg (by omega), if_pos hqu, if_pos hqu]
        · rw [if_neg hqu, if_neg hqu]; exact h2
    rw [← key (ps.zip hs) (fun q hq => fun hc => hn1 (by subst hc; exact (List.of_mem_zip hq).1))]
    simpa only [Env.get] using hx

theorem DefOk.low {w0 w1 : World} {K : GK} {w : World} {ds : List Deferred} (h : DefOk w1 K w ds) (hs : w0.heap.size ≤ w1.heap.size) : DefOk w0 K w ds := by
  obtain ⟨Ds, h1, h2, h3⟩ := h
  exact ⟨Ds, h1, h2, fun D hD => ⟨Nat.le_trans hs (h3 D hD).1, (h3 D hD).2⟩⟩


def parkS (n k : Nat) (K : GK) : GK := { K with rho := fun i => if n + k ≤ i ∧ i < n + 2 * k then K.rho (i - k) else K.rho i }
def parkB (n k : Nat) (K : GK) : GK := { K with rho := fun i => if n ≤ i ∧ i < n + k then none else (parkS n k K).rho i }
theorem parkS_rho {n k : Nat} {K : GK} {id b : Nat} (h : (parkS n k K).rho id = some b) : (n + k ≤ id ∧ id < n + 2 * k ∧ K.rho (id - k) = some b) ∨ K.rho id = some b := by
  simp only [parkS] at h
  split at h
  · rename_i hc; exact .inl ⟨hc.1, hc.2, h⟩
  · exact .inr h
theorem park_keep {n k : Nat} {K : GK} (hb : Base (n + k) K) {id b : Nat} (h : K.rho id = some b) : (parkS n k K).rho id = some b := by
  simp only [parkS]
  split
  · rename_i hc
    rw [(hb id hc.1).1] at h; cases h
  · exact h
theorem ownedS {n k : Nat} {K : GK} {b : Nat} (h : owned (parkS n k K) b) : owned K b := by
  rcases h with ⟨id, h⟩ | h
  · rcases parkS_rho h with ⟨_, _, h⟩ | h <;> exact .inl ⟨_, h⟩
  · exact .inr h
theorem ownedB {n k : Nat} {K : GK} {b : Nat} (h : owned (parkB n k K) b) : owned K b := by
  rcases h with ⟨id, h⟩ | h
  · simp only [parkB] at h
    split at h
    · cases h
    · exact ownedS (.inl ⟨id, h⟩)
  · exact .inr h
theorem owned_B {n k : Nat} {K : GK} (hb : Base (n + k) K) {b : Nat} (h : owned K b) : owned (parkB n k K) b := by
  rcases h with ⟨id, h⟩ | h
  · by_cases hc : n ≤ id ∧ id < n + k
    · refine .inl ⟨id + k, ?_⟩
      simp only [parkB, parkS]
      rw [if_neg (by omega), if_pos (by omega)]
      simpa using h
    · refine .inl ⟨id, ?_⟩
      simp only [parkB]
      rw [if_neg hc]
      exact park_keep hb h
  · exact .inr h
theorem park_step {n k : Nat} {K : GK} (hb : Base (n + k) K) (w : World) : Step K w (parkS n k K) w :=
  ⟨rfl, tk, rfl, Nat.le_refl _, fun _ => Nat.le_refl _, fun _ => Nat.le_refl _, fun _ _ => ⟨rfl, fun _ _ => rfl⟩, fun _ _ h => park_keep hb h, fun _ _ _ _ h => h, fun _ _ h => h, fun _ _ h => ownedS h, fun _ _ _ => ⟨rfl, rfl⟩⟩
theorem park_stepB {n k : Nat} {K : GK} (hb : Base (n + k) K) (w : World) : Step (parkB n k K) w (parkS n k K) w :=
  ⟨rfl, tk, rfl, Nat.le_refl _, fun _ => Nat.le_refl _, fun _ => Nat.le_refl _, fun _ _ => ⟨rfl, fun _ _ => rfl⟩, fun id b h => by
    simp only [parkB] at h
    split at h
    · cases h
    · exact h, fun _ _ _ _ h => h, fun _ _ h => h, fun _ _ h => owned_B hb (ownedS h), fun _ _ _ => ⟨rfl, rfl⟩⟩
theorem park_base {n k : Nat} {K : GK} (hb : Base (n + k) K) : Base (n + 2 * k) (parkB n k K) := by
  intro i hi
  have h1 := hb i (by omega)
  refine ⟨?_, h1.2.1, h1.2.2⟩
  simp only [parkB, parkS]
  rw [if_neg (by omega), if_neg (by omega)]
  exact h1.1
theorem park_from {n k : Nat} {K0 K : GK} {w0 w : World} (h0 : Base n K0) (hb : Base (n + k) K) (s : Step K0 w0 K w) : Step K0 w0 (parkB n k K) w where
  os := s.os
  tape := s.tape
  output := s.output
  size := s.size
  lim := s.lim
  wm := s.wm
  tok := s.tok
  rho := fun id b h => by
    have hlt : id < n := by
      rcases Nat.lt_or_ge id n with h1 | h1
      · exact h1
      · rw [(h0 id h1).1] at h; cases h
    simp only [parkB]
    rw [if_neg (by omega)]
    exact park_keep hb (s.rho id b h)
  cell := s.cell
  shape := s.shape
  own := fun b hb h => s.own b hb (ownedB h)
  frame := s.frame
theorem park_heap {n k : Nat} {K : GK} {h : Heap} {w : World} (hh : HeapRel K h w) (hl : h.length = n + k) : HeapRel (parkS n k K) (h ++ List.replicate k .dead) w := by
  have hb : Base (n + k) K := by have := base_of hh; rwa [hl] at this
  have s := park_step hb w
  have hleft : ∀ {id b : Nat}, K.rho id = some b → (h ++ List.replicate k HObj.dead)[id]? = h[id]? := by
    intro id b hid
    obtain ⟨_, o, h2, _⟩ := hh.obj id b hid
    exact List.getElem?_append_left (lt_of_get h2)
  have hdead : ∀ {id : Nat} {o : HObj}, n + k ≤ id → (h ++ List.replicate k HObj.dead)[id]? = some o → o = .dead := by
    intro id o hid ho
    rw [List.getElem?_append_right (by omega), List.getElem?_replicate] at ho
    split at ho
    · injection ho with ho; exact ho.symm
    · cases ho
  have hlow : ∀ {id b : Nat} {o : HObj}, (parkS n k K).rho id = some b → (h ++ List.replicate k HObj.dead)[id]? = some o → o.live → K.rho id = some b ∧ h[id]? = some o := by
    intro id b o h1 h2 h3
    rcases parkS_rho h1 with ⟨h4, _, _⟩ | h4
    · rw [hdead h4 h2] at h3; exact h3.elim
    · exact ⟨h4, by rw [hleft h4] at h2; exact h2⟩
  refine ⟨fun id b hr => ?_, fun i j b x y hi hj hx hy lx ly => ?_, fun i => ?_, fun i b hi => ?_, hh.tinj, ⟨hh.limb.z, hh.limb.t.step s⟩⟩
  · rcases parkS_rho hr with ⟨h1, h2, h3⟩ | h3
    · obtain ⟨h4, _⟩ := hh.obj _ b h3
      refine ⟨h4, .dead, ?_, trivial, fun h => h.elim⟩
      rw [List.getElem?_append_right (by omega), List.getElem?_replicate, if_pos (by omega)]
    · obtain ⟨h4, o, h5, h6, h7⟩ := hh.obj id b h3
      exact ⟨h4, o, by rw [hleft h3]; exact h5, ObjOk.keep s rfl h6, h7⟩
  · obtain ⟨a1, a2⟩ := hlow hi hx lx
    obtain ⟨b1, b2⟩ := hlow hj hy ly
    exact hh.inj i j b x y a1 b1 a2 b2 lx ly
  · show K.wm i = _
    rw [hh.wm i]
    by_cases hi : i < h.length
    · rw [List.getElem?_append_left hi]
    · rw [List.getElem?_eq_none (by omega : h.length ≤ i)]
      cases ho : (h ++ List.replicate k HObj.dead)[i]? with
      | none => rfl
      | some o => rw [hdead (by omega) ho]
  · obtain ⟨h1, ⟨q, h2⟩, h3, h4⟩ := hh.tok i b hi
    refine ⟨h1, ⟨q, by rw [List.getElem?_append_left (lt_of_get h2)]; exact h2⟩, fun id o hid ho hl' => ?_, h4⟩
    obtain ⟨a1, a2⟩ := hlow hid ho hl'
    exact h3 id o a1 a2 hl'

section
variable {N m : Nat} {e : Env} {h : Heap} {QQ : Ex → Env → Heap → Prop}
end
end Go.Hw

