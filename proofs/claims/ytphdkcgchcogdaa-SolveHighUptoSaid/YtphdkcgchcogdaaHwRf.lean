import Derived.Test.YtphdkcgchcogdaaHwF3
import Derived.RangeFuncNested
set_option linter.unusedVariables false
set_option linter.unusedSimpArgs false
namespace Go.Hw
open Go Go.RowKit
variable {P : Program}

def SeqN (P : Program) (gf : FuncId) (lb : Array Value) (encs : List (Array Value)) (Kp : World → World → Prop) (w : World) : Prop :=
  ∀ (l : Nat) (J : Nat → World → Prop) (W : World), Below w.heap.size w W → AbidesFrom W.heap.size J →
    (∀ (i : Nat) (x : Array Value) (W1 : World), encs[i]? = some x → J i W1 → YieldAt Fence.wide 0 P l x W1 fun e W' => e = .returned (.bool true) ∧ J (i + 1) W' ∧ Kp W1 W') →
    J 0 W → CallsIn Fence.wide 1 P gf (#[.func (.yield l) #[] #[]] ++ lb) W fun e W' => (∃ v, e = .returned v) ∧ J encs.length W'

theorem wpIn_any {F : Fence} {n m : Nat} {c : Code} {Q : Exit → Act → World → Prop} {a : Act} {w : World} (hF : ∀ n, F.room n) (h : c.wpIn F n P Q a w) : c.wpIn F m P Q a w :=
  fun b k cs hro hb _ => h b k cs hro hb (hF _)
theorem wf_room (ro : Option Nat) (n : Nat) : (WF ro).room n := fun _ h => by simp [Fence.wide] at h

theorem rf_law {g : Operand} {ps : Array Tmp} {assign body : Code} {Q : Exit → Act → World → Prop} {a : Act} {w : World}
    {gf : Nat} {lb : Array Value} (hg : a.eval g = .func (.func gf) #[] lb) (eg : ∀ args w, (callFunc gf args).run P w = .ok (.enter gf args) w)
    {encs : List (Array Value)} {Kp : World → World → Prop} (hseq : SeqN P gf lb encs Kp w)
    (hKt : ∀ {A B C : World}, Kp A B → Kp B C → Kp A C) (hKb : ∀ (W : World) (l : Nat) (o o' : Obj), w.heap.size ≤ l → W.heap[l]? = some o → o.isCells = false → Kp W (W.putObj l o')) (hps : ∀ x ∈ encs, x.size = ps.size)
    (I : Nat → World → Prop) (hI : OwnFrom w.heap.size I) (h0 : I 0 w)
    (hround : ∀ (i : Nat) (x : Array Value) (W : World) (r r' : Loop), encs[i]? = some x → I i W → W.heap[w.heap.size + 1]? = some (.loop r) → W.heap[w.heap.size]? = some (.deferred (some [])) →
      assign.wpIn (WF (some (w.heap.size + 1))) 0 P (fun ex a1 W1 => ex = .normal ∧ W1.heap[w.heap.size + 1]? = some (.loop r) ∧ body.wpIn (WF (some (w.heap.size + 1))) 0 P
        (fun ex a2 W2 => ex = .normal ∧ W2.heap[w.heap.size + 1]? = some (.loop r') ∧ W2.heap[w.heap.size]? = some (.deferred (some [])) ∧ Kp W W2 ∧ I (i + 1) W2) a1 (W1.putObj (w.heap.size + 1) (.loop r')))
        { tmps := (ps.zip x).foldl (fun t (p, v) => t.setIfInBounds p v) a.tmps, defers := [] } W)
    (hdone : ∀ (W : World), I encs.length W → W.heap[w.heap.size]? = some (.deferred (some [])) → Q .normal { a with defers := markOf w.heap.size :: a.defers } W) :
    (Code.rangeFunc g ps assign body).wpIn (WF none) 0 P Q a w := by
  refine wpIn_any (n := 2) (wf_room none) (wpIn_rangeFunc ?_)
  intro fn hfn
  obtain ⟨rec, hrec⟩ : ∃ rec : LoopState → Option Code → Loop, rec = fun st pe => { state := st, pending := pe, fn, tmps := a.tmps, params := ps, assign, body, defers := w.heap.size } := ⟨_, rfl⟩
  obtain ⟨W1, hW1⟩ : ∃ W1, (w.alloc (.deferred (some []))).alloc (.loop (rec .ready none)) = W1 := ⟨_, rfl⟩
  have hL1 : W1.heap[w.heap.size + 1]? = some (.loop (rec .ready none)) := by
    rw [← hW1]; have := World.alloc_heap_new (w.alloc (.deferred (some []))) (.loop (rec .ready none)); rwa [World.size_alloc] at this
  have hK1 : W1.heap[w.heap.size]? = some (.deferred (some [])) := by
    rw [← hW1]; exact (Below.heap_alloc _ _ _ (by simp)).trans (World.alloc_heap_new w _)
  have hI1 : I 0 W1 := by rw [← hW1]; exact hI.alloc _ (hI.alloc _ h0)
  have hb1 : Below w.heap.size w W1 := by
    rw [← hW1]; exact ((((Below.refl _ w).alloc (Nat.le_refl _) _).alloc (by simp) _))
  refine ⟨w.heap.size + 1, [markOf w.heap.size], W1, { target := .fn (.func gf) lb, args := #[.func (.yield (w.heap.size + 1)) #[] #[]] }, W1, gf,
    #[.func (.yield (w.heap.size + 1)) #[] #[]] ++ lb, W1, ?_, ?_, fun _ _ => trivial, ?_, fun h => by simp [Fence.wide] at h, ?_⟩
  · rw [← hW1, hrec]; exact run_enterLoop_outer _ _ _ _ _
  · simp only [resolve, hg]
    simp [go_sem]
  · simp [invoke, go_sem, eg]
  · have hnw : ∀ {A : World} {row : Option Nat}, (∀ r, row = some r → W1.heap.size ≤ r ∧ ∃ o : Obj, A.heap[r]? = some o ∧ o.isWalk = true) → (∀ r, row = some r → w.heap.size ≤ r ∧ ∃ o : Obj, A.heap[r]? = some o ∧ o.isCells = false) :=
      fun hr r e => by obtain ⟨hB, o, ho, hw⟩ := hr r e; exact ⟨by rw [← hW1] at hB; simp at hB; omega, o, ho, Obj.not_cells_of_walk hw⟩
    have hs := hseq (w.heap.size + 1)
      (fun i W => I i W ∧ W.heap[w.heap.size + 1]? = some (.loop (rec .ready none)) ∧ W.heap[w.heap.size]? = some (.deferred (some [])))
      W1 hb1
      (fun s A B row hs hg' hr => ⟨hI s A B row hs.1 hg' (hnw hr), (grownBy_keeps hg' (fun r e => (hr r e).2) hs.2.1 rfl).trans hs.2.1, (grownBy_keeps hg' (fun r e => (hr r e).2) hs.2.2 rfl).trans hs.2.2⟩)
      ?_ ⟨hI1, hL1, hK1⟩
    · refine CallsIn.mono hs ?_
      rintro e W2 ⟨⟨v, rfl⟩, hi, hl, hk⟩
      exact ⟨none, _, by have := run_endLoop (P := P) hl (by rw [hrec]; simp); rw [hrec] at this; exact this, hdone _ (hI.putObj _ hi (by omega) hl rfl) ((World.putObj_heap_other (by omega)).trans hk)⟩
    · rintro i x W hx ⟨hi, hl, hk⟩
      have hlt : w.heap.size + 1 < W.heap.size := (Array.getElem?_eq_some_iff.1 hl).1
      have hy := run_yield (P := P) (args := x) hl (by rw [hrec]; exact hps x (List.mem_of_getElem? hx))
      rw [hrec] at hy
      refine ⟨fn, _, assign, body, hy, roundIn_of_wpIn hfn (wpIn_mono (hround i x W _ { rec .ready none with state := .busy } hx hi hl hk) ?_)⟩
      rintro ex a1 Wa ⟨rfl, hla, hb⟩
      refine ⟨_, run_beginRound hla (by rw [hrec]), wpIn_mono hb ?_⟩
      rintro ex a2 W3 ⟨rfl, hl3, hk3, hkp, hi3⟩
      have hr := run_endRound (P := P) none hl3
      refine ⟨_, _, hr, rfl, ⟨hI.putObj _ hi3 (by omega) hl3 rfl, ?_, (World.putObj_heap_other (by omega)).trans hk3⟩, hKt hkp (hKb _ _ _ _ (by omega) hl3 rfl)⟩
      rw [World.putObj_heap_same (Array.getElem?_eq_some_iff.1 hl3).1, hrec]
      rfl


def KpK (K : GK) (A B : World) : Prop := ∀ b i v, i < K.lim b → A.cell? ⟨b, i, none⟩ = some v → B.cell? ⟨b, i, none⟩ = some v
def SeqH (P : Program) (gf : FuncId) (caps : List HV) (rounds : List (List HV)) : Prop :=
  (∃ fn, P.funcs[gf]? = some fn ∧ fn.body.isSome = true ∧ fn.name ≠ "runtime.NumGoroutine") ∧
  ∀ (K : GK) (w : World) (h : Heap) (lb : List Value), HeapRel K h w → caps.length = lb.length → (∀ (j : Nat) (x : HV) (v : Value), caps[j]? = some x → lb[j]? = some v → V K w x v) →
    ∃ encs : List (Array Value), encs.length = rounds.length ∧ (∀ (i : Nat) (r : List HV) (x : Array Value), rounds[i]? = some r → encs[i]? = some x → r.length = x.size ∧ ∀ (j : Nat) (y : HV) (v : Value), r[j]? = some y → x[j]? = some v → V K w y v) ∧
      SeqN P gf lb.toArray encs (KpK K) w

def CellsOnly (h : Heap) : Prop := ∀ (id : Nat) (o : HObj), h[id]? = some o → (match o with | .cells _ => True | .tok _ => True | _ => False)

theorem plain_own {K : GK} {h : Heap} {w : World} (hh : HeapRel K h w) (hd : CellsOnly h) {b : Nat} {o : Obj} (hb : w.heap[b]? = some o) (ho : o.isCells = false) : ¬ owned K b := by
  rintro (⟨id, hr⟩ | ⟨k, hk⟩)
  · obtain ⟨_, x, h1, h2, _⟩ := hh.obj id b hr
    have := hd id x h1
    cases x with
    | cells cs =>
      obtain ⟨c, e, fr, h3, _⟩ := h2
      rw [hb] at h3; cases h3; cases ho
    | _ => first | exact this.elim | exact h2.elim
  · obtain ⟨_, _, _, c, e, fr, h3, _⟩ := hh.tok k b hk
    rw [hb] at h3; cases h3; cases ho
theorem CellsOnly.nil : CellsOnly [] := fun id o h => by simp at h
theorem CellsOnly.cells {cs : List HV} {h : Heap} (k : CellsOnly h) : CellsOnly (.cells cs :: h) := fun id o hx => by
  cases id with
  | zero => simp at hx; subst hx; trivial
  | succ j => exact k j o (by simpa using hx)
theorem CellsOnly.tok {n : Nat} {h : Heap} (k : CellsOnly h) : CellsOnly (.tok n :: h) := fun id o hx => by
  cases id with
  | zero => simp at hx; subst hx; trivial
  | succ j => exact k j o (by simpa using hx)

theorem Step.put {K K' : GK} {w w' : World} (s : Step K w K' w') {r : Nat} {o o' : Obj} (hr : w.heap[r]? = some o) (ho : o.isCells = false) (hn : ¬ owned K r) (ho' : o'.isCells = false) : Step K (w.putObj r o') K' (w'.putObj r o') := by
  have hlt := (Array.getElem?_eq_some_iff.1 hr).1
  have hr' : w'.heap[r]? = some o := (s.frame r hlt hn).1.trans hr
  have hlt' := (Array.getElem?_eq_some_iff.1 hr').1
  have hput : ∀ (u : World), r < u.heap.size → (u.putObj r o').heap[r]? = some o' := fun u hu => World.putObj_heap_same hu
  have hother : ∀ (u : World) (b : Nat), b ≠ r → (u.putObj r o').heap[b]? = u.heap[b]? := fun u b hb => World.putObj_heap_other hb
  have hsz : ∀ (u : World), (u.putObj r o').heap.size = u.heap.size := fun u => (by simp [World.putObj])
  refine ⟨s.os, s.tape, s.output, by rw [hsz, hsz]; exact s.size, s.lim, s.wm, s.tok, s.rho, fun b i v hi hc => ?_, fun b n hroom => ?_, fun b hb h => s.own b (by rwa [hsz] at hb) h, fun b hb h => ?_⟩
  · by_cases hbr : b = r
    · subst hbr
      simp only [World.cell?, hput w hlt] at hc
      cases o' <;> first | (simp [Obj.isCells] at ho'; done) | (simp at hc)
    · rw [World.cell?_of_block (hother w b hbr)] at hc
      rw [World.cell?_of_block (hother w' b hbr)]
      exact s.cell b i v hi hc
  · by_cases hbr : b = r
    · subst hbr
      obtain ⟨c, e, fr, h1, _⟩ := hroom
      rw [hput w hlt] at h1
      cases h1
      cases ho'
    · obtain ⟨c, e, fr, h1, h2⟩ := hroom
      rw [hother w b hbr] at h1
      obtain ⟨c', e', fr', h3, h4⟩ := s.shape b n ⟨c, e, fr, h1, h2⟩
      exact ⟨c', e', fr', (hother w' b hbr).trans h3, h4⟩
  · rw [hsz] at hb
    obtain ⟨h1, h2⟩ := s.frame b hb h
    refine ⟨?_, h2⟩
    by_cases hbr : b = r
    · subst hbr; rw [hput w hlt, hput w' hlt']
    · rw [hother w b hbr, hother w' b hbr]; exact h1

def RndS (m : Nat) (R : Heap → Prop) : Ex → Env → Heap → Prop
  | .normal, e, h => ∃ h', R h' ∧ WeakF m e h [] h'
  | _, _, _ => False

theorem fold_size : ∀ (l : List (Nat × Value)) (t : Array Value), (l.foldl (fun t (p : Nat × Value) => t.setIfInBounds p.1 p.2) t).size = t.size
  | [], t => rfl
  | p :: l, t => by simp only [List.foldl_cons]; rw [fold_size l]; simp
theorem fold_env {K : GK} {w : World} {N : Nat} : ∀ (ps : List Nat) (hs : List HV) (vs : List Value) (e : Env) (t : Array Value), ps.Nodup → (∀ p ∈ ps, p < N) → t.size = N → hs.length = ps.length → vs.length = ps.length →
    (∀ (j : Nat) (y : HV) (v : Value), hs[j]? = some y → vs[j]? = some v → V K w y v) → EnvRel K w e t → EnvRel K w (ps.zip hs ++ e) ((ps.zip vs).foldl (fun t (p : Nat × Value) => t.setIfInBounds p.1 p.2) t)
  | [], _, _, e, t, _, _, _, _, _, _, he => by simpa using he
  | p :: ps, [], _, e, t, _, _, _, h, _, _, _ => by simp at h
  | p :: ps, y :: hs, [], e, t, _, _, _, _, h, _, _ => by simp at h
  | p :: ps, y :: hs, v :: vs, e, t, hn, hb, ht, h1, h2, hv, he => by
    obtain ⟨hn1, hn2⟩ := List.nodup_cons.1 hn
    have hpN := hb p (by simp)
    have he' : EnvRel K w ((p, y) :: e) (t.setIfInBounds p v) := by
      intro u x hx
      simp only [Env.get] at hx
      split at hx
      · rename_i e1
        subst e1
        injection hx with hx
        subst hx
        simp only [Array.getD_eq_getD_getElem?, Array.getElem?_setIfInBounds, ht, hpN, if_true, Option.getD_some]
        exact hv 0 y v rfl rfl
      · rename_i hne
        have := he u x hx
        rw [Array.getD_eq_getD_getElem?, Array.getElem?_setIfInBounds, if_neg hne, ← Array.getD_eq_getD_getElem?]
        exact this
    have ih := fold_env ps hs vs ((p, y) :: e) (t.setIfInBounds p v) hn2 (fun q hq => hb q (by simp [hq])) (by simpa using ht) (by simpa using h1) (by simpa using h2) (fun j a b ha hb => hv (j + 1) a b (by simpa using ha) (by simpa using hb)) he'
    simp only [List.zip_cons_cons, List.foldl_cons, List.cons_append]
    intro u x hx
    refine ih u x ?_
    simp only [Env.get] at hx
    -- the pair (p, y) may stand ahead of, or behind, the others
    have key : ∀ (l : List (Nat × HV)), (∀ q ∈ l, q.1 ≠ p) → Env.get ((p, y) :: (l ++ e)) u = Env.get (l ++ (p, y) :: e) u := by
      intro l
      induction l with
      | nil => intro _; rfl
      | cons q l ihl =>
        intro hq
        have h1 := hq q (by simp)
        have h2 := ihl (fun z hz => hq z (by simp [hz]))
        obtain ⟨q1, q2⟩ := q
        simp only [List.cons_append, Env.get] at h2 ⊢
        by_cases hqu : q1 = u
        · rw [if_neg (by omega), if_pos hqu, if_pos hqu]
        · rw [if_neg hqu, if_neg hqu]; exact h2
    rw [← key (ps.zip hs) (fun q hq => fun hc => hn1 (by subst hc; exact (List.of_mem_zip hq).1))]
    simpa only [Env.get] using hx

theorem DefOk.low {w0 w1 : World} {K : GK} {w : World} {ds : List Deferred} (h : DefOk w1 K w ds) (hs : w0.heap.size ≤ w1.heap.size) : DefOk w0 K w ds := by
  obtain ⟨Ds, h1, h2, h3⟩ := h
  exact ⟨Ds, h1, h2, fun D hD => ⟨Nat.le_trans hs (h3 D hD).1, (h3 D hD).2⟩⟩


def parkS (n k : Nat) (K : GK) : GK := { K with rho := fun i => if n + k ≤ i ∧ i < n + 2 * k then K.rho (i - k) else K.rho i }
def parkB (n k : Nat) (K : GK) : GK := { K with rho := fun i => if n ≤ i ∧ i < n + k then none else (parkS n k K).rho i }
theorem parkS_rho {n k : Nat} {K : GK} {id b : Nat} (h : (parkS n k K).rho id = some b) : (n + k ≤ id ∧ id < n + 2 * k ∧ K.rho (id - k) = some b) ∨ K.rho id = some b := by
  simp only [parkS] at h
  split at h
  · rename_i hc; exact .inl ⟨hc.1, hc.2, h⟩
  · exact .inr h
theorem park_keep {n k : Nat} {K : GK} (hb : Base (n + k) K) {id b : Nat} (h : K.rho id = some b) : (parkS n k K).rho id = some b := by
  simp only [parkS]
  split
  · rename_i hc
    rw [(hb id hc.1).1] at h; cases h
  · exact h
theorem ownedS {n k : Nat} {K : GK} {b : Nat} (h : owned (parkS n k K) b) : owned K b := by
  rcases h with ⟨id, h⟩ | h
  · rcases parkS_rho h with ⟨_, _, h⟩ | h <;> exact .inl ⟨_, h⟩
  · exact .inr h
theorem ownedB {n k : Nat} {K : GK} {b : Nat} (h : owned (parkB n k K) b) : owned K b := by
  rcases h with ⟨id, h⟩ | h
  · simp only [parkB] at h
    split at h
    · cases h
    · exact ownedS (.inl ⟨id, h⟩)
  · exact .inr h
theorem owned_B {n k : Nat} {K : GK} (hb : Base (n + k) K) {b : Nat} (h : owned K b) : owned (parkB n k K) b := by
  rcases h with ⟨id, h⟩ | h
  · by_cases hc : n ≤ id ∧ id < n + k
    · refine .inl ⟨id + k, ?_⟩
      simp only [parkB, parkS]
      rw [if_neg (by omega), if_pos (by omega)]
      simpa using h
    · refine .inl ⟨id, ?_⟩
      simp only [parkB]
      rw [if_neg hc]
      exact park_keep hb h
  · exact .inr h
theorem park_step {n k : Nat} {K : GK} (hb : Base (n + k) K) (w : World) : Step K w (parkS n k K) w :=
  ⟨rfl, tk, rfl, Nat.le_refl _, fun _ => Nat.le_refl _, fun _ => Nat.le_refl _, fun _ _ => ⟨rfl, fun _ _ => rfl⟩, fun _ _ h => park_keep hb h, fun _ _ _ _ h => h, fun _ _ h => h, fun _ _ h => ownedS h, fun _ _ _ => ⟨rfl, rfl⟩⟩
theorem park_stepB {n k : Nat} {K : GK} (hb : Base (n + k) K) (w : World) : Step (parkB n k K) w (parkS n k K) w :=
  ⟨rfl, tk, rfl, Nat.le_refl _, fun _ => Nat.le_refl _, fun _ => Nat.le_refl _, fun _ _ => ⟨rfl, fun _ _ => rfl⟩, fun id b h => by
    simp only [parkB] at h
    split at h
    · cases h
    · exact h, fun _ _ _ _ h => h, fun _ _ h => h, fun _ _ h => owned_B hb (ownedS h), fun _ _ _ => ⟨rfl, rfl⟩⟩
theorem park_base {n k : Nat} {K : GK} (hb : Base (n + k) K) : Base (n + 2 * k) (parkB n k K) := by
  intro i hi
  have h1 := hb i (by omega)
  refine ⟨?_, h1.2.1, h1.2.2⟩
  simp only [parkB, parkS]
  rw [if_neg (by omega), if_neg (by omega)]
  exact h1.1
theorem park_from {n k : Nat} {K0 K : GK} {w0 w : World} (h0 : Base n K0) (hb : Base (n + k) K) (s : Step K0 w0 K w) : Step K0 w0 (parkB n k K) w where
  os := s.os
  tape := s.tape
  output := s.output
  size := s.size
  lim := s.lim
  wm := s.wm
  tok := s.tok
  rho := fun id b h => by
    have hlt : id < n := by
      rcases Nat.lt_or_ge id n with h1 | h1
      · exact h1
      · rw [(h0 id h1).1] at h; cases h
    simp only [parkB]
    rw [if_neg (by omega)]
    exact park_keep hb (s.rho id b h)
  cell := s.cell
  shape := s.shape
  own := fun b hb h => s.own b hb (ownedB h)
  frame := s.frame
theorem park_heap {n k : Nat} {K : GK} {h : Heap} {w : World} (hh : HeapRel K h w) (hl : h.length = n + k) : HeapRel (parkS n k K) (h ++ List.replicate k .dead) w := by
  have hb : Base (n + k) K := by have := base_of hh; rwa [hl] at this
  have s := park_step hb w
  have hleft : ∀ {id b : Nat}, K.rho id = some b → (h ++ List.replicate k HObj.dead)[id]? = h[id]? := by
    intro id b hid
    obtain ⟨_, o, h2, _⟩ := hh.obj id b hid
    exact List.getElem?_append_left (lt_of_get h2)
  have hdead : ∀ {id : Nat} {o : HObj}, n + k ≤ id → (h ++ List.replicate k HObj.dead)[id]? = some o → o = .dead := by
    intro id o hid ho
    rw [List.getElem?_append_right (by omega), List.getElem?_replicate] at ho
    split at ho
    · injection ho with ho; exact ho.symm
    · cases ho
  have hlow : ∀ {id b : Nat} {o : HObj}, (parkS n k K).rho id = some b → (h ++ List.replicate k HObj.dead)[id]? = some o → o.live → K.rho id = some b ∧ h[id]? = some o := by
    intro id b o h1 h2 h3
    rcases parkS_rho h1 with ⟨h4, _, _⟩ | h4
    · rw [hdead h4 h2] at h3; exact h3.elim
    · exact ⟨h4, by rw [hleft h4] at h2; exact h2⟩
  refine ⟨fun id b hr => ?_, fun i j b x y hi hj hx hy lx ly => ?_, fun i => ?_, fun i b hi => ?_, hh.tinj, hh.limb⟩
  · rcases parkS_rho hr with ⟨h1, h2, h3⟩ | h3
    · obtain ⟨h4, _⟩ := hh.obj _ b h3
      refine ⟨h4, .dead, ?_, trivial, fun h => h.elim⟩
      rw [List.getElem?_append_right (by omega), List.getElem?_replicate, if_pos (by omega)]
    · obtain ⟨h4, o, h5, h6, h7⟩ := hh.obj id b h3
      exact ⟨h4, o, by rw [hleft h3]; exact h5, ObjOk.keep s rfl h6, h7⟩
  · obtain ⟨a1, a2⟩ := hlow hi hx lx
    obtain ⟨b1, b2⟩ := hlow hj hy ly
    exact hh.inj i j b x y a1 b1 a2 b2 lx ly
  · show K.wm i = _
    rw [hh.wm i]
    by_cases hi : i < h.length
    · rw [List.getElem?_append_left hi]
    · rw [List.getElem?_eq_none (by omega : h.length ≤ i)]
      cases ho : (h ++ List.replicate k HObj.dead)[i]? with
      | none => rfl
      | some o => rw [hdead (by omega) ho]
  · obtain ⟨h1, ⟨q, h2⟩, h3, h4⟩ := hh.tok i b hi
    refine ⟨h1, ⟨q, by rw [List.getElem?_append_left (lt_of_get h2)]; exact h2⟩, fun id o hid ho hl' => ?_, h4⟩
    obtain ⟨a1, a2⟩ := hlow hid ho hl'
    exact h3 id o a1 a2 hl'

section
variable {N m : Nat} {e : Env} {h : Heap} {QQ : Ex → Env → Heap → Prop}
theorem sc_rfun {x : X} {ps : List Nat} {p q : C} {gf : FuncId} {caps : List HV} (hx : x.ev e = some (.func gf caps)) {rounds : List (List HV)} (hs : SeqH P gf caps rounds) (hlen : ∀ r ∈ rounds, r.length = ps.length)
    (hnd : ps.Nodup) (hpN : ∀ t ∈ ps, t < N) {X : Type} (kf : Nat) (hp : X → Heap) (I : Nat → X → Prop) (x0 : X) (hi0 : I 0 x0) (hin : WeakF h.length [] h [] (hp x0)) (hm : ∀ s, (hp s).length = h.length + kf) (hpl : ∀ s, CellsOnly (hp s)) (hnp : p.noRf = true) (hnq : q.noRf = true)
    (round : ∀ i r s, rounds[i]? = some r → I i s → SC P N (h.length + 2 * kf) p (SeqS P N (h.length + 2 * kf) q (RndS h.length fun h' => ∃ s', I (i + 1) s' ∧ hp s' = h')) (ps.zip r ++ e) (hp s ++ List.replicate kf .dead))
    (k : ∀ s, I rounds.length s → QQ .normal e (hp s)) : SC P N m (.rfun x ps p q) QQ e h := by
  intro ro rr ann code hc K0 w0 K w a b s r
  obtain ⟨g, us, y, z, rfl, hg0, hus, h1, h2⟩ := comp_from hc
  have hro : ro = none := by
    rcases rr with rr | rr
    · exact rr
    · cases rr
  subst hro
  obtain ⟨ds, dk, r⟩ := r
  have hV := ev_sound hg0 r.env hx
  generalize hgv : a.eval g = gv at hV
  cases hV with
  | func _ _ lb hn' hlb =>
  obtain ⟨⟨fn, hf, hb, hn⟩, hseq⟩ := hs
  obtain ⟨encs, hel, hev, hseqn⟩ := hseq K w h lb r.heap hn' hlb
  have hrnd : ∀ i xv, encs[i]? = some xv → ∃ rv, rounds[i]? = some rv := fun i xv hi => get_of_lt (by rw [← hel]; exact lt_of_get hi)
  have hBase : Base h.length K := base_of r.heap
  obtain ⟨K00, s00, r00⟩ := hin N K w K w { a with defers := [] } hBase (.refl K w) ⟨[], .nil _ _ _, r.heap, fun t x hx => by simp [Env.get] at hx, r.size, rfl⟩
  refine rf_law hgv (fun args w => run_callFunc hf hb hn args w) hseqn (fun {A B C} x y b i v hi hc => y b i v hi (x b i v hi hc)) ?_ ?_
    (fun i W => ∃ (s : X) (K' : GK), I i s ∧ Step K w K' W ∧ HeapRel K' (hp s) W) ?_ ⟨x0, K00, hi0, s00, r00.heap⟩ ?_ ?_
  · intro W l o o' _ hl ho b i v hi hc
    by_cases hbl : b = l
    · subst hbl
      simp only [World.cell?, hl] at hc
      cases o <;> first | (simp [Obj.isCells] at ho; done) | (simp at hc)
    · rw [World.cell?_of_block (World.putObj_heap_other hbl)]; exact hc
  · intro xv hxv
    obtain ⟨i, hi⟩ := mem_get hxv
    obtain ⟨rv, hr⟩ := hrnd i xv hi
    rw [← (hev i rv xv hr hi).1, hlen rv (List.mem_of_getElem? hr), ← hus]
    simp
  · rintro i A B row ⟨x', K', hi', s', hh'⟩ hg' hrow
    have md : Mild K' A B row := ⟨hg', fun rr hrr => by
      obtain ⟨_, o, ho, hoc⟩ := hrow rr hrr
      exact ⟨⟨o, ho, hoc⟩, plain_own hh' (hpl _) ho hoc⟩⟩
    exact ⟨x', K', hi', md.step s' (fun rr hrr => (hrow rr hrr).1), md.heap hh' (fun b hb => hh'.limb b (Nat.le_trans md.g.size hb))⟩
  · rintro i xv W rc rc' hxi ⟨x', K', hi', s', hh'⟩ hrc hdf
    obtain ⟨rv, hrv⟩ := hrnd i xv hxi
    obtain ⟨hsz, hvv⟩ := hev i rv xv hrv hxi
    have hnr : ¬ owned K' (w.heap.size + 1) := plain_own hh' (hpl _) hrc rfl
    have hnd' : ¬ owned K' w.heap.size := plain_own hh' (hpl _) hdf rfl
    have hltr := (Array.getElem?_eq_some_iff.1 hrc).1
    have hltd := (Array.getElem?_eq_some_iff.1 hdf).1
    have hb' : Base (h.length + kf) K' := by have := base_of hh'; rwa [hm] at this
    -- the floating names are parked
    obtain ⟨Ks, hKs⟩ : ∃ Ks, parkS h.length kf K' = Ks := ⟨_, rfl⟩
    obtain ⟨Kb, hKb⟩ : ∃ Kb, parkB h.length kf K' = Kb := ⟨_, rfl⟩
    have hhs : HeapRel Ks (hp x' ++ List.replicate kf .dead) W := hKs ▸ park_heap hh' (hm x')
    have ss : Step K' W Ks W := hKs ▸ park_step hb' W
    have sb : Step Kb W Ks W := by rw [← hKs, ← hKb]; exact park_stepB hb' W
    have bb : Base (h.length + 2 * kf) Kb := hKb ▸ park_base hb'
    have s1b : Step K w Kb W := hKb ▸ park_from hBase hb' s'
    have hnrb : ¬ owned Kb (w.heap.size + 1) := fun ho => hnr (ownedB (hKb ▸ ho))
    have hndb : ¬ owned Kb w.heap.size := fun ho => hnd' (ownedB (hKb ▸ ho))
    have hlimb : Kb.lim = K'.lim := by rw [← hKb]; rfl
    clear hKs hKb
    have hzip : (us.zip xv).foldl (fun (t : Array Value) (x : Nat × Value) => t.setIfInBounds x.1 x.2) a.tmps = (ps.zip xv.toList).foldl (fun (t : Array Value) (x : Nat × Value) => t.setIfInBounds x.1 x.2) a.tmps := by
      rw [← Array.foldl_toList, Array.toList_zip, hus]
    have hrl := hlen rv (List.mem_of_getElem? hrv)
    have hrel : RelD N W Ks W (ps.zip rv ++ e) (hp x' ++ List.replicate kf .dead) { tmps := (ps.zip xv.toList).foldl (fun (t : Array Value) (x : Nat × Value) => t.setIfInBounds x.1 x.2) a.tmps, defers := [] } :=
      ⟨[], .nil _ _ _, hhs, fold_env ps rv xv.toList e a.tmps hnd hpN r.size hrl (by simp; omega) (fun j y' v hy' hv' => (hvv j y' v hy' (by simpa using hv')).step (s'.trans ss)) (r.env.step (s'.trans ss)), by rw [fold_size]; exact r.size, rfl⟩
    have hsc := round i rv x' hrv hi' (some (w.heap.size + 1)) (.inr hnp) ann y h1 Kb W Ks W _ bb sb hrel
    show y.wpIn (WF (some (w.heap.size + 1))) 0 P _ { tmps := (us.zip xv).foldl (fun (t : Array Value) (x : Nat × Value) => t.setIfInBounds x.1 x.2) a.tmps, defers := [] } W
    rw [hzip]
    refine wpIn_mono hsc ?_
    rintro ex a1 W1 ⟨q1, K1, e1, h1', rfl, s1, r1, hq1⟩
    cases q1 with
    | exit i => exact hq1.elim
    | ret => exact hq1.elim
    | normal =>
      have hrc1 : W1.heap[w.heap.size + 1]? = some (.loop rc) := (s1.frame _ hltr hnrb).1.trans hrc
      have hnr1 : ¬ owned K1 (w.heap.size + 1) := fun ho => hnrb (s1.own _ hltr ho)
      refine ⟨rfl, hrc1, ?_⟩
      have md1 : Mild K1 W1 (W1.putObj (w.heap.size + 1) (.loop rc')) (some (w.heap.size + 1)) := ⟨grownBy_putObj' _ _ _, fun _ e => by cases e; exact ⟨⟨_, hrc1, rfl⟩, hnr1⟩⟩
      have s1' := s1.put (o' := .loop rc') hrc rfl hnrb rfl
      obtain ⟨ds1, ⟨Ds, hds, hndp, hD⟩, r1⟩ := r1
      have hszp : ∀ (u : World), (u.putObj (w.heap.size + 1) (.loop rc')).heap.size = u.heap.size := fun u => by simp [World.putObj]
      have hrel1 : RelD N (W.putObj (w.heap.size + 1) (.loop rc')) K1 (W1.putObj (w.heap.size + 1) (.loop rc')) e1 h1' a1 := by
        refine ⟨ds1, ⟨Ds, hds, hndp, fun D hDm => ?_⟩, md1.heap r1.heap (fun b hb => r1.heap.limb b (Nat.le_trans md1.g.size hb)), md1.env r1.env, r1.size, r1.defers⟩
        obtain ⟨g1, g2, g3⟩ := hD D hDm
        refine ⟨by rw [hszp]; exact g1, g2, (World.putObj_heap_other (fun e => ?_)).trans g3⟩
        omega
      have hsc2 := hq1 (some (w.heap.size + 1)) (.inr hnq) ann z h2 Kb (W.putObj (w.heap.size + 1) (.loop rc')) K1 _ a1 bb s1' hrel1
      refine wpIn_mono hsc2 ?_
      rintro ex a2 W2 ⟨q2, K2, e2, h2', rfl, s2, r2, hq2⟩
      cases q2 with
      | exit i => exact hq2.elim
      | ret => exact hq2.elim
      | normal =>
        obtain ⟨h3, ⟨x3, hi3, rfl⟩, hwk⟩ := hq2
        have md0 : Mild Kb W (W.putObj (w.heap.size + 1) (.loop rc')) (some (w.heap.size + 1)) := ⟨grownBy_putObj' _ _ _, fun _ e => by cases e; exact ⟨⟨_, hrc, rfl⟩, hnrb⟩⟩
        have s0 : Step K w Kb (W.putObj (w.heap.size + 1) (.loop rc')) := md0.step s1b (fun _ e => by cases e; omega)
        obtain ⟨ds2, dk2, r2⟩ := r2
        obtain ⟨K3, s3, r3⟩ := hwk N K w K2 W2 a2 hBase (s0.trans s2) ⟨ds2, dk2.low (by rw [hszp]; exact s'.size), r2⟩
        refine ⟨rfl, ?_, ?_, ?_, x3, K3, hi3, s3, r3.heap⟩
        · exact (s2.frame _ (by rw [hszp]; exact hltr) hnrb).1.trans (World.putObj_heap_same hltr)
        · exact (s2.frame _ (by rw [hszp]; exact hltd) hndb).1.trans ((World.putObj_heap_other (by omega)).trans hdf)
        · intro b' i' v' hi' hc'
          exact s2.cell b' i' v' (Nat.lt_of_lt_of_le hi' (by rw [hlimb]; exact s'.lim b')) (md0.cell hc')
  · rintro W ⟨x', K', hi', s', hh'⟩ hdf
    rw [hel] at hi'
    have hno : ¬ owned K' w.heap.size := plain_own hh' (hpl _) hdf rfl
    obtain ⟨Ds, hds, hndp, hD⟩ := dk.step s'
    have hrel : RelD N w0 K' W e (hp x') { a with defers := markOf w.heap.size :: a.defers } := by
      refine ⟨markOf w.heap.size :: ds, ⟨w.heap.size :: Ds, by simp [hds], List.nodup_cons.2 ⟨fun hc => ?_, hndp⟩, fun D hDm => ?_⟩, hh', r.env.step s', r.size, by rw [r.defers]⟩
      · obtain ⟨Ds0, hds0, _, hD0⟩ := dk
        have : Ds = Ds0 := by
          have h9 := hds.symm.trans hds0
          exact (List.map_inj_right (f := markOf) (fun x y hxy => by simp only [markOf, Deferred.mk.injEq, Target.collected.injEq, and_true] at hxy; exact hxy)).1 h9
        subst this
        have := (Array.getElem?_eq_some_iff.1 (hD0 _ hc).2.2).1
        omega
      · rcases List.mem_cons.1 hDm with rfl | hDm
        · exact ⟨s.size, hno, hdf⟩
        · exact hD D hDm
    exact ⟨.normal, K', e, hp x', rfl, s.trans s', hrel, k x' hi'⟩
end
end Go.Hw

