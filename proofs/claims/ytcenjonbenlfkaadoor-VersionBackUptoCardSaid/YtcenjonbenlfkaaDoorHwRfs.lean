import Derived.Test.YtcenjonbenlfkaaDoorHwRf2
set_option linter.unusedVariables false
set_option linter.unusedSimpArgs false
namespace Go.Hw
open Go Go.RowKit
variable {P : Program}

def SeqTx (P : Program) (gf : FuncId) (lb : Array Value) (rounds : List (List UInt8)) (s0 : List UInt8) (cs : Nat) (cts : List (Nat × Value)) : Prop :=
  ∀ (l : Nat) (J : Nat → List UInt8 → World → Prop) (W : World),
    (∀ i x W1, i < rounds.length → J i x W1 → W1.cell? ⟨cs, 0, none⟩ = some (.string ⟨x.toArray⟩) ∧ W1.frozen? ⟨cs, 0, none⟩ = false ∧ ∀ c ∈ cts, W1.cell? ⟨c.1, 0, none⟩ = some c.2) →
    (∀ i x y W1, i < rounds.length → J i x W1 → J i y (W1.setCell ⟨cs, 0, none⟩ (.string ⟨y.toArray⟩))) →
    (∀ i x p W1, rounds[i]? = some p → J i x W1 → YieldAt Fence.wide 0 P l #[.string ⟨p.toArray⟩] W1 fun e W' => (∃ b, e = .returned (.bool b) ∧ (i + 1 < rounds.length → b = true)) ∧ J (i + 1) x W') →
    J 0 s0 W → CallsIn Fence.wide 1 P gf (#[.func (.yield l) #[] #[]] ++ lb) W fun e W' => (∃ v, e = .returned v) ∧ ∃ x, J rounds.length x W'

theorem rf_lawS {g : Operand} {ps : Array Tmp} {assign body : Code} {Q : Exit → Act → World → Prop} {a : Act} {w : World}
    {gf : Nat} {lb : Array Value} (hg : a.eval g = .func (.func gf) #[] lb) (eg : ∀ args w, (callFunc gf args).run P w = .ok (.enter gf args) w)
    {rounds : List (List UInt8)} {s0 : List UInt8} {cs : Nat} {cts : List (Nat × Value)} (hseq : SeqTx P gf lb rounds s0 cs cts) (hps : ps.size = 1) (hcs : cs < w.heap.size)
    (I : Nat → List UInt8 → World → Prop) (Ix : Nat → List UInt8 → World → Prop)
    (hI : OwnFrom w.heap.size fun (p : Nat × List UInt8) W => I p.1 p.2 W) (hIx : OwnFrom w.heap.size fun (p : Nat × List UInt8) W => Ix p.1 p.2 W) (h0 : I 0 s0 w) (hne : rounds ≠ [])
    (hread : ∀ i x W1, I i x W1 → W1.cell? ⟨cs, 0, none⟩ = some (.string ⟨x.toArray⟩) ∧ W1.frozen? ⟨cs, 0, none⟩ = false ∧ ∀ c ∈ cts, W1.cell? ⟨c.1, 0, none⟩ = some c.2)
    (hstore : ∀ i x y W1, I i x W1 → I i y (W1.setCell ⟨cs, 0, none⟩ (.string ⟨y.toArray⟩)))
    (hround : ∀ (i : Nat) (x p : List UInt8) (W : World) (r r' : Loop), rounds[i]? = some p → I i x W → W.heap[w.heap.size + 1]? = some (.loop r) → W.heap[w.heap.size]? = some (.deferred (some [])) →
      assign.wpIn (WF (some (w.heap.size + 1))) 0 P (fun ex a1 W1 => ex = .normal ∧ W1.heap[w.heap.size + 1]? = some (.loop r) ∧ body.wpIn (WF (some (w.heap.size + 1))) 0 P
        (fun ex a2 W2 => W2.heap[w.heap.size + 1]? = some (.loop r') ∧ W2.heap[w.heap.size]? = some (.deferred (some [])) ∧ ((ex = .normal ∧ I (i + 1) x W2) ∨ (∃ j, ex = .exit j ∧ i + 1 = rounds.length ∧ Ix j x W2))) a1 (W1.putObj (w.heap.size + 1) (.loop r')))
        { tmps := (ps.zip #[Value.string ⟨p.toArray⟩]).foldl (fun t (p, v) => t.setIfInBounds p v) a.tmps, defers := [] } W)
    (hdone : ∀ (x : List UInt8) (W : World), I rounds.length x W → W.heap[w.heap.size]? = some (.deferred (some [])) → Q .normal { a with defers := markOf w.heap.size :: a.defers } W)
    (hstop : ∀ (j : Nat) (x : List UInt8) (W : World), Ix j x W → W.heap[w.heap.size]? = some (.deferred (some [])) → Q (.exit j) { a with defers := markOf w.heap.size :: a.defers } W) :
    (Code.rangeFunc g ps assign body).wpIn (WF none) 0 P Q a w := by
  refine wpIn_any (n := 2) (wf_room none) (wpIn_rangeFunc ?_)
  intro fn hfn
  obtain ⟨rec, hrec⟩ : ∃ rec : LoopState → Option Code → Loop, rec = fun st pe => { state := st, pending := pe, fn, tmps := a.tmps, params := ps, assign, body, defers := w.heap.size } := ⟨_, rfl⟩
  obtain ⟨W1, hW1⟩ : ∃ W1, (w.alloc (.deferred (some []))).alloc (.loop (rec .ready none)) = W1 := ⟨_, rfl⟩
  have hL1 : W1.heap[w.heap.size + 1]? = some (.loop (rec .ready none)) := by
    rw [← hW1]; have := World.alloc_heap_new (w.alloc (.deferred (some []))) (.loop (rec .ready none)); rwa [World.size_alloc] at this
  have hK1 : W1.heap[w.heap.size]? = some (.deferred (some [])) := by
    rw [← hW1]; exact (Below.heap_alloc _ _ _ (by simp)).trans (World.alloc_heap_new w _)
  have hI1 : I 0 s0 W1 := by rw [← hW1]; exact hI.alloc (s := (0, s0)) _ (hI.alloc (s := (0, s0)) _ h0)
  refine ⟨w.heap.size + 1, [markOf w.heap.size], W1, { target := .fn (.func gf) lb, args := #[.func (.yield (w.heap.size + 1)) #[] #[]] }, W1, gf,
    #[.func (.yield (w.heap.size + 1)) #[] #[]] ++ lb, W1, ?_, ?_, fun _ _ => trivial, ?_, fun h => by simp [Fence.wide] at h, ?_⟩
  · rw [← hW1, hrec]; exact run_enterLoop_outer _ _ _ _ _
  · simp only [resolve, hg]
    simp [go_sem]
  · simp [invoke, go_sem, eg]
  · have hset : ∀ (W : World) (b : Nat) (o : Obj) (v : Value), cs < b → W.heap[b]? = some o → (W.setCell ⟨cs, 0, none⟩ v).heap[b]? = some o := by
      intro W b o v hb ho
      exact (Below.heap_setCell W _ v _ (by dsimp only; omega)).trans ho
    have hpos : 0 < rounds.length := List.length_pos_iff.2 hne
    have hs := hseq (w.heap.size + 1)
      (fun i x W => ((I i x W ∧ W.heap[w.heap.size + 1]? = some (.loop (rec .ready none))) ∨ (i = rounds.length ∧ ∃ j, Ix j x W ∧ W.heap[w.heap.size + 1]? = some (.loop (rec .done (some (.exit j)))))) ∧ W.heap[w.heap.size]? = some (.deferred (some [])))
      W1 (fun i x W hi hj => ?_) (fun i x y W hi hj => ?_) (fun i x p W hp hj => ?_) ⟨.inl ⟨hI1, hL1⟩, hK1⟩
    · refine CallsIn.mono hs ?_
      rintro e W2 ⟨⟨v, rfl⟩, x, (⟨hi, hl⟩ | ⟨_, j, hi, hl⟩), hk⟩
      · exact ⟨none, _, by have := run_endLoop (P := P) hl (by rw [hrec]; simp); rw [hrec] at this; exact this, hdone x _ (hI.putObj (s := (_, x)) _ hi (by omega) hl rfl) ((World.putObj_heap_other (by omega)).trans hk)⟩
      · refine ⟨some (.exit j), _, by have := run_endLoop (P := P) hl (by rw [hrec]; simp); rw [hrec] at this; exact this, ?_⟩
        have := hstop j x _ (hIx.putObj (s := (j, x)) (.loop { rec .done (some (.exit j)) with state := .exhausted }) hi (by omega) hl rfl) ((World.putObj_heap_other (by omega)).trans hk)
        rw [hrec] at this
        exact wpIn_exit this
    · obtain ⟨hj | ⟨h1, _⟩, _⟩ := hj
      · exact hread i x W hj.1
      · omega
    · obtain ⟨hj | ⟨h1, _⟩, hk⟩ := hj
      · exact ⟨.inl ⟨hstore i x y W hj.1, hset _ _ _ _ (by omega) hj.2⟩, hset _ _ _ _ (by omega) hk⟩
      · omega
    · have hilt : i < rounds.length := (List.getElem?_eq_some_iff.1 hp).1
      obtain ⟨⟨hi, hl⟩ | ⟨h1, _⟩, hk⟩ := hj
      rotate_left
      · omega
      have hlt : w.heap.size + 1 < W.heap.size := (Array.getElem?_eq_some_iff.1 hl).1
      have hy := run_yield (P := P) (args := #[Value.string ⟨p.toArray⟩]) hl (by rw [hrec]; simp [hps])
      rw [hrec] at hy
      refine ⟨fn, _, assign, body, hy, roundIn_of_wpIn hfn (wpIn_mono (hround i x p W _ { rec .ready none with state := .busy } hp hi hl hk) ?_)⟩
      rintro ex a1 Wa ⟨rfl, hla, hb⟩
      refine ⟨_, run_beginRound hla (by rw [hrec]), wpIn_mono hb ?_⟩
      rintro ex a2 W3 ⟨hl3, hk3, (⟨rfl, hi3⟩ | ⟨j, rfl, hlast, hi3⟩)⟩
      · have hr := run_endRound (P := P) none hl3
        refine ⟨_, _, hr, ⟨true, rfl, fun _ => rfl⟩, .inl ⟨hI.putObj (s := (i + 1, x)) _ hi3 (by omega) hl3 rfl, ?_⟩, (World.putObj_heap_other (by omega)).trans hk3⟩
        rw [World.putObj_heap_same (Array.getElem?_eq_some_iff.1 hl3).1, hrec]
        rfl
      · have hr := run_endRound (P := P) (some (.exit j)) hl3
        refine ⟨_, _, hr, ⟨false, rfl, fun h => by omega⟩, .inr ⟨hlast, j, hIx.putObj (s := (j, x)) _ hi3 (by omega) hl3 rfl, ?_⟩, (World.putObj_heap_other (by omega)).trans hk3⟩
        rw [World.putObj_heap_same (Array.getElem?_eq_some_iff.1 hl3).1, hrec]
        rfl

def RndX (m : Nat) (R : Heap → Prop) (Rx : Nat → Heap → Prop) : Ex → Env → Heap → Prop
  | .normal, e, h => ∃ h', R h' ∧ WeakF m e h [] h'
  | .exit j, e, h => ∃ h', Rx j h' ∧ WeakF m e h [] h'
  | _, _, _ => False
def NrmS (P : Program) (N m : Nat) (q : C) (R : Ex → Env → Heap → Prop) : Ex → Env → Heap → Prop
  | .normal, e, h => SC P N m q R e h
  | _, _, _ => False
theorem nr_n {N m : Nat} {q : C} {R : Ex → Env → Heap → Prop} {e : Env} {h : Heap} (k : SC P N m q R e h) : NrmS P N m q R .normal e h := k
theorem rx_n {T : Type} {m : Nat} {e : Env} {h : Heap} {hp : T → Heap} {I : T → Prop} {Rx : Nat → Heap → Prop} (s' : T) (hi : I s') (hw : WeakF m e h [] (hp s')) : RndX m (fun h' => ∃ s', I s' ∧ hp s' = h') Rx .normal e h := ⟨_, ⟨s', hi, rfl⟩, hw⟩
theorem rx_x {T : Type} {m j : Nat} {e : Env} {h : Heap} {hp : T → Heap} {A : Prop} {R : Heap → Prop} {Ix : Nat → T → Prop} (ha : A) (s' : T) (hi : Ix j s') (hw : WeakF m e h [] (hp s')) : RndX m R (fun j h' => A ∧ ∃ s', Ix j s' ∧ hp s' = h') (.exit j) e h := ⟨_, ⟨ha, s', hi, rfl⟩, hw⟩
theorem heap_cell {K : GK} {h : Heap} {w : World} (hh : HeapRel K h w) {id b : Nat} {x : HV} (hc : h[id]? = some (.cells [x])) (hr : K.rho id = some b) : ∃ v, V K w x v ∧ w.cell? ⟨b, 0, none⟩ = some v := by
  obtain ⟨_, o, h1, h2, _⟩ := hh.obj id b hr
  rw [hc] at h1; injection h1 with h1; subst h1
  obtain ⟨c, e, fr, h3, h4, h5, h6⟩ := h2
  obtain ⟨_, v, h7, h8⟩ := h6 0 x rfl
  refine ⟨v, h8, ?_⟩
  rw [cell_of_row w b 0 c e fr h3, h7]
theorem heap_store {K : GK} {h : Heap} {w : World} (hh : HeapRel K h w) {id b : Nat} {x y : List UInt8} (hc : h[id]? = some (.cells [.str x])) (hr : K.rho id = some b) :
    w.frozen? ⟨b, 0, none⟩ = false ∧ Step K w K (w.setCell ⟨b, 0, none⟩ (.string ⟨y.toArray⟩)) ∧ HeapRel K (h.set id (.cells [.str y])) (w.setCell ⟨b, 0, none⟩ (.string ⟨y.toArray⟩)) := by
  obtain ⟨w', h1, h2, h3⟩ := put_row (P := (default : Program)) (off := 0) (vs := [.str y]) (us := [.string ⟨y.toArray⟩]) hh hr hc rfl (Nat.le_refl _) (fun v hv => by simp at hv; subst hv; rfl) (fun j v u hv hu => by
    match j with
    | 0 => simp at hv hu; subst hv; subst hu; exact .str y
    | j + 1 => simp at hv)
  obtain ⟨v, _, hcell⟩ := heap_cell hh hc hr
  have h1' : stored (default : Program) w ⟨b, 0, none⟩ (.string ⟨y.toArray⟩) .plain = .ok () w' := by
    simpa [storeCells, go_sem, Sem.run_bind, Addr.add] using h1
  unfold stored at h1'
  rw [hcell] at h1'
  simp only at h1'
  by_cases hf : w.frozen? ⟨b, 0, none⟩ = true
  · rw [if_pos hf] at h1'; cases h1'
  · rw [if_neg hf] at h1'
    injection h1' with _ h1'
    subst h1'
    exact ⟨by simpa using hf, h2, h3⟩

section
variable {N m : Nat} {e : Env} {h : Heap} {QQ : Ex → Env → Heap → Prop}
theorem sc_rfunS {x : X} {t0 : Nat} {p q : C} {gf c1 c c3 : Nat} {sep s0 : List UInt8} (hx : x.ev e = some (.func gf [.ptr c1 0, .ptr c 0, .ptr c3 0]))
    (hgf : ∃ fn, P.funcs[gf]? = some fn ∧ fn.body.isSome = true ∧ fn.name ≠ "runtime.NumGoroutine") {rounds : List (List UInt8)} (hne : rounds ≠ [])
    (hs : ∀ b1 b b3 : Nat, b1 ≠ b → b3 ≠ b → SeqTx P gf #[.pointer (some ⟨b1, 0, none⟩), .pointer (some ⟨b, 0, none⟩), .pointer (some ⟨b3, 0, none⟩)] rounds s0 b [(b1, .string ⟨sep.toArray⟩), (b3, .int .i64 0)])
    (hpN : t0 < N) {X : Type} (kf : Nat) (hp : X → List UInt8 → Heap) (I : Nat → X → Prop) (Ix : Nat → X → Prop) (x0 : X) (hi0 : I 0 x0) (hin : WeakF h.length [] h [] (hp x0 s0)) (hm : ∀ s y, (hp s y).length = h.length + kf) (hpl : ∀ s y, CellsOnly (hp s y))
    (hc1 : c1 < h.length ∧ ∀ s y, (hp s y)[c1]? = some (.cells [.str sep])) (hc3 : c3 < h.length ∧ ∀ s y, (hp s y)[c3]? = some (.cells [.int .i64 0])) (hc : c < h.length ∧ ∀ s y, (hp s y)[c]? = some (.cells [.str y]))
    (hset : ∀ s y y', (hp s y).set c (.cells [.str y']) = hp s y') (hn1 : c1 ≠ c) (hn3 : c3 ≠ c) (hnp : p.noRf = true) (hnq : q.noRf = true)
    (round : ∀ i r s y, rounds[i]? = some r → I i s → SC P N (h.length + 2 * kf) p (NrmS P N (h.length + 2 * kf) q (RndX h.length (fun h' => ∃ s', I (i + 1) s' ∧ hp s' y = h') (fun j h' => i + 1 = rounds.length ∧ ∃ s', Ix j s' ∧ hp s' y = h'))) ((t0, .str r) :: e) (hp s y ++ List.replicate kf .dead))
    (k : ∀ s y, I rounds.length s → QQ .normal e (hp s y)) (kx : ∀ j s y, Ix j s → QQ (.exit j) e (hp s y)) : SC P N m (.rfun x [t0] p q) QQ e h := by
  intro ro rr ann code hcp K0 w0 K w a b s r
  obtain ⟨g, us, yc, z, rfl, hg0, hus, h1, h2⟩ := comp_from hcp
  have hro : ro = none := by
    rcases rr with rr | rr
    · exact rr
    · cases rr
  subst hro
  obtain ⟨ds, dk, r⟩ := r
  have hV := ev_sound hg0 r.env hx
  generalize hgv : a.eval g = gv at hV
  cases hV with
  | func _ _ lb hn' hlb =>
  obtain ⟨v1, v2, v3, rfl⟩ : ∃ v1 v2 v3, lb = [v1, v2, v3] := by
    match lb, hn' with
    | [v1, v2, v3], _ => exact ⟨v1, v2, v3, rfl⟩
  have p1 := hlb 0 _ v1 rfl rfl
  have p2 := hlb 1 _ v2 rfl rfl
  have p3 := hlb 2 _ v3 rfl rfl
  cases p1 with | ptr _ _ b1 hr1 =>
  cases p2 with | ptr _ _ b2 hr2 =>
  cases p3 with | ptr _ _ b3 hr3 =>
  obtain ⟨fn, hf, hb, hn⟩ := hgf
  have hBase : Base h.length K := base_of r.heap
  obtain ⟨K00, s00, r00⟩ := hin N K w K w { a with defers := [] } hBase (.refl K w) ⟨[], .nil _ _ _, r.heap, fun t x hx => by simp [Env.get] at hx, r.size, rfl⟩
  have hinj : ∀ {i j b : Nat} {A B : HObj}, K00.rho i = some b → K00.rho j = some b → (hp x0 s0)[i]? = some A → (hp x0 s0)[j]? = some B → A.live → B.live → i = j := fun a1 a2 a3 a4 a5 a6 => r00.heap.inj _ _ _ _ _ a1 a2 a3 a4 a5 a6
  have hb12 : b1 ≠ b2 := fun e => hn1 (hinj (s00.rho _ _ hr1) (e ▸ s00.rho _ _ hr2) (hc1.2 _ _) (hc.2 _ _) trivial trivial)
  have hb32 : b3 ≠ b2 := fun e => hn3 (hinj (s00.rho _ _ hr3) (e ▸ s00.rho _ _ hr2) (hc3.2 _ _) (hc.2 _ _) trivial trivial)
  have hown : ∀ {A B : World} {row : Option Nat} {K' : GK} {h' : Heap}, HeapRel K' h' A → CellsOnly h' → A.grownBy B row → (∀ rr, row = some rr → w.heap.size ≤ rr ∧ ∃ o : Obj, A.heap[rr]? = some o ∧ o.isCells = false) → Step K w K' A → Step K w K' B ∧ HeapRel K' h' B := by
    intro A B row K' h' hh' hpl' hg' hrow s'
    have md : Mild K' A B row := ⟨hg', fun rr hrr => by
      obtain ⟨_, o, ho, hoc⟩ := hrow rr hrr
      exact ⟨⟨o, ho, hoc⟩, plain_own hh' hpl' ho hoc⟩⟩
    exact ⟨md.step s' (fun rr hrr => (hrow rr hrr).1), md.heap hh' (fun b hb => hh'.limb b (Nat.le_trans md.g.size hb))⟩
  have fin : ∀ {K' : GK} {h' : Heap} {W : World} (hpl' : CellsOnly h') (s' : Step K w K' W) (hh' : HeapRel K' h' W), W.heap[w.heap.size]? = some (.deferred (some [])) → RelD N w0 K' W e h' { a with defers := markOf w.heap.size :: a.defers } := by
    intro K' h' W hpl' s' hh' hdf
    have hno : ¬ owned K' w.heap.size := plain_own hh' hpl' hdf rfl
    obtain ⟨Ds, hds, hndp, hD⟩ := dk.step s'
    refine ⟨markOf w.heap.size :: ds, ⟨w.heap.size :: Ds, by simp [hds], List.nodup_cons.2 ⟨fun hc => ?_, hndp⟩, fun D hDm => ?_⟩, hh', r.env.step s', r.size, by rw [r.defers]⟩
    · obtain ⟨Ds0, hds0, _, hD0⟩ := dk
      have : Ds = Ds0 := by
        have h9 := hds.symm.trans hds0
        exact (List.map_inj_right (f := markOf) (fun x y hxy => by simp only [markOf, Deferred.mk.injEq, Target.collected.injEq, and_true] at hxy; exact hxy)).1 h9
      subst this
      have := (Array.getElem?_eq_some_iff.1 (hD0 _ hc).2.2).1
      omega
    · rcases List.mem_cons.1 hDm with rfl | hDm
      · exact ⟨s.size, hno, hdf⟩
      · exact hD D hDm
  refine rf_lawS hgv (fun args w => run_callFunc hf hb hn args w) (hs b1 b2 b3 hb12 hb32) (by have := congrArg List.length hus; simpa using this) (r.heap.obj _ _ hr2).1
    (fun i y W => ∃ (s : X) (K' : GK), I i s ∧ Step K w K' W ∧ HeapRel K' (hp s y) W) (fun j y W => ∃ (s : X) (K' : GK), Ix j s ∧ Step K w K' W ∧ HeapRel K' (hp s y) W) ?_ ?_ ⟨x0, K00, hi0, s00, r00.heap⟩ hne ?_ ?_ ?_ ?_ ?_
  · rintro ⟨i, y⟩ A B row ⟨x', K', hi', s', hh'⟩ hg' hrow
    obtain ⟨a1, a2⟩ := hown hh' (hpl _ _) hg' hrow s'
    exact ⟨x', K', hi', a1, a2⟩
  · rintro ⟨i, y⟩ A B row ⟨x', K', hi', s', hh'⟩ hg' hrow
    obtain ⟨a1, a2⟩ := hown hh' (hpl _ _) hg' hrow s'
    exact ⟨x', K', hi', a1, a2⟩
  · rintro i y W ⟨x', K', hi', s', hh'⟩
    obtain ⟨u, hu, hcl⟩ := heap_cell hh' (hc.2 x' y) (s'.rho _ _ hr2)
    cases hu
    refine ⟨hcl, (heap_store (y := []) hh' (hc.2 x' y) (s'.rho _ _ hr2)).1, fun cc hcc => ?_⟩
    simp only [List.mem_cons, List.not_mem_nil, or_false] at hcc
    rcases hcc with rfl | rfl
    · obtain ⟨u, hu, hcl⟩ := heap_cell hh' (hc1.2 x' y) (s'.rho _ _ hr1)
      cases hu; exact hcl
    · obtain ⟨u, hu, hcl⟩ := heap_cell hh' (hc3.2 x' y) (s'.rho _ _ hr3)
      cases hu; exact hcl
  · rintro i y y' W ⟨x', K', hi', s', hh'⟩
    obtain ⟨_, a1, a2⟩ := heap_store (y := y') hh' (hc.2 x' y) (s'.rho _ _ hr2)
    rw [hset] at a2
    exact ⟨x', K', hi', s'.trans a1, a2⟩
  · rintro i y rv W rc rc' hrv ⟨x', K', hi', s', hh'⟩ hrc hdf
    have hnr : ¬ owned K' (w.heap.size + 1) := plain_own hh' (hpl _ _) hrc rfl
    have hnd' : ¬ owned K' w.heap.size := plain_own hh' (hpl _ _) hdf rfl
    have hltr := (Array.getElem?_eq_some_iff.1 hrc).1
    have hltd := (Array.getElem?_eq_some_iff.1 hdf).1
    have hb' : Base (h.length + kf) K' := by have := base_of hh'; rwa [hm] at this
    obtain ⟨Ks, hKs⟩ : ∃ Ks, parkS h.length kf K' = Ks := ⟨_, rfl⟩
    obtain ⟨Kb, hKb⟩ : ∃ Kb, parkB h.length kf K' = Kb := ⟨_, rfl⟩
    have hhs : HeapRel Ks (hp x' y ++ List.replicate kf .dead) W := hKs ▸ park_heap hh' (hm x' y)
    have ss : Step K' W Ks W := hKs ▸ park_step hb' W
    have sb : Step Kb W Ks W := by rw [← hKs, ← hKb]; exact park_stepB hb' W
    have bb : Base (h.length + 2 * kf) Kb := hKb ▸ park_base hb'
    have s1b : Step K w Kb W := hKb ▸ park_from hBase hb' s'
    have hnrb : ¬ owned Kb (w.heap.size + 1) := fun ho => hnr (ownedB (hKb ▸ ho))
    have hndb : ¬ owned Kb w.heap.size := fun ho => hnd' (ownedB (hKb ▸ ho))
    clear hKs hKb
    have hzip : (us.zip #[Value.string ⟨rv.toArray⟩]).foldl (fun (t : Array Value) (x : Nat × Value) => t.setIfInBounds x.1 x.2) a.tmps = a.tmps.setIfInBounds t0 (.string ⟨rv.toArray⟩) := by
      rw [← Array.foldl_toList, Array.toList_zip, hus]
      rfl
    have hrel : RelD N W Ks W ((t0, .str rv) :: e) (hp x' y ++ List.replicate kf .dead) { tmps := a.tmps.setIfInBounds t0 (.string ⟨rv.toArray⟩), defers := [] } :=
      ⟨[], .nil _ _ _, hhs, by
        have := fold_env (K := Ks) (w := W) (N := N) [t0] [.str rv] [.string ⟨rv.toArray⟩] e a.tmps (by simp) (by simpa using hpN) r.size rfl rfl (fun j y' v hy' hv' => by
          match j with
          | 0 => simp at hy' hv'; subst hy'; subst hv'; exact .str rv
          | j + 1 => simp at hy') (r.env.step (s'.trans ss))
        simpa using this, by simpa using r.size, rfl⟩
    have hsc := round i rv x' y hrv hi' (some (w.heap.size + 1)) (.inr hnp) ann yc h1 Kb W Ks W _ bb sb hrel
    show yc.wpIn (WF (some (w.heap.size + 1))) 0 P _ { tmps := (us.zip #[Value.string ⟨rv.toArray⟩]).foldl (fun (t : Array Value) (x : Nat × Value) => t.setIfInBounds x.1 x.2) a.tmps, defers := [] } W
    rw [hzip]
    refine wpIn_mono hsc ?_
    rintro ex a1 W1 ⟨q1, K1, e1, h1', rfl, s1, r1, hq1⟩
    cases q1 with
    | exit i => exact hq1.elim
    | ret => exact hq1.elim
    | normal =>
      have hrc1 : W1.heap[w.heap.size + 1]? = some (.loop rc) := (s1.frame _ hltr hnrb).1.trans hrc
      have hnr1 : ¬ owned K1 (w.heap.size + 1) := fun ho => hnrb (s1.own _ hltr ho)
      refine ⟨rfl, hrc1, ?_⟩
      have md1 : Mild K1 W1 (W1.putObj (w.heap.size + 1) (.loop rc')) (some (w.heap.size + 1)) := ⟨grownBy_putObj' _ _ _, fun _ e => by cases e; exact ⟨⟨_, hrc1, rfl⟩, hnr1⟩⟩
      have s1' := s1.put (o' := .loop rc') hrc rfl hnrb rfl
      obtain ⟨ds1, ⟨Ds, hds, hndp, hD⟩, r1⟩ := r1
      have hszp : ∀ (u : World), (u.putObj (w.heap.size + 1) (.loop rc')).heap.size = u.heap.size := fun u => by simp [World.putObj]
      have hrel1 : RelD N (W.putObj (w.heap.size + 1) (.loop rc')) K1 (W1.putObj (w.heap.size + 1) (.loop rc')) e1 h1' a1 := by
        refine ⟨ds1, ⟨Ds, hds, hndp, fun D hDm => ?_⟩, md1.heap r1.heap (fun b hb => r1.heap.limb b (Nat.le_trans md1.g.size hb)), md1.env r1.env, r1.size, r1.defers⟩
        obtain ⟨g1, g2, g3⟩ := hD D hDm
        refine ⟨by rw [hszp]; exact g1, g2, (World.putObj_heap_other (fun e => ?_)).trans g3⟩
        omega
      have hsc2 := hq1 (some (w.heap.size + 1)) (.inr hnq) ann z h2 Kb (W.putObj (w.heap.size + 1) (.loop rc')) K1 _ a1 bb s1' hrel1
      refine wpIn_mono hsc2 ?_
      rintro ex a2 W2 ⟨q2, K2, e2, h2', rfl, s2, r2, hq2⟩
      have md0 : Mild Kb W (W.putObj (w.heap.size + 1) (.loop rc')) (some (w.heap.size + 1)) := ⟨grownBy_putObj' _ _ _, fun _ e => by cases e; exact ⟨⟨_, hrc, rfl⟩, hnrb⟩⟩
      have s0 : Step K w Kb (W.putObj (w.heap.size + 1) (.loop rc')) := md0.step s1b (fun _ e => by cases e; omega)
      obtain ⟨ds2, dk2, r2⟩ := r2
      have g1 : W2.heap[w.heap.size + 1]? = some (.loop rc') := (s2.frame _ (by rw [hszp]; exact hltr) hnrb).1.trans (World.putObj_heap_same hltr)
      have g2 : W2.heap[w.heap.size]? = some (.deferred (some [])) := (s2.frame _ (by rw [hszp]; exact hltd) hndb).1.trans ((World.putObj_heap_other (by omega)).trans hdf)
      cases q2 with
      | ret => exact hq2.elim
      | exit j =>
        obtain ⟨h3, ⟨hlast, x3, hi3, rfl⟩, hwk⟩ := hq2
        obtain ⟨K3, s3, r3⟩ := hwk N K w K2 W2 a2 hBase (s0.trans s2) ⟨ds2, dk2.low (by rw [hszp]; exact s'.size), r2⟩
        exact ⟨g1, g2, .inr ⟨j, rfl, hlast, x3, K3, hi3, s3, r3.heap⟩⟩
      | normal =>
        obtain ⟨h3, ⟨x3, hi3, rfl⟩, hwk⟩ := hq2
        obtain ⟨K3, s3, r3⟩ := hwk N K w K2 W2 a2 hBase (s0.trans s2) ⟨ds2, dk2.low (by rw [hszp]; exact s'.size), r2⟩
        exact ⟨g1, g2, .inl ⟨rfl, x3, K3, hi3, s3, r3.heap⟩⟩
  · rintro y W ⟨x', K', hi', s', hh'⟩ hdf
    exact ⟨.normal, K', e, hp x' y, rfl, s.trans s', fin (hpl _ _) s' hh' hdf, k x' y hi'⟩
  · rintro j y W ⟨x', K', hi', s', hh'⟩ hdf
    exact ⟨.exit j, K', e, hp x' y, rfl, s.trans s', fin (hpl _ _) s' hh' hdf, kx j x' y hi'⟩
end
end Go.Hw

