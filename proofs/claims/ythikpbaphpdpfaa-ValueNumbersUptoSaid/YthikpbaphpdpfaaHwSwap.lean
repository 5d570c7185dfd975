/- Operations that may change places: what one of them does, and where it may be done. -/
import Derived.Test.YthikpbaphpdpfaaHwCode
set_option linter.unusedVariables false
set_option linter.unusedSimpArgs false
namespace Go.Hw
open Go

variable {P : Program} {base : Nat} {e : Env} {h : Heap} {k : HV → Heap → Prop}

/-- What an operation of a region whose order is drawn does to memory. -/
inductive Dat where
  | same (rd : Bool)
  | res (j : Nat) (ob : HObj)
  | tnew (n : Nat)
  | tset (id m n : Nat)
  | any (h0 h1 : Heap)
def Dat.app (base : Nat) : Dat → Heap → Heap
  | .same _, h => h
  | .res j ob, h => h.set (base + j) ob
  | .tnew n, h => h ++ [.tok n]
  | .tset id _ n, h => h.set id (.tok n)
  | .any _ h1, _ => h1
/-- It is done at h; may it be done at g? -/
def Dat.at (base : Nat) : Dat → Heap → Heap → Prop
  | .same false, _, _ => True
  | .same true, h, g => ∀ (id : Nat) (x : HObj), h[id]? = some x → x.live → g[id]? = some x
  | .res j ob, _, g => ob.live ∧ g[base + j]? = some .res
  | .tnew _, h, g => g.length = h.length
  | .tset id m _, _, g => g[id]? = some (.tok m)
  | .any h0 _, _, g => g = h0
def Dat.fits : Dat → Ef → Prop
  | .same false, _ => True
  | .same true, .read | .same true, .rdmap => True
  | .res .., .alloc => True
  | .tnew _, .tok | .tset .., .tok => True
  | .any _ _, .act => True
  | _, _ => False

/-! ### 1. one operation -/
/-- Operations that only compute. -/
theorem pure_any {o : O} (hp : efO o = .pure) (he : ∀ x y, o ≠ .eqv true .slice x y) (he' : ∀ x y, o ≠ .eqv false .slice x y) (g : Heap) : hstep base o e h k = hstep base o e g (fun v _ => k v h) := by
  cases o <;> first
    | rfl
    | (simp [efO] at hp; done)
    | (rename_i c x
       cases c <;> first
         | (simp [efO] at hp; done)
         | (simp only [hstep]
            cases hx : x.ev e with
            | none => rfl
            | some z => cases z <;> rfl))
theorem pure_det {o : O} (hp : efO o = .pure) (he : ∀ b x y, o ≠ .eqv b .slice x y) (hs : hstep base o e h k) : ∃ v, k v h ∧ ∀ k' : HV → Heap → Prop, k' v h → hstep base o e h k' := by
  cases o with
  | eqv neg kd x y =>
    simp only [hstep] at hs ⊢
    cases h1 : x.ev e with
    | none => simp only [h1] at hs
    | some a =>
    cases h2 : y.ev e with
    | none => simp only [h1, h2] at hs
    | some b =>
    simp only [h1, h2] at hs ⊢
    cases kd with
    | slice => exact absurd rfl (he neg x y)
    | agg n =>
      simp only at hs ⊢
      split at hs
      · rename_i cs ds
        cases hq : eqCells n cs ds with
        | none => simp only [hq] at hs
        | some t => simp only [hq] at hs ⊢; exact ⟨_, hs, fun k' h' => h'⟩
      · exact hs.elim
    | _ =>
      simp only at hs ⊢
      obtain ⟨h3, h4⟩ := hs
      cases a <;> cases b <;> simp only [eqsOk] at h3 <;> first
        | exact h3.elim
        | (exact ⟨_, h4 _ rfl, fun k' h' => ⟨h3, fun t ht => by simp only [HV.eqs] at ht; subst ht; exact h'⟩⟩)
        | (exact ⟨_, h4 _ rfl, fun k' h' => ⟨trivial, fun t ht => by simp only [HV.eqs] at ht; subst ht; exact h'⟩⟩)
  | pick c a b =>
    simp only [hstep] at hs ⊢
    split at hs
    · rename_i t x y _ _ _
      cases t with
      | true => exact ⟨x, hs.1 rfl, fun k' h' => ⟨fun _ => h', nofun⟩⟩
      | false => exact ⟨y, hs.2 rfl, fun k' h' => ⟨nofun, fun _ => h'⟩⟩
    · exact hs.elim
  | conv c x =>
    simp only [hstep] at hs ⊢
    split at hs <;> first
      | exact hs.elim
      | (simp [efO] at hp; done)
      | exact ⟨_, hs, fun k' h' => h'⟩
  | _ =>
    first
      | (simp [efO] at hp; done)
      | (simp only [hstep] at hs ⊢
         repeat' (split at hs)
         all_goals first
           | exact hs.elim
           | exact ⟨_, hs, fun k' h' => h'⟩
           | exact ⟨_, hs.2, fun k' h' => ⟨hs.1, h'⟩⟩
           | exact ⟨_, hs.2.2, fun k' h' => ⟨hs.1, hs.2.1, h'⟩⟩
           | (obtain ⟨h1, hs⟩ := hs; repeat' (split at hs)
              all_goals first
                | exact hs.elim
                | exact ⟨_, hs, fun k' h' => ⟨h1, h'⟩⟩
                | exact ⟨_, hs.2, fun k' h' => ⟨h1, hs.1, h'⟩⟩)
           | (obtain ⟨h1, h2, hs⟩ := hs; repeat' (split at hs)
              all_goals first
                | exact hs.elim
                | exact ⟨_, hs, fun k' h' => ⟨h1, h2, h'⟩⟩))

/-! ### 2. the slots that it reads -/
theorem ev_agree {e' : Env} {x : X} (h : ∀ t ∈ usesX x, e.get t = e'.get t) : x.ev e' = x.ev e := by
  cases x with
  | t n => exact (h n (by simp [usesX])).symm
  | c v => rfl
theorem evs_agree {e' : Env} : ∀ {xs : List X}, (∀ t ∈ xs.flatMap usesX, e.get t = e'.get t) → evs e' xs = evs e xs
  | [], _ => rfl
  | x :: r, h => by
    simp only [List.flatMap_cons, List.mem_append] at h
    simp only [evs, ev_agree (e' := e') (fun t ht => h t (.inl ht)), evs_agree (e' := e') (fun t ht => h t (.inr ht))]
theorem evParts_agree {e' : Env} : ∀ {xs : List (Nat × Nat × X)}, (∀ t ∈ xs.flatMap (fun p => usesX p.2.2), e.get t = e'.get t) → evParts e' xs = evParts e xs
  | [], _ => rfl
  | (a, b, x) :: r, h => by
    simp only [List.flatMap_cons, List.mem_append] at h
    simp only [evParts, ev_agree (e' := e') (fun t ht => h t (.inl ht)), evParts_agree (e' := e') (fun t ht => h t (.inr ht))]
theorem bnd_agree {e' : Env} {d : Int} {x : Option X} (h : ∀ t ∈ (x.map usesX).getD [], e.get t = e'.get t) : bnd e' d x = bnd e d x := by
  cases x with
  | none => rfl
  | some y => simp only [bnd, ev_agree (e' := e') (x := y) (fun t ht => h t (by simpa using ht))]
theorem step_agree {e' : Env} {o : O} (h' : ∀ t ∈ usesO o, e.get t = e'.get t) : hstep base o e' h k = hstep base o e h k := by
  cases o with
  | slice sz x lo hi mx =>
    simp only [usesO, List.mem_append] at h'
    simp only [hstep]
    have e1 : x.ev e' = x.ev e := ev_agree (fun t ht => h' t (.inl (.inl (.inl ht))))
    have e2 : ∀ d, bnd e' d lo = bnd e d lo := fun d => bnd_agree fun t ht => h' t (.inl (.inl (.inr ht)))
    have e3 : ∀ d, bnd e' d hi = bnd e d hi := fun d => bnd_agree fun t ht => h' t (.inl (.inr ht))
    have e4 : ∀ d, bnd e' d mx = bnd e d mx := fun d => bnd_agree fun t ht => h' t (.inr ht)
    rw [e1]
    simp only [e2, e3]
    cases mx with
    | none => rfl
    | some m =>
      simp only [e4]
      cases hi with
      | none => rfl
      | some y => simp only [Option.bind_some, e3]
  | slicearr n sz x lo hi =>
    simp only [usesO, List.mem_append] at h'
    simp only [hstep]
    have e1 : x.ev e' = x.ev e := ev_agree (fun t ht => h' t (.inl (.inl ht)))
    have e2 : ∀ d, bnd e' d lo = bnd e d lo := fun d => bnd_agree fun t ht => h' t (.inl (.inr ht))
    have e3 : ∀ d, bnd e' d hi = bnd e d hi := fun d => bnd_agree fun t ht => h' t (.inr ht)
    rw [e1]
    simp only [e2, e3]
  | sslice x lo hi =>
    simp only [usesO, List.mem_append] at h'
    simp only [hstep]
    have e1 : x.ev e' = x.ev e := ev_agree (fun t ht => h' t (.inl (.inl ht)))
    have e2 : ∀ d, bnd e' d lo = bnd e d lo := fun d => bnd_agree fun t ht => h' t (.inl (.inr ht))
    have e3 : ∀ d, bnd e' d hi = bnd e d hi := fun d => bnd_agree fun t ht => h' t (.inr ht)
    rw [e1]
    simp only [e2, e3]
  | pick a b c | mapset _ a b c | entryset a b c =>
    simp only [usesO, List.mem_append] at h'
    simp only [hstep, ev_agree (e' := e') (x := a) (fun t ht => h' t (.inl (.inl ht))), ev_agree (e' := e') (x := b) (fun t ht => h' t (.inl (.inr ht))), ev_agree (e' := e') (x := c) (fun t ht => h' t (.inr ht))]
  | store _ a b | bin _ a b | eqv _ _ a b | iaddr _ a b | iaddrarr _ _ a b | index a b | indexarr _ _ _ a b | lookup _ _ _ a b | mapentry _ _ a b | mapdel _ a b | append _ _ a b | appendarr _ _ a b | copy _ a b | mkslice _ _ _ _ a b =>
    simp only [usesO, List.mem_append] at h'
    simp only [hstep, ev_agree (e' := e') (x := a) (fun t ht => h' t (.inl ht)), ev_agree (e' := e') (x := b) (fun t ht => h' t (.inr ht))]
  | mv a | box _ _ a | load _ a | nilck a | un _ a | conv _ a | faddr _ _ a | field _ _ a | extract a _ | len _ a | maplen a | range _ a | next _ a | entry a | mkif _ a | isnil _ a =>
    simp only [usesO] at h'
    simp only [hstep, ev_agree (e' := e') (x := a) h']
  | mklist _ xs | mkfunc _ xs | min xs | max xs =>
    simp only [usesO] at h'
    simp only [hstep, evs_agree (e' := e') (xs := xs) h']
  | build _ xs =>
    simp only [usesO] at h'
    simp only [hstep, evParts_agree (e' := e') (xs := xs) h']
  | alloc _ _ => rfl
  | mkmap _ => rfl
  | lenc _ => rfl
  | bad => rfl

/-! ### 3. what it does to memory -/
theorem cells_some {h : Heap} {id : Nat} {cs : List HV} (hc : Heap.cells h id = some cs) : h[id]? = some (.cells cs) := by
  unfold Heap.cells at hc
  split at hc
  · rename_i x hx; injection hc with hc; subst hc; exact hx
  · cases hc
theorem mapAt_some {h : Heap} {id : Nat} {es : List (Nat × HV × HV) × Nat} (hc : Heap.mapAt h id = some es) : h[id]? = some (.map es.1 es.2) := by
  unfold Heap.mapAt at hc
  split at hc
  · rename_i x hx; injection hc with hc; subst hc; exact hx
  · cases hc
theorem tokAt_some {h : Heap} {id n : Nat} (hc : Heap.tokAt h id = some n) : h[id]? = some (.tok n) := by
  unfold Heap.tokAt at hc
  split at hc
  · rename_i x hx; injection hc with hc; subst hc; exact hx
  · cases hc
def Keeps (h g : Heap) : Prop := ∀ (id : Nat) (x : HObj), h[id]? = some x → x.live → g[id]? = some x
theorem cells_keep {g : Heap} (hk : Keeps h g) {id : Nat} {cs : List HV} (hc : Heap.cells h id = some cs) : Heap.cells g id = some cs := by
  have := hk id _ (cells_some hc) trivial
  simp [Heap.cells, this]
theorem mapAt_keep {g : Heap} (hk : Keeps h g) {id : Nat} {es : List (Nat × HV × HV) × Nat} (hc : Heap.mapAt h id = some es) : Heap.mapAt g id = some es := by
  have := hk id _ (mapAt_some hc) trivial
  simp [Heap.mapAt, this]
theorem read_dat {o : O} (hp : efO o = .read ∨ efO o = .rdmap) (hs : hstep base o e h k) : ∃ v, k v h ∧ ∀ (g : Heap) (k' : HV → Heap → Prop), Keeps h g → k' v g → hstep base o e g k' := by
  cases o with
  | load n x =>
    simp only [hstep] at hs ⊢
    split at hs
    · split at hs
      · rename_i v hv
        exact ⟨v, hs, fun g k' _ hk => hk⟩
      · exact hs.elim
    · rename_i id off _
      split at hs
      · rename_i cs hcs
        split at hs
        · rename_i v hv
          exact ⟨v, hs, fun g k' hg hk => by simp only [cells_keep hg hcs, hv]; exact hk⟩
        · exact hs.elim
      · exact hs.elim
    · exact hs.elim
  | slicearr n sz x lo hi =>
    simp only [hstep] at hs ⊢
    split at hs
    · split at hs
      · rename_i a b cs h1 h2 hcs
        exact ⟨_, hs.2, fun g k' hg hk => by simp only [cells_keep hg hcs, h1, h2]; exact ⟨hs.1, hk⟩⟩
      · exact hs.elim
    · exact hs.elim
  | conv c x =>
    cases c <;> simp [efO] at hp
    simp only [hstep] at hs ⊢
    split at hs
    · rename_i he _; cases he
    · rename_i he _; cases he
    · rename_i he _; cases he
    · exact ⟨_, hs.2, fun g k' _ hk => ⟨hs.1, hk⟩⟩
    · split at hs
      · rename_i cs hcs
        exact ⟨_, hs.2, fun g k' hg hk => by simp only [cells_keep hg hcs]; exact ⟨hs.1, hk⟩⟩
      · exact hs.elim
    · exact hs.elim
  | lookup kd z ok x i =>
    simp only [hstep] at hs ⊢
    split at hs
    · split at hs
      · rename_i es c hes
        obtain ⟨hself, hs⟩ := hs
        split at hs
        · rename_i j hj
          split at hs
          · rename_i v hv
            exact ⟨_, hs, fun g k' hg hk => by simp only [mapAt_keep hg hes, hj, hv]; exact ⟨hself, hk⟩⟩
          · exact hs.elim
        · rename_i hj
          exact ⟨_, hs, fun g k' hg hk => by simp only [mapAt_keep hg hes, hj]; exact ⟨hself, hk⟩⟩
        · exact hs.elim
      · exact hs.elim
    · exact ⟨_, hs.2, fun g k' _ hk => ⟨hs.1, hk⟩⟩
    · exact hs.elim
  | maplen x =>
    simp only [hstep] at hs ⊢
    split at hs
    · split at hs
      · rename_i es c hes
        exact ⟨_, hs, fun g k' hg hk => by simp only [mapAt_keep hg hes]; exact hk⟩
      · exact hs.elim
    · exact ⟨_, hs, fun g k' _ hk => hk⟩
    · exact hs.elim
  | _ => simp [efO] at hp

theorem hnew_dat {r : Option Nat} (hr : r.isSome = true) {ob : HObj} (hl : ob.live) {f : Nat → HV} (hs : hnew base r h ob fun i h' => k (f i) h') : ∃ v d, Dat.fits d .alloc ∧ d.at base h h ∧ k v (d.app base h) ∧ ∀ (g : Heap) (k' : HV → Heap → Prop), d.at base h g → k' v (d.app base g) → hnew base r g ob fun i h' => k' (f i) h' := by
  cases r with
  | none => cases hr
  | some j => exact ⟨f (base + j), .res j ob, trivial, ⟨hl, hs.1⟩, hs.2, fun g k' hg hk => ⟨hg.2, hk⟩⟩
/-- Places for what is made: given within the region. -/
def placed : O → Prop
  | .alloc r _ | .box r _ _ | .mkmap r | .mkslice r _ _ _ _ _ => r.isSome = true
  | _ => True
theorem alloc_dat {o : O} (hp : efO o = .alloc) (hr : placed o) (hs : hstep base o e h k) : ∃ v d, Dat.fits d .alloc ∧ d.at base h h ∧ k v (d.app base h) ∧ ∀ (g : Heap) (k' : HV → Heap → Prop), d.at base h g → k' v (d.app base g) → hstep base o e g k' := by
  cases o with
  | alloc r z => exact hnew_dat (f := fun i => .ptr i 0) (ob := .cells z) hr trivial hs
  | mkmap r => exact hnew_dat (f := fun i => .map i) (ob := .map [] 0) hr trivial hs
  | box r n x =>
    simp only [hstep] at hs ⊢
    split at hs
    · obtain ⟨v, d, h1, h2, h3, h4⟩ := hnew_dat (f := fun i => .ptr i 0) hr (ob := .cells _) trivial hs.2
      exact ⟨v, d, h1, h2, h3, fun g k' hg hk => ⟨hs.1, h4 g k' hg hk⟩⟩
    · exact hs.elim
  | mkslice r sz by_ z l c =>
    simp only [hstep] at hs ⊢
    split at hs
    · rename_i n m _ _
      obtain ⟨v, d, h1, h2, h3, h4⟩ := hnew_dat (f := fun i => .arr i 0 n.toNat sz) hr (ob := .cells _) trivial hs.2
      exact ⟨v, d, h1, h2, h3, fun g k' hg hk => ⟨hs.1, h4 g k' hg hk⟩⟩
    · exact hs.elim
  | conv c x => cases c <;> simp [efO] at hp
  | _ => simp [efO] at hp

theorem happend_dat {sz by_ : Nat} {hs ys : List HV} {tok : Tok} (ha : happend sz by_ h hs tok ys k) : ∃ v d, Dat.fits d .tok ∧ d.at base h h ∧ k v (d.app base h) ∧ ∀ (g : Heap) (k' : HV → Heap → Prop), d.at base h g → k' v (d.app base g) → happend sz by_ g hs tok ys k' := by
  obtain ⟨h1, h2⟩ := ha
  cases tok with
  | none => exact ⟨_, .same false, trivial, trivial, h2.2, fun g k' _ hk => ⟨h1, h2.1, hk⟩⟩
  | full => exact ⟨_, .tnew _, trivial, rfl, h2.2, fun g k' hg hk => ⟨h1, h2.1, by rw [show g.length = h.length from hg]; exact hk⟩⟩
  | own id off z =>
    obtain ⟨h2, h3, h4⟩ := h2
    exact ⟨_, .tset id _ _, trivial, tokAt_some h3, h4, fun g k' hg hk => ⟨h1, h2, by simp [Heap.tokAt, show g[id]? = _ from hg], hk⟩⟩
theorem tok_dat {o : O} (hp : efO o = .tok) (hs : hstep base o e h k) : ∃ v d, Dat.fits d .tok ∧ d.at base h h ∧ k v (d.app base h) ∧ ∀ (g : Heap) (k' : HV → Heap → Prop), d.at base h g → k' v (d.app base g) → hstep base o e g k' := by
  cases o with
  | append sz by_ s x =>
    simp only [hstep] at hs ⊢
    split at hs
    · obtain ⟨v, d, h1, h2, h3, h4⟩ := happend_dat (base := base) hs.1
      exact ⟨v, d, h1, h2, h3, fun g k' hg hk => ⟨h4 g k' hg hk, hs.2⟩⟩
    · obtain ⟨v, d, h1, h2, h3, h4⟩ := happend_dat (base := base) hs.2
      exact ⟨v, d, h1, h2, h3, fun g k' hg hk => ⟨hs.1, h4 g k' hg hk⟩⟩
    · exact hs.elim
  | conv c x =>
    cases c <;> simp [efO] at hp
    simp only [hstep] at hs ⊢
    split at hs
    · rename_i he _; cases he
    · rename_i he _; cases he
    · exact ⟨_, .tnew _, trivial, rfl, hs, fun g k' hg hk => by rw [show g.length = h.length from hg]; exact hk⟩
    · rename_i he _; cases he
    · rename_i he _; cases he
    · exact hs.elim
  | _ => simp [efO] at hp

theorem act_det {o : O} (hp : efO o = .act) (hnx : ∀ x, o ≠ .next false x) (hs : hstep base o e h k) : ∃ v h', k v h' ∧ ∀ (k' : HV → Heap → Prop), k' v h' → hstep base o e h k' := by
  cases o with
  | conv c x => cases c <;> simp [efO] at hp
  | store n a x =>
    simp only [hstep] at hs ⊢
    split at hs
    · split at hs
      · exact ⟨_, _, hs.2, fun k' hk => ⟨hs.1, hk⟩⟩
      · exact hs.elim
    · exact hs.elim
  | mapset kd m x y =>
    simp only [hstep] at hs ⊢
    split at hs
    · split at hs
      · obtain ⟨h1, hs⟩ := hs
        split at hs
        · split at hs
          · exact ⟨_, _, hs, fun k' hk => ⟨h1, hk⟩⟩
          · exact hs.elim
        · exact ⟨_, _, hs, fun k' hk => ⟨h1, hk⟩⟩
        · exact hs.elim
      · exact hs.elim
    · exact hs.elim
  | mapentry kd z m x =>
    simp only [hstep] at hs ⊢
    split at hs
    · split at hs
      · obtain ⟨h1, hs⟩ := hs
        split at hs
        · split at hs
          · exact ⟨_, _, hs, fun k' hk => ⟨h1, hk⟩⟩
          · exact hs.elim
        · exact ⟨_, _, hs, fun k' hk => ⟨h1, hk⟩⟩
        · exact hs.elim
      · exact hs.elim
    · exact hs.elim
  | entryset m x y =>
    simp only [hstep] at hs ⊢
    split at hs
    · split at hs
      · obtain ⟨h1, hs⟩ := hs
        split at hs
        · split at hs
          · exact ⟨_, _, hs, fun k' hk => ⟨h1, hk⟩⟩
          · exact hs.elim
        · exact hs.elim
      · exact hs.elim
    · exact hs.elim
  | mapdel kd m x =>
    simp only [hstep] at hs ⊢
    split at hs
    · split at hs
      · obtain ⟨h1, hs⟩ := hs
        split at hs
        · exact ⟨_, _, hs, fun k' hk => ⟨h1, hk⟩⟩
        · exact ⟨_, _, hs, fun k' hk => ⟨h1, hk⟩⟩
        · exact hs.elim
      · exact hs.elim
    · exact hs.elim
  | range st x =>
    simp only [hstep] at hs ⊢
    split at hs
    · exact ⟨_, _, hs, fun k' hk => hk⟩
    · exact ⟨_, _, hs, fun k' hk => hk⟩
    · split at hs
      · exact ⟨_, _, hs, fun k' hk => hk⟩
      · exact hs.elim
    · exact hs.elim
  | next st x =>
    cases st with
    | false => exact absurd rfl (hnx x)
    | true =>
    simp only [hstep] at hs ⊢
    split at hs
    · split at hs
      · split at hs
        · rename_i hlt
          exact ⟨_, _, hs, fun k' hk => by rw [if_pos hlt]; exact hk⟩
        · rename_i hlt
          exact ⟨_, _, hs, fun k' hk => by rw [if_neg hlt]; exact hk⟩
      · rename_i he _; cases he
      · rename_i he _; cases he
      · exact hs.elim
    · exact hs.elim
  | entry x =>
    simp only [hstep] at hs ⊢
    split at hs
    · split at hs
      · split at hs
        · obtain ⟨h1, hs⟩ := hs
          split at hs
          · exact ⟨_, _, hs, fun k' hk => ⟨h1, hk⟩⟩
          · exact hs.elim
        · exact hs.elim
      · exact hs.elim
    · exact hs.elim
  | bad => exact hs.elim
  | copy => exact hs.elim
  | appendarr => exact hs.elim
  | _ => simp [efO] at hp

/-- An operation of a region whose order is drawn, ahead of all that acts. -/
def quiet : OC → Prop
  | .op o => placed o ∧ (∀ b x y, o ≠ .eqv b .slice x y) ∧ ∀ x, o ≠ .next false x
  | .call .. => True
  | .callv .. => True
theorem call_dat {o : OC} (hq : quiet o) (hs : hcall (DCalls P) base o e h k) : ∃ v d, Dat.fits d (efOC o) ∧ d.at base h h ∧ k v (d.app base h) ∧
    ∀ (e' : Env) (g : Heap) (k' : HV → Heap → Prop), (∀ t ∈ usesOC o, e.get t = e'.get t) → d.at base h g → k' v (d.app base g) → hcall (DCalls P) base o e' g k' := by
  cases o with
  | callv f xs =>
    simp only [hcall] at hs ⊢
    split at hs
    · rename_i g caps vs hf hvs
      obtain ⟨r, hp, hk⟩ := hs
      refine ⟨r, .same false, trivial, trivial, hk, fun e' g' k' he _ hk' => ?_⟩
      rw [ev_agree (e := e) (e' := e') (x := f) (fun t ht => he t (by simp [usesOC, ht])), evs_agree (e := e) (e' := e') (xs := xs) (fun t ht => he t (by simp [usesOC] at ht ⊢; exact .inr ht)), hf, hvs]
      exact ⟨r, hp, hk'⟩
    · exact hs.elim
  | call f xs =>
    simp only [hcall] at hs ⊢
    split at hs
    · rename_i vs hvs
      obtain ⟨r, hp, hk⟩ := hs
      refine ⟨r, .same false, trivial, trivial, hk, fun e' g k' he _ hk' => ?_⟩
      rw [evs_agree (e := e) (e' := e') (xs := xs) he, hvs]
      exact ⟨r, hp, hk'⟩
    · exact hs.elim
  | op o =>
    obtain ⟨hpl, hsl, hnx⟩ := hq
    have go : (∃ v d, Dat.fits d (efO o) ∧ d.at base h h ∧ k v (d.app base h) ∧ ∀ (g : Heap) (k' : HV → Heap → Prop), d.at base h g → k' v (d.app base g) → hstep base o e g k') → ∃ v d, Dat.fits d (efOC (.op o)) ∧ d.at base h h ∧ k v (d.app base h) ∧
        ∀ (e' : Env) (g : Heap) (k' : HV → Heap → Prop), (∀ t ∈ usesOC (.op o), e.get t = e'.get t) → d.at base h g → k' v (d.app base g) → hcall (DCalls P) base (.op o) e' g k' := by
      rintro ⟨v, d, h1, h2, h3, h4⟩
      refine ⟨v, d, h1, h2, h3, fun e' g k' he hg hk => ?_⟩
      show hstep base o e' g k'
      rw [step_agree (e := e) (e' := e') he]
      exact h4 g k' hg hk
    have hs' : hstep base o e h k := hs
    cases hef : efO o with
    | pure =>
      obtain ⟨v, h1, h2⟩ := pure_det hef hsl hs'
      refine go ⟨v, .same false, trivial, trivial, h1, fun g k' _ hk => ?_⟩
      rw [pure_any (base := base) (e := e) (h := g) (k := k') hef (hsl true) (hsl false) h]
      exact h2 (fun v _ => k' v g) hk
    | read =>
      obtain ⟨v, h1, h2⟩ := read_dat (.inl hef) hs'
      exact go ⟨v, .same true, by rw [hef]; trivial, fun _ _ h _ => h, h1, fun g k' hg hk => h2 g k' hg hk⟩
    | rdmap =>
      obtain ⟨v, h1, h2⟩ := read_dat (.inr hef) hs'
      exact go ⟨v, .same true, by rw [hef]; trivial, fun _ _ h _ => h, h1, fun g k' hg hk => h2 g k' hg hk⟩
    | alloc => exact go (hef ▸ alloc_dat hef hpl hs')
    | tok => exact go (hef ▸ tok_dat hef hs')
    | pcall => exact absurd hef (by cases o <;> first | (simp [efO]; done) | (rename_i c _; cases c <;> simp [efO]))
    | act =>
      obtain ⟨v, h', h1, h2⟩ := act_det hef hnx hs'
      exact go ⟨v, .any h h', by rw [hef]; trivial, rfl, h1, fun g k' hg hk => by rw [show g = h from hg]; exact h2 k' hk⟩

/-! ### 4. two of them change places -/
theorem set_keeps {id : Nat} {o x : HObj} (hx : h[id]? = some x) (hl : ¬ x.live) : Keeps h (h.set id o) := by
  intro j y hy hyl
  rw [List.getElem?_set]
  split
  · rename_i e1; subst e1; rw [hx] at hy; injection hy with hy; subst hy; exact absurd hyl hl
  · exact hy
theorem get_lt {h : Heap} {id : Nat} {x : HObj} (hx : h[id]? = some x) : id < h.length := by
  rcases Nat.lt_or_ge id h.length with h1 | h1
  · exact h1
  · rw [List.getElem?_eq_none h1] at hx; cases hx
theorem dat_swap {x y : Ef} {c d : Dat} (hs : swaps x y = true) (hc : c.fits x) (hd : d.fits y) (h1 : c.at base h h) (h2 : d.at base (c.app base h) (c.app base h)) :
    d.at base (c.app base h) h ∧ c.at base h (d.app base h) ∧ d.app base (c.app base h) = c.app base (d.app base h) := by
  cases c with
  | same rd =>
    simp only [Dat.app] at h2 ⊢
    refine ⟨h2, ?_, trivial⟩
    cases rd with
    | false => trivial
    | true =>
      cases d with
      | same _ => exact fun _ _ h _ => h
      | res j ob => exact set_keeps h2.2 (by simp [HObj.live])
      | tnew n => intro id z hz _; simp only [Dat.app]; rw [List.getElem?_append_left (get_lt hz)]; exact hz
      | tset id m n => exact set_keeps h2 (by simp [HObj.live])
      | any h0 h1' => cases y <;> simp [Dat.fits] at hd <;> cases x <;> simp [Dat.fits] at hc <;> simp [swaps] at hs
  | res j ob =>
    obtain ⟨hl, hr⟩ := h1
    cases x <;> simp only [Dat.fits] at hc
    simp only [Dat.app] at h2 ⊢
    cases d with
    | same rd =>
      cases rd with
      | false => exact ⟨trivial, ⟨hl, hr⟩, rfl⟩
      | true => cases y <;> simp [Dat.fits] at hd <;> simp [swaps] at hs
    | res j' ob' =>
      have hne : base + j ≠ base + j' := by
        intro e1
        have := h2.2
        rw [← e1, List.getElem?_set] at this
        simp only [if_true, get_lt hr] at this
        injection this with this
        subst this
        exact hl.elim
      have h3 : h[base + j']? = some .res := by
        have := h2.2
        rwa [List.getElem?_set, if_neg hne] at this
      refine ⟨⟨h2.1, h3⟩, ⟨hl, ?_⟩, ?_⟩
      · simp only [Dat.app]; rw [List.getElem?_set, if_neg (Ne.symm hne)]; exact hr
      · simp only [Dat.app]; exact List.set_comm _ _ hne
    | tnew n =>
      simp only [Dat.at, List.length_set] at h2 ⊢
      refine ⟨trivial, ⟨hl, ?_⟩, ?_⟩
      · rw [List.getElem?_append_left (get_lt hr)]; exact hr
      · rw [List.set_append_left _ _ (get_lt hr)]
    | tset id m n =>
      simp only [Dat.at] at h2 ⊢
      have hne : base + j ≠ id := by
        intro e1
        rw [← e1, List.getElem?_set] at h2
        simp only [if_true, get_lt hr] at h2
        injection h2 with h2
        subst h2
        exact hl.elim
      rw [List.getElem?_set, if_neg hne] at h2
      refine ⟨h2, ⟨hl, ?_⟩, ?_⟩
      · rw [List.getElem?_set, if_neg (Ne.symm hne)]; exact hr
      · exact List.set_comm _ _ hne
    | any h0 h1' => cases y <;> simp [Dat.fits] at hd <;> simp [swaps] at hs
  | tnew n =>
    cases x <;> simp only [Dat.fits] at hc
    simp only [Dat.app] at h2 ⊢
    cases d with
    | same rd =>
      cases rd with
      | false => exact ⟨trivial, rfl, rfl⟩
      | true =>
        refine ⟨fun id z hz hzl => ?_, rfl, rfl⟩
        rw [List.getElem?_append] at hz
        split at hz
        · exact hz
        · rename_i hlt
          cases hq : id - h.length with
          | zero => rw [hq] at hz; simp at hz; subst hz; exact hzl.elim
          | succ q => rw [hq] at hz; simp at hz
    | res j ob =>
      obtain ⟨hl, hr⟩ := h2
      have hlt : base + j < h.length := by
        rw [List.getElem?_append] at hr
        split at hr
        · assumption
        · cases hq : base + j - h.length with
          | zero => rw [hq] at hr; simp at hr
          | succ q => rw [hq] at hr; simp at hr
      rw [List.getElem?_append_left hlt] at hr
      refine ⟨⟨hl, hr⟩, by simp [Dat.app, Dat.at], ?_⟩
      simp only [Dat.app]; rw [List.set_append_left _ _ hlt]
    | tnew m => cases y <;> simp [Dat.fits] at hd <;> simp [swaps] at hs
    | tset id m q => cases y <;> simp [Dat.fits] at hd <;> simp [swaps] at hs
    | any h0 h1' => cases y <;> simp [Dat.fits] at hd <;> simp [swaps] at hs
  | tset id m n =>
    cases x <;> simp only [Dat.fits] at hc
    have h1' : h[id]? = some (.tok m) := h1
    simp only [Dat.app] at h2 ⊢
    cases d with
    | same rd =>
      cases rd with
      | false => exact ⟨trivial, h1, rfl⟩
      | true =>
        refine ⟨fun j z hz hzl => ?_, h1, rfl⟩
        rw [List.getElem?_set] at hz
        split at hz
        · rename_i e1
          subst e1
          simp only [get_lt h1', if_true] at hz
          injection hz with hz
          subst hz
          exact hzl.elim
        · exact hz
    | res j ob =>
      obtain ⟨hl, hr⟩ := h2
      have hne : id ≠ base + j := by
        intro e1
        rw [e1, List.getElem?_set] at hr
        simp only [if_true, ← e1, get_lt h1'] at hr
        injection hr with hr
        cases hr
      rw [List.getElem?_set, if_neg hne] at hr
      refine ⟨⟨hl, hr⟩, ?_, ?_⟩
      · simp only [Dat.app, Dat.at]; rw [List.getElem?_set, if_neg (Ne.symm hne)]; exact h1'
      · simp only [Dat.app]; exact List.set_comm _ _ hne
    | tnew m => cases y <;> simp [Dat.fits] at hd <;> simp [swaps] at hs
    | tset id m q => cases y <;> simp [Dat.fits] at hd <;> simp [swaps] at hs
    | any h0 h1' => cases y <;> simp [Dat.fits] at hd <;> simp [swaps] at hs
  | any h0 h1' =>
    cases x <;> simp only [Dat.fits] at hc
    cases d with
    | same rd =>
      cases rd with
      | false => exact ⟨trivial, h1, rfl⟩
      | true => cases y <;> simp [Dat.fits] at hd <;> simp [swaps] at hs
    | _ => cases y <;> simp [Dat.fits] at hd <;> simp [swaps] at hs

/-! ### 5. with guards -/
def hop1 (S : CallP) (base : Nat) (o : Op) (e : Env) (h : Heap) (k : HV → Heap → Prop) : Prop :=
  match o.guard with
  | none => hcall S base o.o e h k
  | some (t, b) => match e.get t with
    | some (.bool c) => (c = b → hcall S base o.o e h k) ∧ (c ≠ b → k (.tuple []) h)
    | some (.tuple []) => k (.tuple []) h
    | _ => False
theorem hops_cons {S : CallP} {o : Op} {r : List Op} {Q : Env → Heap → Prop} : hops S base (o :: r) e h Q = hop1 S base o e h fun v h' => hops S base r (e.put o.dst v) h' Q := by
  unfold hop1
  simp only [hops]
  rfl
theorem op_dat {o : Op} (hq : quiet o.o) (hs : hop1 (DCalls P) base o e h k) : ∃ v d, Dat.fits d (efOC o.o) ∧ d.at base h h ∧ k v (d.app base h) ∧
    ∀ (e' : Env) (g : Heap) (k' : HV → Heap → Prop), (∀ t ∈ usesOp o, e.get t = e'.get t) → d.at base h g → k' v (d.app base g) → hop1 (DCalls P) base o e' g k' := by
  unfold hop1 at hs ⊢
  cases hg : o.guard with
  | none =>
    simp only [hg] at hs
    obtain ⟨v, d, h1, h2, h3, h4⟩ := call_dat hq hs
    exact ⟨v, d, h1, h2, h3, fun e' g k' he hgg hk => h4 e' g k' (fun t ht => he t (by simp [usesOp, hg, ht])) hgg hk⟩
  | some p =>
    obtain ⟨t, b⟩ := p
    simp only [hg] at hs
    have hte : ∀ e' : Env, (∀ u ∈ usesOp o, e.get u = e'.get u) → e'.get t = e.get t := fun e' he => (he t (by simp [usesOp, hg])).symm
    cases hgt : e.get t with
    | none => simp only [hgt] at hs
    | some z =>
      simp only [hgt] at hs
      split at hs
      · rename_i c hz
        injection hz with hz
        subst hz
        by_cases hcb : c = b
        · obtain ⟨v, d, h1, h2, h3, h4⟩ := call_dat hq (hs.1 hcb)
          refine ⟨v, d, h1, h2, h3, fun e' g k' he hgg hk => ?_⟩
          simp only [hte e' he, hgt]
          exact ⟨fun _ => h4 e' g k' (fun t ht => he t (by simp [usesOp, hg, ht])) hgg hk, fun hn => absurd hcb hn⟩
        · refine ⟨.tuple [], .same false, trivial, trivial, hs.2 hcb, fun e' g k' he _ hk => ?_⟩
          simp only [hte e' he, hgt]
          exact ⟨fun hn => absurd hn hcb, fun _ => hk⟩
      · rename_i hz
        injection hz with hz
        subst hz
        refine ⟨.tuple [], .same false, trivial, trivial, hs, fun e' g k' he _ hk => ?_⟩
        simp only [hte e' he, hgt]
        exact hk
      · exact hs.elim

/-! ### 6. one of them moves to the front -/
def EE (e e' : Env) : Prop := ∀ t, e.get t = e'.get t
theorem EE.put {e' : Env} (he : EE e e') (dst : Option Nat) (v : HV) : EE (e.put dst v) (e'.put dst v) := by
  intro t
  cases dst with
  | none => exact he t
  | some d => simp only [Env.put, Env.get, he t]
theorem get_put {dst : Option Nat} {v : HV} {t : Nat} (ht : dst ≠ some t) : (e.put dst v).get t = e.get t := by
  cases dst with
  | none => rfl
  | some d => simp only [Env.put, Env.get]; rw [if_neg (fun h => ht (by rw [h]))]
def Upto (Q : Env → Heap → Prop) : Env → Heap → Prop := fun e h => ∃ e', EE e' e ∧ Q e' h
theorem hops_env : ∀ {ops : List Op} {e e' : Env} {h : Heap} {Q : Env → Heap → Prop}, (∀ o ∈ ops, quiet o.o) → EE e e' → hops (DCalls P) base ops e h Q → hops (DCalls P) base ops e' h (Upto Q)
  | [], e, e', h, Q, _, he, hq => ⟨e, he, hq⟩
  | o :: r, e, e', h, Q, hall, he, hq => by
    rw [hops_cons] at hq ⊢
    obtain ⟨v, d, h1, h2, h3, h4⟩ := op_dat (hall o (by simp)) hq
    exact h4 e' h _ (fun t _ => he t) h2 (hops_env (fun x hx => hall x (by simp [hx])) (he.put o.dst v) h3)
theorem Upto.idem {Q : Env → Heap → Prop} (x : Upto (Upto Q) e h) : Upto Q e h := by
  obtain ⟨e1, h1, e2, h2, hq⟩ := x
  exact ⟨e2, fun t => (h2 t).trans (h1 t), hq⟩
theorem hops_mono : ∀ {ops : List Op} {e : Env} {h : Heap} {Q R : Env → Heap → Prop}, (∀ o ∈ ops, quiet o.o) → (∀ e h, Q e h → R e h) → hops (DCalls P) base ops e h Q → hops (DCalls P) base ops e h R
  | [], e, h, Q, R, _, hQR, hq => hQR e h hq
  | o :: r, e, h, Q, R, hall, hQR, hq => by
    rw [hops_cons] at hq ⊢
    obtain ⟨v, d, h1, h2, h3, h4⟩ := op_dat (hall o (by simp)) hq
    exact h4 e h _ (fun t _ => rfl) h2 (hops_mono (fun x hx => hall x (by simp [hx])) hQR h3)
def canSwap (x y : Op) : Prop := swaps (efOC x.o) (efOC y.o) = true ∧ indep x y = true
theorem hops_front : ∀ {pre post : List Op} {y : Op} {e : Env} {h : Heap} {Q : Env → Heap → Prop}, (∀ o ∈ pre ++ y :: post, quiet o.o) → (∀ x ∈ pre, canSwap x y) → hops (DCalls P) base (pre ++ y :: post) e h Q → hops (DCalls P) base (y :: (pre ++ post)) e h (Upto Q)
  | [], post, y, e, h, Q, hall, _, hq => hops_env hall (fun _ => rfl) hq
  | x :: pre, post, y, e, h, Q, hall, hsw, hq => by
    have hpost : ∀ o ∈ pre ++ post, quiet o.o := fun o ho => hall o (by simp at ho ⊢; rcases ho with h | h <;> simp [h])
    rw [List.cons_append, hops_cons] at hq
    obtain ⟨v, c, h1, h2, h3, h4⟩ := op_dat (hall x (by simp)) hq
    have h5 := hops_front (fun o ho => hall o (by simp at ho ⊢; exact .inr ho)) (fun o ho => hsw o (by simp [ho])) h3
    rw [hops_cons] at h5
    obtain ⟨u, d, k1, k2, k3, k4⟩ := op_dat (hall y (by simp)) h5
    obtain ⟨hs, hind⟩ := hsw x (by simp)
    obtain ⟨s1, s2, s3⟩ := dat_swap hs h1 k1 h2 k2
    simp only [indep, Bool.and_eq_true] at hind
    rw [hops_cons]
    refine k4 e h _ (fun t ht => ?_) s1 ?_
    · refine get_put ?_
      intro hd
      have := hind.1
      rw [hd] at this
      simp at this
      exact this.1 ht
    · rw [List.cons_append, hops_cons]
      refine h4 (e.put y.dst u) (d.app base h) _ (fun t ht => ?_) s2 ?_
      · refine (get_put ?_).symm
        intro hd
        have := hind.2
        rw [hd] at this
        simp at this
        exact this ht
      · rw [← s3]
        refine hops_mono hpost (fun _ _ hx => Upto.idem hx) (hops_env hpost ?_ k3)
        intro t
        cases hx : x.dst with
        | none => rfl
        | some a =>
          cases hy : y.dst with
          | none => rfl
          | some b =>
            have hab : a ≠ b := by
              intro hab
              have := hind.1
              rw [hx, hy] at this
              simp [hab] at this
            simp only [Env.put, Env.get]
            by_cases ha : a = t
            · subst ha; simp [Ne.symm hab]
            · by_cases hb : b = t
              · subst hb; simp [hab]
              · simp [ha, hb]
end Go.Hw
