/- How the values of Hw lie in the model's memory, and what stays when memory changes. -/
import Derived.Test.YthikpbaphpdpfaaHwWp
import Derived.Laws.AppendOwn
import Derived.Laws.NewBlocks
set_option linter.unusedVariables false
namespace Go.Hw
open Go

/-- What is known beside the world: how many cells of a block never change; the blocks of Hw's own memory; of tokens: their blocks and where they stand. -/
structure GK where
  lim : Nat → Nat
  rho : Nat → Option Nat
  tb : Nat → Option Nat
  wm : Nat → Nat

def flat (hs : List HV) : List HV := hs.flatMap HV.cells

/-- The cells of block b from o on are what `vals` says. -/
def CellsAt (w : World) (b o n : Nat) (vals : Nat → Value) : Prop := ∀ j, j < n → w.cell? ⟨b, o + j, none⟩ = some (vals j)
def RoomAt (w : World) (b n : Nat) : Prop := ∃ c e fr, w.heap[b]? = some (.cells c e fr) ∧ n ≤ c.size

def TokOk (K : GK) (w : World) (b o n m cap : Nat) : Tok → Prop
  | .none => True
  | .full => cap = n
  | .own k off sz => off + n ≤ K.wm k ∧ m = n * sz ∧ (off + n = K.wm k → cap = n ∨ (K.tb k = some b ∧ o + m = K.lim b ∧ RoomAt w b (o + cap * sz)))
def TokNil (K : GK) : Tok → Prop
  | .own k off _ => off ≤ K.wm k
  | _ => True

inductive V (K : GK) (w : World) : HV → Value → Prop
  | bool (b : Bool) : V K w (.bool b) (.bool b)
  | int (k : IntKind) (n : Int) : V K w (.int k n) (.int k n)
  | str (s : List UInt8) : V K w (.str s) (.string ⟨s.toArray⟩)
  | nil (tok : Tok) (h : TokNil K tok) : V K w (.list [] tok) (.slice none 0 0)
  | list0 (tok : Tok) (h : TokNil K tok) (ad : Addr) : V K w (.list [] tok) (.slice (some ad) 0 0)
  | nilslice : V K w .nilslice (.slice none 0 0)
  | list (hs : List HV) (tok : Tok) (b o cap sz : Nat) (vals : Nat → Value) (hw : ∀ h ∈ hs, h.cells.length = sz) (hleaf : ∀ h ∈ flat hs, h.leaf = true)
      (hv : ∀ (j : Nat) (h : HV), (flat hs)[j]? = some h → V K w h (vals j)) (hc : CellsAt w b o (flat hs).length vals)
      (hl : 0 < (flat hs).length → o + (flat hs).length ≤ K.lim b) (hcap : hs.length ≤ cap) (ht : TokOk K w b o hs.length (flat hs).length cap tok) :
      V K w (.list hs tok) (.slice (some ⟨b, o, none⟩) hs.length cap)
  | arr (id off len sz b cap off' : Nat) (hr : K.rho id = some b) (hcap : len ≤ cap) (ho : 0 < len → off' = off) (hroom : RoomAt w b (off' + cap * sz)) : V K w (.arr id off len sz) (.slice (some ⟨b, off', none⟩) len cap)
  | arrn (id off sz : Nat) : V K w (.arr id off 0 sz) (.slice none 0 0)
  | arr0 (id off sz b o : Nat) : V K w (.arr id off 0 sz) (.slice (some ⟨b, o, none⟩) 0 0)
  | rptr (cs : List HV) (b o : Nat) (vals : Nat → Value) (hleaf : ∀ h ∈ cs, h.leaf = true) (hv : ∀ (j : Nat) (h : HV), cs[j]? = some h → V K w h (vals j)) (hc : CellsAt w b o cs.length vals)
      (hl : 0 < cs.length → o + cs.length ≤ K.lim b) : V K w (.rptr cs) (.pointer (some ⟨b, o, none⟩))
  | ptr (id off b : Nat) (hr : K.rho id = some b) : V K w (.ptr id off) (.pointer (some ⟨b, off, none⟩))
  | nilptr : V K w .nilptr (.pointer none)
  | map (id b : Nat) (hr : K.rho id = some b) : V K w (.map id) (.map (some b))
  | nilmap : V K w .nilmap (.map none)
  | func (f : FuncId) (caps : List HV) (vs : List Value) (hn : caps.length = vs.length) (hv : ∀ (j : Nat) (h : HV) (v : Value), caps[j]? = some h → vs[j]? = some v → V K w h v) : V K w (.func f caps) (.func (.func f) #[] vs.toArray)
  | nilfunc : V K w .nilfunc .nilFunc
  | nilif : V K w .nilif .nilIface
  | iface (t : Nat) (x : HV) (v : Value) (ht : isTuple x = false) (hx : V K w x v) : V K w (.iface t x) (.iface t v)
  | agg (cs : List HV) (vs : List Value) (hn : cs.length = vs.length) (hleaf : ∀ h ∈ cs, h.leaf = true) (hv : ∀ (j : Nat) (h : HV) (v : Value), cs[j]? = some h → vs[j]? = some v → V K w h v) : V K w (.agg cs) (.agg vs.toArray)
  | tuple (cs : List HV) (vs : List Value) (hn : cs.length = vs.length) (hv : ∀ (j : Nat) (h : HV) (v : Value), cs[j]? = some h → vs[j]? = some v → V K w h v) : V K w (.tuple cs) (.tuple vs.toArray)
  | any (v : Value) (h : v.oneCell' = true) : V K w .any v

def owned (K : GK) (b : Nat) : Prop := (∃ id, K.rho id = some b) ∨ (∃ k, K.tb k = some b)

structure Step (K : GK) (w : World) (K' : GK) (w' : World) : Prop where
  os : w'.os = w.os
  tape : w'.tape = w.tape
  output : w'.output = w.output
  size : w.heap.size ≤ w'.heap.size
  lim : ∀ b, K.lim b ≤ K'.lim b
  wm : ∀ k, K.wm k ≤ K'.wm k
  tok : ∀ k, K'.wm k = K.wm k → K'.tb k = K.tb k ∧ ∀ b, K.tb k = some b → K'.lim b = K.lim b
  rho : ∀ id b, K.rho id = some b → K'.rho id = some b
  cell : ∀ b i v, i < K.lim b → w.cell? ⟨b, i, none⟩ = some v → w'.cell? ⟨b, i, none⟩ = some v
  shape : ∀ b n, RoomAt w b n → RoomAt w' b n
  own : ∀ b, b < w.heap.size → owned K' b → owned K b
  frame : ∀ b, b < w.heap.size → ¬ owned K b → w'.heap[b]? = w.heap[b]? ∧ K'.lim b = K.lim b

theorem Step.refl (K : GK) (w : World) : Step K w K w :=
  ⟨rfl, rfl, rfl, Nat.le_refl _, fun _ => Nat.le_refl _, fun _ => Nat.le_refl _, fun _ _ => ⟨rfl, fun _ _ => rfl⟩, fun _ _ h => h, fun _ _ _ _ h => h, fun _ _ h => h, fun _ _ h => h, fun _ _ _ => ⟨rfl, rfl⟩⟩

theorem Step.trans {K K1 K2 : GK} {w w1 w2 : World} (a : Step K w K1 w1) (b : Step K1 w1 K2 w2) : Step K w K2 w2 where
  os := b.os.trans a.os
  tape := b.tape.trans a.tape
  output := b.output.trans a.output
  size := Nat.le_trans a.size b.size
  lim := fun x => Nat.le_trans (a.lim x) (b.lim x)
  wm := fun x => Nat.le_trans (a.wm x) (b.wm x)
  tok := fun k h => by
    have h1 : K1.wm k = K.wm k := Nat.le_antisymm (h ▸ b.wm k) (a.wm k)
    have h2 : K2.wm k = K1.wm k := h.trans h1.symm
    refine ⟨(b.tok k h2).1.trans (a.tok k h1).1, fun x hx => ?_⟩
    rw [(b.tok k h2).2 x ((a.tok k h1).1.trans hx), (a.tok k h1).2 x hx]
  rho := fun i x h => b.rho i x (a.rho i x h)
  cell := fun x i v hi h => b.cell x i v (Nat.lt_of_lt_of_le hi (a.lim x)) (a.cell x i v hi h)
  shape := fun x n h => b.shape x n (a.shape x n h)
  own := fun x hx h => a.own x hx (b.own x (Nat.lt_of_lt_of_le hx a.size) h)
  frame := fun x hx h => by
    have h1 := a.frame x hx h
    have h2 := b.frame x (Nat.lt_of_lt_of_le hx a.size) (fun h' => h (a.own x hx h'))
    exact ⟨h2.1.trans h1.1, h2.2.trans h1.2⟩

theorem CellsAt.step {K K' : GK} {w w' : World} (s : Step K w K' w') {b o n : Nat} {vals : Nat → Value} (h : CellsAt w b o n vals) (hl : 0 < n → o + n ≤ K.lim b) : CellsAt w' b o n vals :=
  fun j hj => s.cell b _ _ (by have := hl (by omega); omega) (h j hj)

theorem TokOk.step {K K' : GK} {w w' : World} (s : Step K w K' w') {b o n m cap : Nat} {tok : Tok} (h : TokOk K w b o n m cap tok) : TokOk K' w' b o n m cap tok := by
  cases tok with
  | none => trivial
  | full => exact h
  | own k off sz =>
    obtain ⟨h1, h2, h3⟩ := h
    have hw := s.wm k
    refine ⟨by omega, h2, fun he => ?_⟩
    have hk : K'.wm k = K.wm k := by omega
    rcases h3 (by omega) with h3 | ⟨h3, h4, h5⟩
    · exact .inl h3
    · exact .inr ⟨(s.tok k hk).1.trans h3, by rw [(s.tok k hk).2 b h3]; exact h4, s.shape _ _ h5⟩

theorem V.step {K K' : GK} {w w' : World} (s : Step K w K' w') {x : HV} {v : Value} (h : V K w x v) : V K' w' x v := by
  induction h with
  | bool b => exact .bool b
  | int k n => exact .int k n
  | str t => exact .str t
  | nil tok h =>
    refine .nil tok ?_
    cases tok with
    | own k off sz => exact Nat.le_trans h (s.wm k)
    | _ => trivial
  | list0 tok h ad =>
    refine .list0 tok ?_ ad
    cases tok with
    | own k off sz => exact Nat.le_trans h (s.wm k)
    | _ => trivial
  | nilslice => exact .nilslice
  | list hs tok b o cap sz vals hw hleaf hv hc hl hcap ht ih =>
    exact .list hs tok b o cap sz vals hw hleaf ih (hc.step s hl) (fun h0 => Nat.le_trans (hl h0) (s.lim b)) hcap (ht.step s)
  | arr id off len sz b cap off' hr hcap ho hroom => exact .arr id off len sz b cap off' (s.rho _ _ hr) hcap ho (s.shape _ _ hroom)
  | arrn id off sz => exact .arrn id off sz
  | arr0 id off sz b o => exact .arr0 id off sz b o
  | rptr cs b o vals hleaf hv hc hl ih => exact .rptr cs b o vals hleaf ih (hc.step s hl) (fun h0 => Nat.le_trans (hl h0) (s.lim b))
  | ptr id off b hr => exact .ptr id off b (s.rho _ _ hr)
  | nilptr => exact .nilptr
  | map id b hr => exact .map id b (s.rho _ _ hr)
  | nilmap => exact .nilmap
  | func f caps vs hn hv ih => exact .func f caps vs hn ih
  | nilfunc => exact .nilfunc
  | nilif => exact .nilif
  | iface t x v ht hx ih => exact .iface t x v ht ih
  | agg cs vs hn hleaf hv ih => exact .agg cs vs hn hleaf ih
  | tuple cs vs hn hv ih => exact .tuple cs vs hn ih
  | any v h => exact .any v h

/-! ### the memory of Hw's own -/
def nofr (c : Array Value) (fr : Nat × Nat) : Prop := ∀ i, i < c.size → ¬ (fr.1 ≤ i ∧ i < fr.2)
def HObj.live : HObj → Prop
  | .cells _ | .map _ _ | .iter _ _ _ _ | .siter _ _ => True
  | _ => False
def ObjOk (K : GK) (w : World) (b : Nat) : HObj → Prop
  | .cells cs => ∃ c e fr, w.heap[b]? = some (.cells c e fr) ∧ cs.length ≤ c.size ∧ nofr c fr ∧ ∀ (j : Nat) (x : HV), cs[j]? = some x → x.leaf = true ∧ ∃ v, c[j]? = some v ∧ V K w x v
  | .map es cl => ∃ (ms : Array MapEntry), w.heap[b]? = some (.map ms cl) ∧ ms.size = es.length ∧
      ∀ (j n : Nat) (x y : HV), es[j]? = some (n, x, y) → ∃ m : MapEntry, ms[j]? = some m ∧ m.born = n ∧ isTuple x = false ∧ isTuple y = false ∧ V K w x m.key ∧ V K w y m.val
  | .iter none since seen last => w.heap[b]? = some (.mapIter none since seen.toArray last)
  | .iter (some i) since seen last => ∃ b', K.rho i = some b' ∧ w.heap[b]? = some (.mapIter (some b') since seen.toArray last)
  | .siter s pos => w.heap[b]? = some (.stringIter ⟨s.toArray⟩ pos)
  | .dead => True
  | .tok _ | .res => False

structure HeapRel (K : GK) (h : Heap) (w : World) : Prop where
  obj : ∀ id b, K.rho id = some b → b < w.heap.size ∧ ∃ o, h[id]? = some o ∧ ObjOk K w b o ∧ (o.live → K.lim b = 0)
  inj : ∀ i j b x y, K.rho i = some b → K.rho j = some b → h[i]? = some x → h[j]? = some y → x.live → y.live → i = j
  wm : ∀ k, K.wm k = match h[k]? with | some (.tok n) => n | _ => 0
  tok : ∀ k b, K.tb k = some b → b < w.heap.size ∧ (∃ n, h[k]? = some (.tok n)) ∧ (∀ id o, K.rho id = some b → h[id]? = some o → ¬ o.live) ∧
    ∃ c e fr, w.heap[b]? = some (.cells c e fr) ∧ K.lim b ≤ c.size ∧ nofr c fr
  tinj : ∀ i j b, K.tb i = some b → K.tb j = some b → i = j
  limb : ∀ b, w.heap.size ≤ b → K.lim b = 0

def EnvRel (K : GK) (w : World) (e : Env) (tmps : Array Value) : Prop := ∀ t x, e.get t = some x → V K w x (tmps.getD t undef)

structure Rel (N : Nat) (K : GK) (w : World) (e : Env) (h : Heap) (a : Act) : Prop where
  heap : HeapRel K h w
  env : EnvRel K w e a.tmps
  size : a.tmps.size = N
  defers : a.defers = []

theorem EnvRel.step {K K' : GK} {w w' : World} (s : Step K w K' w') {e : Env} {tmps : Array Value} (h : EnvRel K w e tmps) : EnvRel K' w' e tmps := fun t x hx => (h t x hx).step s

theorem Env.get_prune (e : Env) : ∀ (l : List Nat) (t : Nat) (x : HV), Env.get (prune e l) t = some x → e.get t = some x
  | [], t, x, h => by simp [prune, Env.get] at h
  | u :: r, t, x, h => by
    unfold prune at h
    split at h
    · rename_i v hv
      simp only [Env.get] at h
      split at h
      · rename_i hk
        subst hk
        exact hv.trans h
      · exact Env.get_prune e r t x h
    · exact Env.get_prune e r t x h

/-! ### small things about values -/
theorem V.strip {K : GK} {w : World} {x : HV} {v : Value} (h : V K w x v) : V K w x.strip v := by
  have h' := h
  cases h with
  | nil tok h => exact .nil .none trivial
  | list0 tok h ad => exact .list0 .none trivial ad
  | list hs tok b o cap sz vals hw hleaf hv hc hl hcap ht => exact .list hs .none b o cap sz vals hw hleaf hv hc hl hcap trivial
  | _ => exact h'
theorem leaf_strip (x : HV) : x.strip.leaf = x.leaf := by cases x <;> rfl
theorem V.strip1 {K : GK} {w : World} {x : HV} {v : Value} (h : V K w x v) : V K w x.strip1 v := by
  have h' := h
  cases h with
  | agg cs vs hn hleaf hv =>
    refine .agg _ vs (by simpa using hn) (fun y hy => ?_) (fun j y u hy hu => ?_)
    · obtain ⟨z, hz, rfl⟩ := List.mem_map.1 hy
      rw [leaf_strip]; exact hleaf z hz
    · simp only [List.getElem?_map, Option.map_eq_some_iff] at hy
      obtain ⟨z, hz, rfl⟩ := hy
      exact (hv j z u hz hu).strip
  | tuple cs vs hn hv =>
    refine .tuple _ vs (by simpa using hn) (fun j y u hy hu => ?_)
    simp only [List.getElem?_map, Option.map_eq_some_iff] at hy
    obtain ⟨z, hz, rfl⟩ := hy
    exact (hv j z u hz hu).strip
  | nil tok h => exact .nil .none trivial
  | list0 tok h ad => exact .list0 .none trivial ad
  | list hs tok b o cap sz vals hw hleaf hv hc hl hcap ht => exact .list hs .none b o cap sz vals hw hleaf hv hc hl hcap trivial
  | _ => exact h'

theorem V.oneCell {K : GK} {w : World} {x : HV} {v : Value} (h : V K w x v) (hx : x.leaf = true) : v.oneCell' = true := by
  cases h <;> first | rfl | (simp [HV.leaf] at hx; done) | assumption

theorem V.one {K : GK} {w : World} {x : HV} {v : Value} (h : V K w x v) (hx : x.leaf = true) (hc : x.cells = [x]) (hv : v.cells = #[v]) : x.cells.length = v.cells.size ∧ (∀ y ∈ x.cells, y.leaf = true) ∧
    ∀ (j : Nat) (y : HV) (u : Value), x.cells[j]? = some y → v.cells[j]? = some u → V K w y u := by
  rw [hc, hv]
  refine ⟨rfl, by simpa using hx, fun j y u hy hu => ?_⟩
  cases j with
  | zero => simp at hy hu; subst hy; subst hu; exact h
  | succ j => simp at hy
/-- A value and its cells. -/
theorem V.cells {K : GK} {w : World} {x : HV} {v : Value} (h : V K w x v) (ht : ∀ cs, x ≠ .tuple cs) : x.cells.length = v.cells.size ∧ (∀ y ∈ x.cells, y.leaf = true) ∧
    ∀ (j : Nat) (y : HV) (u : Value), x.cells[j]? = some y → v.cells[j]? = some u → V K w y u := by
  have h' := h
  cases h with
  | agg cs vs hn hleaf hv => exact ⟨by simpa [HV.cells, Value.cells] using hn, hleaf, fun j y u hy hu => hv j y u hy (by simpa [Value.cells] using hu)⟩
  | tuple cs vs hn hv => exact absurd rfl (ht cs)
  | any v h =>
    refine h'.one rfl rfl ?_
    cases v <;> first | rfl | (simp [Value.oneCell'] at h)
  | _ => exact h'.one rfl rfl rfl

/-- The other way round: of its cells a value is made. -/
theorem V.ofAgg {K : GK} {w : World} (cs : List HV) (vs : Array Value) (hn : cs.length = vs.size) (hleaf : ∀ h ∈ cs, h.leaf = true) (hv : ∀ (j : Nat) (h : HV) (v : Value), cs[j]? = some h → vs[j]? = some v → V K w h v) : V K w (.agg cs) (.agg vs) := by
  have := V.agg (K := K) (w := w) cs vs.toList (by simpa using hn) hleaf (fun j h v hh hvv => hv j h v hh (by simpa using hvv))
  simpa using this

end Go.Hw
