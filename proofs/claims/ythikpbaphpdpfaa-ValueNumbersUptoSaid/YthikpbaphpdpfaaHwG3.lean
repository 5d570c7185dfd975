/- Typed steps on local memory and maps. -/
import Derived.Test.YthikpbaphpdpfaaHwG2
set_option linter.unusedVariables false
set_option linter.unusedSimpArgs false
namespace Go.Hw
open Go

variable {P : Program} {N m : Nat} {S D : CallP} {b : Nat} {r : List Op} {e e' : Env} {h h' : Heap} {Q : Env → Heap → Prop} {QQ : Ex → Env → Heap → Prop} {d : Nat} {x y z : X}

/-! ### cells -/
theorem g_alloc {zs : List HV} {n : Nat} (hn : h.length = n) (hh : h ++ [.cells zs] = h') (k : HO S b r ((d, .ptr n 0) :: e) h' Q) : HO S b (⟨some d, .op (.alloc none zs), none⟩ :: r) e h Q := by
  subst hn; subst hh
  refine ⟨?_⟩
  simp only [hops, hcall, hstep, hnew]
  exact k.out
theorem g_box {v : HV} {w n : Nat} (hx : x.ev e = some v) (h1 : v.cells.length = w) (h2 : isTuple v = false) (hn : h.length = n) (hh : h ++ [.cells v.cells] = h') (k : HO S b r ((d, .ptr n 0) :: e) h' Q) : HO S b (⟨some d, .op (.box none w x), none⟩ :: r) e h Q := by
  subst hn; subst hh
  refine ⟨?_⟩
  simp only [hops, hcall, hstep, hnew, hx]
  exact ⟨⟨h1, h2⟩, k.out⟩
theorem g_load_p {n : Option Nat} {id off : Nat} {cs : List HV} {v : HV} (hx : x.ev e = some (.ptr id off)) (hc : h[id]? = some (.cells cs)) (h1 : atCells n (cs.drop off) = some v) (k : HO S b r ((d, v) :: e) h Q) : HO S b (⟨some d, .op (.load n x), none⟩ :: r) e h Q := by
  refine ⟨?_⟩
  simp only [hops, hcall, hstep, hx, Heap.cells, hc, h1]
  exact k.out
theorem g_store_p {n id off : Nat} {cs : List HV} {v : HV} (hx : x.ev e = some (.ptr id off)) (hy : y.ev e = some v) (hc : h[id]? = some (.cells cs)) (h1 : v.cells.length = n ∧ off + n ≤ cs.length ∧ isTuple v = false) (hh : h.set id (.cells (putAt cs off v.cells)) = h') (k : HO S b r e h' Q) : HO S b (⟨none, .op (.store n x y), none⟩ :: r) e h Q := by
  subst hh
  refine ⟨?_⟩
  simp only [hops, hcall, hstep, hx, hy, Heap.cells, hc]
  exact ⟨h1, k.out⟩
theorem g_faddr_p {f n id off : Nat} (hx : x.ev e = some (.ptr id off)) (k : HO S b r ((d, .ptr id (off + f)) :: e) h Q) : HO S b (⟨some d, .op (.faddr f n x), none⟩ :: r) e h Q := by
  refine ⟨?_⟩
  simp only [hops, hcall, hstep, hx]
  exact k.out
theorem g_faddr_r {f n : Nat} {cs : List HV} (hx : x.ev e = some (.rptr cs)) (h1 : f < cs.length) (k : HO S b r ((d, .rptr (cs.drop f)) :: e) h Q) : HO S b (⟨some d, .op (.faddr f n x), none⟩ :: r) e h Q := by
  refine ⟨?_⟩
  simp only [hops, hcall, hstep, hx]
  exact ⟨h1, k.out⟩
/-- An array's cell, by number. -/
theorem g_indexarr {n sz : Nat} {ag : Bool} {cs : List HV} {i : IntKind} {q : Int} {K : Nat → Prop} (hx : x.ev e = some (.agg cs)) (hy : y.ev e = some (.int i q)) (g : Nat → HV) (hg : ∀ j, j < n → atCells (if ag then some sz else none) (cs.drop (j * sz)) = some (g j)) (hw : (0 ≤ q ∧ q < n) ∧ ∀ j : Nat, j < n → q = j → K j) (k : ∀ j, j < n → K j → HO S b r ((d, g j) :: e) h Q) : HO S b (⟨some d, .op (.indexarr n sz ag x y), none⟩ :: r) e h Q := by
  refine ⟨?_⟩
  simp only [hops, hcall, hstep, hx, hy]
  have hlt : q.toNat < n := by omega
  rw [hg q.toNat hlt]
  exact ⟨hw.1, (k q.toNat hlt (hw.2 _ hlt (by omega))).out⟩

/-! ### maps -/
structure GM (K V : Type) where
  es : List (Nat × K × V)
  c : Nat
variable {A B : Type}
def GM.nil : GM A B := ⟨[], 0⟩
def GM.obj (fk : A → HV) (fv : B → HV) (m : GM A B) : HObj := .map (m.es.map fun p => (p.1, fk p.2.1, fv p.2.2)) m.c
theorem eraseIdx_map2 {C D : Type} (f : C → D) : ∀ (l : List C) (j : Nat), (l.map f).eraseIdx j = (l.eraseIdx j).map f
  | [], j => by simp
  | x :: l, 0 => by simp
  | x :: l, j + 1 => by simp [eraseIdx_map2 f l j]
theorem mapAt_obj {fk : A → HV} {fv : B → HV} {m : GM A B} {id : Nat} (hm : h[id]? = some (m.obj fk fv)) : Heap.mapAt h id = some (m.es.map fun p => (p.1, fk p.2.1, fv p.2.2), m.c) := by
  simp only [Heap.mapAt, hm, GM.obj]
theorem g_mkmap {fk : A → HV} {fv : B → HV} {n : Nat} (hn : h.length = n) (hh : h ++ [(GM.nil : GM A B).obj fk fv] = h') (k : HO S b r ((d, .map n) :: e) h' Q) : HO S b (⟨some d, .op (.mkmap none), none⟩ :: r) e h Q := by
  subst hn; subst hh
  refine ⟨?_⟩
  simp only [hops, hcall, hstep, hnew]
  exact k.out
theorem g_maplen {fk : A → HV} {fv : B → HV} {m : GM A B} {id : Nat} (hx : x.ev e = some (.map id)) (hm : h[id]? = some (m.obj fk fv)) (k : HO S b r ((d, .int .i64 m.es.length) :: e) h Q) : HO S b (⟨some d, .op (.maplen x), none⟩ :: r) e h Q := by
  refine ⟨?_⟩
  simp only [hops, hcall, hstep, hx, mapAt_obj hm, List.length_map]
  exact k.out
def GM.idx [DecidableEq A] (m : GM A B) (k : A) : Option Nat := m.es.findIdx? fun p => decide (k = p.2.1)
def GM.get [DecidableEq A] (m : GM A B) (k : A) : Option B := (m.es.find? fun p => decide (k = p.2.1)).map (·.2.2)
def GM.put [DecidableEq A] (m : GM A B) (k : A) (v : B) : GM A B :=
  match m.idx k with
  | some j => match m.es[j]? with
    | some p => ⟨m.es.set j (p.1, k, v), m.c⟩
    | none => m
  | none => ⟨m.es ++ [(m.c, k, v)], m.c + 1⟩
def GM.del [DecidableEq A] (m : GM A B) (k : A) : GM A B :=
  match m.idx k with
  | some j => ⟨m.es.eraseIdx j, m.c⟩
  | none => m
def EncK [DecidableEq A] (fk : A → HV) (kd : EqK) : Prop := ∀ a c : A, keq kd (fk a) (fk c) = some (decide (a = c))
theorem enck_int (k : IntKind) : EncK (eInt k) .int := fun a c => by
  simp only [keq, Sc.eq]
  by_cases h : a = c <;> simp [h]
theorem enck_str : EncK eStr .str := fun a c => by
  simp only [keq, Sc.eq]
  by_cases h : a = c <;> simp [h]
variable [DecidableEq A] {fk : A → HV} {fv : B → HV} {kd : EqK}
theorem mfind_enc (hk : EncK fk kd) (k : A) : ∀ es : List (Nat × A × B), mfind kd (fk k) (es.map fun p => (p.1, fk p.2.1, fv p.2.2)) = some (es.findIdx? fun p => decide (k = p.2.1))
  | [] => rfl
  | (n, a, v) :: r => by
    simp only [List.map_cons, mfind, hk k a, List.findIdx?_cons]
    by_cases h : k = a
    · simp [h]
    · simp only [h, decide_false, mfind_enc hk k r]
      rfl
theorem GM.get_idx (m : GM A B) (k : A) : m.get k = match m.idx k with | some j => (m.es[j]?).map (·.2.2) | none => none := by
  unfold GM.get GM.idx
  induction m.es with
  | nil => rfl
  | cons p r ih =>
    simp only [List.find?_cons, List.findIdx?_cons]
    by_cases h : k = p.2.1
    · simp [h]
    · simp only [h, decide_false]
      rw [ih]
      cases hc : r.findIdx? fun p => decide (k = p.2.1) <;> simp
theorem GM.idx_lt {m : GM A B} {k : A} {j : Nat} (h : m.idx k = some j) : ∃ p, m.es[j]? = some p ∧ p.2.1 = k := by
  unfold GM.idx at h
  rw [List.findIdx?_eq_some_iff_getElem] at h
  obtain ⟨h1, h2, _⟩ := h
  exact ⟨_, List.getElem?_eq_getElem h1, (of_decide_eq_true h2).symm⟩
theorem g_lookup {m : GM A B} {id : Nat} {q : A} {z0 : B} {zv : HV} {K : B → Prop} (hk : EncK fk kd) (hx : x.ev e = some (.map id)) (hy : y.ev e = some (fk q)) (hm : h[id]? = some (m.obj fk fv)) (hz : zv = fv z0) (hw : ∀ t, t = (m.get q).getD z0 → K t) (k : ∀ t, K t → HO S b r ((d, fv t) :: e) h Q) : HO S b (⟨some d, .op (.lookup kd zv false x y), none⟩ :: r) e h Q := by
  subst hz
  refine ⟨?_⟩
  simp only [hops, hcall, hstep, hx, hy, mapAt_obj hm, mfind_enc hk]
  refine ⟨by rw [hk q q]; simp, ?_⟩
  have hg := m.get_idx q
  have hk' := (k _ (hw _ rfl)).out
  cases hi : m.idx q with
  | none =>
    have hi' := hi
    unfold GM.idx at hi'
    rw [hi'] 
    rw [hi] at hg
    simp only [hg, Option.getD_none] at hk' ⊢
    exact hk'
  | some j =>
    have hi' := hi
    unfold GM.idx at hi'
    rw [hi']
    obtain ⟨p, hp, _⟩ := GM.idx_lt hi
    rw [hi] at hg
    simp only [hg, hp, Option.map_some, Option.getD_some, evAt, List.getElem?_map] at hk' ⊢
    exact hk'
theorem g_lookup_ok {m : GM A B} {id : Nat} {q : A} {z0 : B} {zv : HV} {K : B → Bool → Prop} (hk : EncK fk kd) (hx : x.ev e = some (.map id)) (hy : y.ev e = some (fk q)) (hm : h[id]? = some (m.obj fk fv)) (hz : zv = fv z0) (hw : ∀ t c, t = (m.get q).getD z0 → c = (m.get q).isSome → K t c) (k : ∀ t c, K t c → HO S b r ((d, .tuple [fv t, .bool c]) :: e) h Q) : HO S b (⟨some d, .op (.lookup kd zv true x y), none⟩ :: r) e h Q := by
  subst hz
  refine ⟨?_⟩
  simp only [hops, hcall, hstep, hx, hy, mapAt_obj hm, mfind_enc hk]
  refine ⟨by rw [hk q q]; simp, ?_⟩
  have hg := m.get_idx q
  have hk' := (k _ _ (hw _ _ rfl rfl)).out
  cases hi : m.idx q with
  | none =>
    have hi' := hi
    unfold GM.idx at hi'
    rw [hi'] 
    rw [hi] at hg
    simp only [hg, Option.getD_none, Option.isSome_none] at hk' ⊢
    exact hk'
  | some j =>
    have hi' := hi
    unfold GM.idx at hi'
    rw [hi']
    obtain ⟨p, hp, _⟩ := GM.idx_lt hi
    rw [hi] at hg
    simp only [hg, hp, Option.map_some, Option.getD_some, Option.isSome_some, evAt, List.getElem?_map] at hk' ⊢
    exact hk'
theorem g_mapset {m : GM A B} {id : Nat} {q : A} {v : B} {K : GM A B → Prop} (hk : EncK fk kd) (hx : x.ev e = some (.map id)) (hy : y.ev e = some (fk q)) (hz : z.ev e = some (fv v)) (ht : isTuple (fv v) = false) (hm : h[id]? = some (m.obj fk fv)) (hw : ∀ t, t = m.put q v → K t) (h' : GM A B → Heap) (hh : ∀ t : GM A B, h.set id (t.obj fk fv) = h' t) (k : ∀ t, K t → HO S b r e (h' t) Q) : HO S b (⟨none, .op (.mapset kd x y z), none⟩ :: r) e h Q := by
  refine ⟨?_⟩
  simp only [hops, hcall, hstep, hx, hy, hz, mapAt_obj hm, mfind_enc hk]
  refine ⟨⟨by rw [hk q q]; simp, ht⟩, ?_⟩
  have hk' := (k _ (hw _ rfl)).out
  rw [← hh] at hk'
  unfold GM.put at hk'
  cases hi : m.idx q with
  | none =>
    have hi' := hi
    unfold GM.idx at hi'
    rw [hi'] 
    rw [hi] at hk'
    simp only [GM.obj, List.map_append, List.map_cons, List.map_nil] at hk' ⊢
    exact hk'
  | some j =>
    have hi' := hi
    unfold GM.idx at hi'
    rw [hi']
    obtain ⟨p, hp, _⟩ := GM.idx_lt hi
    rw [hi] at hk'
    simp only [hp, GM.obj, List.map_set, List.getElem?_map, Option.map_some] at hk' ⊢
    exact hk'
theorem g_mapdel {m : GM A B} {id : Nat} {q : A} {K : GM A B → Prop} (hk : EncK fk kd) (hx : x.ev e = some (.map id)) (hy : y.ev e = some (fk q)) (hm : h[id]? = some (m.obj fk fv)) (hw : ∀ t, t = m.del q → K t) (h' : GM A B → Heap) (hh : ∀ t : GM A B, h.set id (t.obj fk fv) = h' t) (k : ∀ t, K t → HO S b r e (h' t) Q) : HO S b (⟨none, .op (.mapdel kd x y), none⟩ :: r) e h Q := by
  refine ⟨?_⟩
  simp only [hops, hcall, hstep, hx, hy, mapAt_obj hm, mfind_enc hk]
  refine ⟨by rw [hk q q]; simp, ?_⟩
  have hk' := (k _ (hw _ rfl)).out
  rw [← hh] at hk'
  unfold GM.del at hk'
  cases hi : m.idx q with
  | none =>
    have hi' := hi
    unfold GM.idx at hi'
    rw [hi'] 
    rw [hi] at hk'
    have : h.set id (m.obj fk fv) = h := by
      refine List.ext_getElem? fun i => ?_
      rw [List.getElem?_set]
      split
      · rename_i hid; subst hid
        split
        · rw [hm]
        · rename_i hlt; rw [List.getElem?_eq_none (by omega)]
      · rfl
    simp only [this] at hk'
    exact hk'
  | some j =>
    have hi' := hi
    unfold GM.idx at hi'
    rw [hi']
    rw [hi] at hk'
    simp only [GM.obj] at hk' ⊢
    rw [show (List.map (fun p : Nat × A × B => (p.1, fk p.2.1, fv p.2.2)) m.es).eraseIdx j = List.map (fun p : Nat × A × B => (p.1, fk p.2.1, fv p.2.2)) (m.es.eraseIdx j) by rw [eraseIdx_map2]]
    exact hk'
/-! ### what a map tells -/
theorem GM.get_put (m : GM A B) (q k : A) (v : B) : (m.put q v).get k = if k = q then some v else m.get k := by
  unfold GM.put
  cases hi : m.idx q with
  | none =>
    simp only [GM.get, List.find?_append]
    have hn : ∀ p ∈ m.es, ¬ q = p.2.1 := by
      intro p hp
      have := List.findIdx?_eq_none_iff.1 hi p hp
      simpa using this
    by_cases hkq : k = q
    · subst hkq
      have : m.es.find? (fun p => decide (k = p.2.1)) = none := List.find?_eq_none.2 fun p hp => by simpa using hn p hp
      simp [this]
    · simp only [hkq, if_false]
      cases m.es.find? (fun p => decide (k = p.2.1)) <;> simp [hkq]
  | some j =>
    obtain ⟨p, hp, hpq⟩ := GM.idx_lt hi
    simp only [hp]
    unfold GM.idx at hi
    rw [List.findIdx?_eq_some_iff_getElem] at hi
    obtain ⟨hj, _, hmin⟩ := hi
    have hs : m.es = m.es.take j ++ p :: m.es.drop (j + 1) := by
      have := List.getElem_eq_iff hj |>.2 hp
      rw [← this]
      simp
    have hset : m.es.set j (p.1, q, v) = m.es.take j ++ (p.1, q, v) :: m.es.drop (j + 1) := List.set_eq_take_append_cons_drop .. |>.trans (by simp [hj])
    simp only [GM.get]
    rw [hset]
    have hpre : ∀ u ∈ m.es.take j, ¬ q = u.2.1 := by
      intro u hu
      obtain ⟨i, hi, rfl⟩ := List.getElem_of_mem hu
      have hi' : i < j := by rw [List.length_take] at hi; omega
      have := hmin i hi'
      simpa using this
    rw [List.find?_append, List.find?_cons]
    by_cases hkq : k = q
    · subst hkq
      have : (m.es.take j).find? (fun p => decide (k = p.2.1)) = none := List.find?_eq_none.2 fun u hu => by simpa using hpre u hu
      simp [this]
    · simp only [hkq, if_false, decide_false]
      conv => rhs; rw [hs]
      rw [List.find?_append, List.find?_cons]
      have : ¬ k = p.2.1 := by rw [hpq]; exact hkq
      simp [this]
end Go.Hw
