import Derived.Test.YtonoaimefgodfaaHwF2
set_option linter.unusedVariables false
set_option linter.unusedSimpArgs false
namespace Go.Hw
open Go
variable {P : Program}

inductive Scal : HV → Prop
  | bool (b : Bool) : Scal (.bool b)
  | int (k : IntKind) (n : Int) : Scal (.int k n)
  | str (s : List UInt8) : Scal (.str s)
  | tuple (cs : List HV) (h : ∀ x ∈ cs, Scal x) : Scal (.tuple cs)
theorem scal_any {K K2 : GK} {w w2 : World} {x : HV} {v : Value} (h : V K w x v) (hs : Scal x) : V K2 w2 x v := by
  induction h with
  | bool b => exact .bool b
  | int k n => exact .int k n
  | str s => exact .str s
  | tuple cs vs hn hv ih =>
    cases hs with
    | tuple _ hall => exact .tuple cs vs hn fun j y u hy hu => ih j y u hy hu (hall y (List.mem_of_getElem? hy))
  | _ => cases hs
inductive BorCs (h : Heap) : List HV → List HV → Prop
  | nil : BorCs h [] []
  | same (x : HV) {cs ds : List HV} (k : BorCs h cs ds) : BorCs h (x :: cs) (x :: ds)
  | arr {i n sz : Nat} {hs : List HV} (hc : h[i]? = some (.cells (flat hs))) (hn : hs.length = n) (hw : ∀ x ∈ hs, x.cells.length = sz) {cs ds : List HV} (k : BorCs h cs ds) : BorCs h (.arr i 0 n sz :: cs) (.list hs .none :: ds)
inductive BorL (h : Heap) : List HV → List HV → Prop
  | nil : BorL h [] []
  | same (x : HV) {xs ys : List HV} (k : BorL h xs ys) : BorL h (x :: xs) (x :: ys)
  | ptr {id : Nat} {cs ds : List HV} (hc : h[id]? = some (.cells cs)) (hb : BorCs h cs ds) {xs ys : List HV} (k : BorL h xs ys) : BorL h (.ptr id 0 :: xs) (.rptr ds :: ys)
  | arr {i n sz : Nat} {hs : List HV} (hc : h[i]? = some (.cells (flat hs))) (hn : hs.length = n) (hw : ∀ x ∈ hs, x.cells.length = sz) {xs ys : List HV} (k : BorL h xs ys) : BorL h (.arr i 0 n sz :: xs) (.list hs .none :: ys)
def lendK (K : GK) (w : World) : GK := { lim := fun b => match w.heap[b]? with | some (.cells c _ _) => max (K.lim b) c.size | _ => K.lim b, rho := fun _ => none, tb := fun _ => none, wm := fun _ => 0 }
theorem lend_le {K : GK} {w : World} (b : Nat) : K.lim b ≤ (lendK K w).lim b := by
  simp only [lendK]
  split
  · exact Nat.le_max_left _ _
  · exact Nat.le_refl _
theorem lend_ge {K : GK} {w : World} {b : Nat} {c : Array Value} {e : Nat} {fr : Nat × Nat} (h : w.heap[b]? = some (.cells c e fr)) : c.size ≤ (lendK K w).lim b := by
  simp only [lendK, h]
  exact Nat.le_max_right _ _
theorem not_owned_lend {K : GK} {w : World} {b : Nat} : ¬ owned (lendK K w) b := by
  rintro (⟨i, h⟩ | ⟨i, h⟩) <;> simp [lendK] at h
theorem heap_lend {K : GK} {h : Heap} {w : World} (hh : HeapRel K h w) : HeapRel (lendK K w) [] w :=
  ⟨fun id b hr => by simp [lendK] at hr, fun i j b x y hi => by simp [lendK] at hi, fun k => by simp [lendK], fun k b hk => by simp [lendK] at hk, fun i j b hi => by simp [lendK] at hi, fun b hb => by
    simp only [lendK]
    rw [Array.getElem?_eq_none hb]
    exact hh.limb b hb⟩

theorem lend_arr {K : GK} {h : Heap} {w : World} (hh : HeapRel K h w) {i n sz : Nat} {hs : List HV} (hc : h[i]? = some (.cells (flat hs))) (hn : hs.length = n) (hw : ∀ x ∈ hs, x.cells.length = sz) (hp : PV (.list hs .none)) {v : Value} (hV : V K w (.arr i 0 n sz) v) :
    V (lendK K w) w (.list hs .none) v := by
  have hfl := flat_length hw
  have hpv : ∀ x ∈ flat hs, PV x := by cases hp with | list _ _ _ h => exact h
  cases hV with
  | arrn =>
    obtain rfl : hs = [] := List.eq_nil_of_length_eq_zero hn
    exact V.nil _ (show TokNil (lendK K w) .none from trivial)
  | arr0 _ _ _ ad =>
    obtain rfl : hs = [] := List.eq_nil_of_length_eq_zero hn
    exact V.list0 _ (show TokNil (lendK K w) .none from trivial) ad
  | arr _ _ _ _ b cap off' hr hcap hoff hroom =>
    obtain ⟨hb1, o0, ho0, hok, hlim⟩ := hh.obj i b hr
    rw [hc] at ho0; injection ho0 with ho0; subst ho0
    obtain ⟨c, et', fr, hb, hlen, hfr, hvs⟩ := hok
    subst hn
    refine .list hs .none b off' cap sz (fun j => (c[j]?).getD undef) hw (fun x hx => ?_) (fun j x hx => ?_) (fun j hj => ?_) (fun hp => ?_) hcap trivial
    · obtain ⟨j, hj⟩ := mem_get hx
      exact (hvs j x hj).1
    · obtain ⟨_, v, h7, h8⟩ := hvs j x hx
      rw [h7]
      exact h8.transfer (hpv x (List.mem_of_getElem? hx)) lend_le
    · have hpos : 0 < hs.length := by
        rcases Nat.eq_zero_or_pos hs.length with e | e
        · rw [hfl, e] at hj; simp at hj
        · exact e
      obtain rfl : off' = 0 := hoff (by omega)
      rw [Nat.zero_add, cell_of_row w b j c et' fr hb, Array.getElem?_eq_getElem (by omega)]
      simp [show j < c.size by omega]
    · have hpos : 0 < hs.length := by
        rcases Nat.eq_zero_or_pos hs.length with e | e
        · rw [hfl, e] at hp; simp at hp
        · exact e
      obtain rfl : off' = 0 := hoff (by omega)
      have := lend_ge (K := K) hb
      omega
theorem lend_cells {K : GK} {h : Heap} {w : World} (hh : HeapRel K h w) : ∀ {cs ds : List HV}, BorCs h cs ds → (∀ x ∈ ds, PV x) → ds.length = cs.length ∧ ∀ (j : Nat) (x y : HV) (v : Value), cs[j]? = some x → ds[j]? = some y → V K w x v → (x.leaf = true → y.leaf = true) ∧ V (lendK K w) w y v
  | _, _, .nil, _ => ⟨rfl, fun j x y v hx => by simp at hx⟩
  | _, _, .same x k, hp => by
    obtain ⟨h1, h2⟩ := lend_cells hh k (fun y hy => hp y (by simp [hy]))
    refine ⟨by simp [h1], fun j a b v ha hb hV => ?_⟩
    cases j with
    | zero => simp at ha hb; subst ha; subst hb; exact ⟨id, hV.transfer (hp _ (by simp)) lend_le⟩
    | succ j => exact h2 j a b v (by simpa using ha) (by simpa using hb) hV
  | _, _, .arr hc hn hw k, hp => by
    obtain ⟨h1, h2⟩ := lend_cells hh k (fun y hy => hp y (by simp [hy]))
    refine ⟨by simp [h1], fun j a b v ha hb hV => ?_⟩
    cases j with
    | zero => simp at ha hb; subst ha; subst hb; exact ⟨fun _ => rfl, lend_arr hh hc hn hw (hp _ (by simp)) hV⟩
    | succ j => exact h2 j a b v (by simpa using ha) (by simpa using hb) hV
theorem lend_args {K : GK} {h : Heap} {w : World} (hh : HeapRel K h w) : ∀ {xs ys : List HV}, BorL h xs ys → (∀ x ∈ ys, PV x) → ys.length = xs.length ∧ ∀ (j : Nat) (x y : HV) (v : Value), xs[j]? = some x → ys[j]? = some y → V K w x v → V (lendK K w) w y v
  | _, _, .nil, _ => ⟨rfl, fun j x y v hx => by simp at hx⟩
  | _, _, .same x k, hp => by
    obtain ⟨h1, h2⟩ := lend_args hh k (fun y hy => hp y (by simp [hy]))
    refine ⟨by simp [h1], fun j a b v ha hb hV => ?_⟩
    cases j with
    | zero => simp at ha hb; subst ha; subst hb; exact hV.transfer (hp _ (by simp)) lend_le
    | succ j => exact h2 j a b v (by simpa using ha) (by simpa using hb) hV
  | _, _, .arr hc hn hw k, hp => by
    obtain ⟨h1, h2⟩ := lend_args hh k (fun y hy => hp y (by simp [hy]))
    refine ⟨by simp [h1], fun j a b v ha hb hV => ?_⟩
    cases j with
    | zero => simp at ha hb; subst ha; subst hb; exact lend_arr hh hc hn hw (hp _ (by simp)) hV
    | succ j => exact h2 j a b v (by simpa using ha) (by simpa using hb) hV
  | _, _, .ptr (id := id) (cs := cs) (ds := ds) hc hb k, hp => by
    obtain ⟨h1, h2⟩ := lend_args hh k (fun y hy => hp y (by simp [hy]))
    refine ⟨by simp [h1], fun j a b v ha hb' hV => ?_⟩
    cases j with
    | succ j => exact h2 j a b v (by simpa using ha) (by simpa using hb') hV
    | zero =>
      simp at ha hb'; subst ha; subst hb'
      have hpd : ∀ x ∈ ds, PV x := by cases hp _ (List.mem_cons_self) with | rptr _ h => exact h
      obtain ⟨hl, hcs⟩ := lend_cells hh hb hpd
      cases hV with
      | ptr _ _ b hr =>
        obtain ⟨hb1, o0, ho0, hok, hlim⟩ := hh.obj id b hr
        rw [hc] at ho0; injection ho0 with ho0; subst ho0
        obtain ⟨c, et', fr, hbk, hlen, hfr, hvs⟩ := hok
        refine .rptr ds b 0 (fun j => (c[j]?).getD undef) (fun x hx => ?_) (fun j x hx => ?_) (fun j hj => ?_) (fun hp => ?_)
        · obtain ⟨j, hj⟩ := mem_get hx
          obtain ⟨y, hy⟩ := get_of_lt (l := cs) (j := j) (by rw [← hl]; exact lt_of_get hj)
          obtain ⟨h3, v, _, h4⟩ := hvs j y hy
          exact (hcs j y x v hy hj h4).1 h3
        · obtain ⟨y, hy⟩ := get_of_lt (l := cs) (j := j) (by rw [← hl]; exact lt_of_get hx)
          obtain ⟨_, v, h7, h8⟩ := hvs j y hy
          rw [h7]
          exact (hcs j y x v hy hx h8).2
        · rw [Nat.zero_add, cell_of_row w b j c et' fr hbk, Array.getElem?_eq_getElem (by omega)]
          simp [show j < c.size by omega]
        · have := lend_ge (K := K) hbk
          omega

theorem PCall.borrow {f : FuncId} {xs as : List HV} {r : HV} (hp : PCall P f as r) (hs : Scal r) {h : Heap} (hb : BorL h xs as) {R : HV → Heap → Prop} (hr : R r h) : HCalls P f xs h R := by
  refine ⟨hp.call.1, fun K w vs hh hl hv => ?_⟩
  obtain ⟨h1, h2⟩ := lend_args (K := K) hh hb hp.pargs
  refine (hp.call.2 (lendK K w) w vs (heap_lend hh) (by omega) (fun j x v hx hvj => by
    obtain ⟨y, hy⟩ := get_of_lt (l := xs) (j := j) (by rw [← h1]; exact lt_of_get hx)
    exact h2 j y x v hy hx (hv j y v hy hvj))).mono ?_
  rintro en w' ⟨v, x, K', h', rfl, s, hh', hV, rfl⟩
  have hfr : ∀ b, b < w.heap.size → w'.heap[b]? = w.heap[b]? := fun b hb => (s.frame b hb not_owned_lend).1
  have st : Step K w K w' := by
    refine ⟨s.os, s.tape, s.output, s.size, fun _ => Nat.le_refl _, fun _ => Nat.le_refl _, fun _ _ => ⟨rfl, fun _ _ => rfl⟩, fun _ _ h => h, fun b i v hi hc => s.cell b i v (Nat.lt_of_lt_of_le hi (lend_le b)) hc, s.shape, fun _ _ h => h, fun b hb _ => ⟨hfr b hb, rfl⟩⟩
  refine ⟨v, x.strip1, K, h, rfl, st, ⟨fun id b hid => ?_, hh.inj, hh.wm, fun i b hi => ?_, hh.tinj, fun b hb => hh.limb b (Nat.le_trans s.size hb)⟩, scal_any hV.strip1 hs, hr⟩
  · obtain ⟨k1, ob, k2, k3, k4⟩ := hh.obj id b hid
    exact ⟨Nat.lt_of_lt_of_le k1 s.size, ob, k2, k3.keep st (hfr b k1), k4⟩
  · obtain ⟨k1, k2, k3, c, e, fr, k4, k5, k6⟩ := hh.tok i b hi
    exact ⟨Nat.lt_of_lt_of_le k1 s.size, k2, k3, c, e, fr, by rw [hfr b k1]; exact k4, k5, k6⟩

section
variable {N m : Nat} {S D : CallP} {b : Nat} {r : List Op} {e e' : Env} {h h' : Heap} {Q : Env → Heap → Prop} {d : Nat}
end

end Go.Hw

