/- Operations that leave memory alone, continued: slices, addresses, parts. -/
import Derived.Test.YthikpbaphpdpfaaHwOps2
set_option linter.unusedVariables false
set_option linter.unusedSimpArgs false
namespace Go.Hw
open Go

variable {P : Program}

/-! ### lists of elements of one width -/
theorem flat_nil : flat [] = [] := rfl
theorem flat_cons (x : HV) (r : List HV) : flat (x :: r) = x.cells ++ flat r := by simp [flat]
theorem flat_append (x y : List HV) : flat (x ++ y) = flat x ++ flat y := by simp [flat]
theorem flat_length {sz : Nat} : ∀ {hs : List HV}, (∀ y ∈ hs, y.cells.length = sz) → (flat hs).length = hs.length * sz
  | [], _ => by simp [flat]
  | x :: r, h => by
    rw [flat_cons, List.length_append, flat_length (hs := r) (fun y hy => h y (List.mem_cons_of_mem _ hy)), h x List.mem_cons_self, List.length_cons, Nat.add_mul]
    omega
theorem flat_take {sz : Nat} : ∀ {hs : List HV} (n : Nat), (∀ y ∈ hs, y.cells.length = sz) → flat (hs.take n) = (flat hs).take (n * sz)
  | [], n, _ => by simp [flat]
  | x :: r, 0, h => by simp [flat]
  | x :: r, n + 1, h => by
    have hx := h x List.mem_cons_self
    rw [List.take_succ_cons, flat_cons, flat_cons, flat_take n (fun y hy => h y (List.mem_cons_of_mem _ hy)), List.take_append, hx, show (n + 1) * sz - sz = n * sz by rw [Nat.add_mul]; omega]
    rw [List.take_of_length_le (l := x.cells) (by rw [hx, Nat.add_mul]; omega)]
theorem flat_drop {sz : Nat} : ∀ {hs : List HV} (n : Nat), (∀ y ∈ hs, y.cells.length = sz) → flat (hs.drop n) = (flat hs).drop (n * sz)
  | [], n, _ => by simp [flat]
  | x :: r, 0, h => by simp
  | x :: r, n + 1, h => by
    have hx := h x List.mem_cons_self
    rw [List.drop_succ_cons, flat_cons, flat_drop n (fun y hy => h y (List.mem_cons_of_mem _ hy)), List.drop_append, hx, show (n + 1) * sz - sz = n * sz by rw [Nat.add_mul]; omega]
    rw [List.drop_eq_nil_of_le (as := x.cells) (by rw [hx, Nat.add_mul]; omega), List.nil_append]
theorem flat_at {sz : Nat} {hs : List HV} {n : Nat} {x : HV} (hw : ∀ y ∈ hs, y.cells.length = sz) (hx : hs[n]? = some x) (j : Nat) (hj : j < sz) : (flat hs)[n * sz + j]? = x.cells[j]? := by
  have h1 : (flat hs).drop (n * sz) = flat (hs.drop n) := (flat_drop n hw).symm
  have hlt := lt_of_get hx
  rw [← List.getElem?_drop, h1, List.drop_eq_getElem_cons hlt, flat_cons]
  have : hs[n] = x := by simpa [hlt] using hx
  rw [this, List.getElem?_append_left (by rw [hw x (List.mem_of_getElem? hx)]; exact hj)]
theorem mem_sub {α : Type} {l : List α} {m n : Nat} {x : α} (h : x ∈ (l.take m).drop n) : x ∈ l := List.mem_of_mem_take (List.mem_of_mem_drop h)

/-! ### bounds -/
def Bd (v : Option Value) (d n : Int) : Prop := (v = none ∧ n = d) ∨ ∃ kk, v = some (.int kk n)

section
variable {o : Oper} {a : Act} {K : GK} {w : World} {k : HV → Heap → Prop} {e : Env} {h : Heap} (base : Nat)

theorem bnd_sound {ox : Option Operand} {ob : Option X} {d n : Int} (hx : cOpt ox = some ob) (he : EnvRel K w e a.tmps) (hb : bnd e d ob = some n) : Bd (ox.map a.eval) d n := by
  cases ox with
  | none =>
    simp [cOpt] at hx
    subst hx
    simp [bnd] at hb
    exact .inl ⟨rfl, hb.symm⟩
  | some x =>
    simp only [cOpt, Option.map_eq_some_iff] at hx
    obtain ⟨y, hy, rfl⟩ := hx
    simp only [bnd] at hb
    split at hb
    · rename_i kk m hev
      injection hb with hb
      subst hb
      have := ev_sound hy he hev
      refine .inr ⟨kk, ?_⟩
      rw [Option.map_some]
      generalize a.eval x = cx at this ⊢
      cases this
      rfl
    · cases hb

theorem run_sliceBounds2 {lo hi : Option Value} {len cap : Nat} {x y : Int} (isS : Bool) (h1 : Bd lo 0 x) (h2 : Bd hi len y) (h0 : 0 ≤ x) (hxy : x ≤ y) (hy : y ≤ cap) : (Instr.sliceBounds isS len cap lo hi none).run P w = .ok (x.toNat, y.toNat, cap) w := by
  have ey : (y.toNat : Int) = y := Int.toNat_of_nonneg (by omega)
  rcases h1 with ⟨rfl, rfl⟩ | ⟨k1, rfl⟩ <;> rcases h2 with ⟨rfl, rfl⟩ | ⟨k2, rfl⟩
  · simp [Instr.sliceBounds]
  · simp [Instr.sliceBounds, run_sliceBound _ _ _ _ _ (show 0 ≤ y by omega) hy]
  · simp [Instr.sliceBounds, run_sliceBound _ _ _ _ _ h0 hxy]
  · simp [Instr.sliceBounds, run_sliceBound _ _ _ _ _ (show 0 ≤ y by omega) hy, run_sliceBound _ _ _ _ _ h0 (show x ≤ (y.toNat : Int) by omega)]
theorem run_sliceBounds3 {lo : Option Value} {len cap : Nat} {x y z : Int} {k2 k3 : IntKind} (isS : Bool) (h1 : Bd lo 0 x) (h0 : 0 ≤ x) (hxy : x ≤ y) (hyz : y ≤ z) (hz : z ≤ cap) : (Instr.sliceBounds isS len cap lo (some (.int k2 y)) (some (.int k3 z))).run P w = .ok (x.toNat, y.toNat, z.toNat) w := by
  have ey : (y.toNat : Int) = y := Int.toNat_of_nonneg (by omega)
  have ez : (z.toNat : Int) = z := Int.toNat_of_nonneg (by omega)
  rcases h1 with ⟨rfl, rfl⟩ | ⟨k1, rfl⟩
  · simp [Instr.sliceBounds, run_sliceBound _ _ _ _ _ (show 0 ≤ z by omega) hz, run_sliceBound _ _ _ _ _ (show 0 ≤ y by omega) (show y ≤ (z.toNat : Int) by omega)]
  · simp [Instr.sliceBounds, run_sliceBound _ _ _ _ _ (show 0 ≤ z by omega) hz, run_sliceBound _ _ _ _ _ (show 0 ≤ y by omega) (show y ≤ (z.toNat : Int) by omega), run_sliceBound _ _ _ _ _ h0 (show x ≤ (y.toNat : Int) by omega)]

/-- Not an array: 'sliceAt' is 'slice'. -/
theorem run_sliceAt_of {t : TypeId} {d : TypeDesc} (ht : P.underlying t = some d) (hd : ∀ n e, d ≠ .array n e) (x : Value) (lo hi mx : Option Value) : (Instr.sliceAt t x lo hi mx).run P w = (Instr.slice t x lo hi mx).run P w := by
  simp only [Instr.sliceAt, Sem.run_bind, run_underlying ht, Result.andThen_ok]

theorem run_slice_bounds {t et : TypeId} {sz : Nat} (ht : P.underlying t = some (.slice et)) (hsz : tsize P et = some sz) (ad : Option Addr) (len cap : Nat) (lo hi mx : Option Value) {l hh m : Nat} (hb : (Instr.sliceBounds true len cap lo hi mx).run P w = .ok (l, hh, m) w) :
    (Instr.sliceAt t (.slice ad len cap) lo hi mx).run P w = .ok (.slice (if m = l then ad else ad.map (·.add (l * sz))) (hh - l) (m - l)) w := by
  rw [run_sliceAt_of ht (by simp)]
  simp [Instr.slice, run_underlying ht, hb, run_sizeOf' hsz]

/-- A cut of a pure slice. -/
theorem V_cut {hs : List HV} {tok' : Tok} {b of cap' sz : Nat} {vals : Nat → Value} {x y : Nat} (hw : ∀ h ∈ hs, h.cells.length = sz) (hleaf : ∀ h ∈ flat hs, h.leaf = true)
    (hv : ∀ (j : Nat) (h : HV), (flat hs)[j]? = some h → V K w h (vals j)) (hc : CellsAt w b of (flat hs).length vals) (hl : 0 < (flat hs).length → of + (flat hs).length ≤ K.lim b)
    (hxy : x ≤ y) (hy : y ≤ hs.length) (hcap : y - x ≤ cap') (ad : Nat) (had : ad = of + x * sz ∨ x = y)
    (ht : TokOk K w b ad (y - x) ((y - x) * sz) cap' tok') :
    V K w (.list ((hs.take y).drop x) tok') (.slice (some ⟨b, ad, none⟩) (y - x) cap') := by
  have hfl : flat ((hs.take y).drop x) = ((flat hs).take (y * sz)).drop (x * sz) := by
    rw [flat_drop x (fun z hz => hw z (List.mem_of_mem_take hz)), flat_take y hw]
  have hlen := flat_length hw
  have hyz : y * sz ≤ hs.length * sz := Nat.mul_le_mul_right _ hy
  have hxz : x * sz ≤ y * sz := Nat.mul_le_mul_right _ hxy
  have hfn : (flat ((hs.take y).drop x)).length = (y - x) * sz := by
    rw [hfl, List.length_drop, List.length_take, Nat.min_eq_left (by omega), Nat.sub_mul]
  have hn : ((hs.take y).drop x).length = y - x := by simp; omega
  have key : 0 < (y - x) * sz → ad = of + x * sz := by
    intro h0
    rcases had with had | had
    · exact had
    · subst had; simp at h0
  have := V.list (K := K) (w := w) ((hs.take y).drop x) tok' b ad cap' sz (fun j => vals (x * sz + j)) (fun z hz => hw z (mem_sub hz))
    (fun z hz => hleaf z (by rw [hfl] at hz; exact mem_sub hz))
    (fun j z hz => by
      rw [hfl, List.getElem?_drop, List.getElem?_take] at hz
      split at hz
      · exact hv _ z hz
      · cases hz)
    (fun j hj => by
      rw [hfn] at hj
      rw [key (by omega), Nat.add_assoc]
      exact hc (x * sz + j) (by rw [Nat.sub_mul] at hj; omega))
    (fun h0 => by
      rw [hfn] at h0 ⊢
      rw [key h0]
      have h1 : 0 < (flat hs).length := by rw [Nat.sub_mul] at h0; omega
      have := hl h1
      rw [Nat.sub_mul]; omega)
    (by rw [hn]; exact hcap) (by rw [hn, hfn]; exact ht)
  rwa [hn] at this

theorem ok_slice_str {t : TypeId} {x : Operand} {y : X} {lo hi : Option Operand} {lo' hi' : Option X} (ho : o.op = .slice t x lo hi none) (ht : P.underlying t = some .string) (hx : cX x = some y) (hlo : cOpt lo = some lo') (hhi : cOpt hi = some hi')
    {s : List UInt8} (hev : y.ev e = some (.str s)) {p q : Int} (hp : bnd e 0 lo' = some p) (hq : bnd e s.length hi' = some q) (h0 : 0 ≤ p ∧ p ≤ q ∧ q ≤ s.length) (hk : k (.str ((s.take q.toNat).drop p.toNat)) h) (hh : HeapRel K h w) (he : EnvRel K w e a.tmps) : Ok P o a K w k := by
  have hx' := ev_sound hx he hev
  generalize hcx : a.eval x = cx at hx'
  cases hx'
  have hb := run_sliceBounds2 (P := P) (w := w) (len := (ByteArray.mk s.toArray).size) (cap := (ByteArray.mk s.toArray).size) false (bnd_sound hlo he hp) (by rw [size_mk]; exact bnd_sound hhi he hq) h0.1 h0.2.1 (by rw [size_mk]; exact h0.2.2)
  refine Ok.pure (v := .string ⟨((s.take q.toNat).drop p.toNat).toArray⟩) ?_ hh (.str _) hk
  simp only [execOp, ho, hcx, Option.map_none, Sem.run_bind]
  rw [run_sliceAt_of ht (by simp)]
  simp only [Instr.slice, Sem.run_bind, run_underlying ht, Result.andThen_ok, Option.isSome_none, Bool.false_eq_true, if_false, Sem.run_pure, hb]
  congr 3
  ext1
  simp [ByteArray.data_extract]
  rw [List.drop_take]

theorem ok_slice_list {t et : TypeId} {sz : Nat} {x : Operand} {y : X} {lo hi : Option Operand} {lo' hi' : Option X} (ho : o.op = .slice t x lo hi none) (ht : P.underlying t = some (.slice et)) (hsz : tsize P et = some sz) (hx : cX x = some y) (hlo : cOpt lo = some lo') (hhi : cOpt hi = some hi')
    {hs : List HV} {tok : Tok} (hev : y.ev e = some (.list hs tok)) {p q : Int} (hp : bnd e 0 lo' = some p) (hq : bnd e hs.length hi' = some q) (h0 : 0 ≤ p ∧ p ≤ q ∧ q ≤ hs.length ∧ ∀ z ∈ hs, z.cells.length = sz)
    (hk : k (.list ((hs.take q.toNat).drop p.toNat) (cutTok hi'.isNone p.toNat tok)) h) (hh : HeapRel K h w) (he : EnvRel K w e a.tmps) : Ok P o a K w k := by
  obtain ⟨h0, hpq, hql, hwid⟩ := h0
  have hx' := ev_sound hx he hev
  generalize hcx : a.eval x = cx at hx'
  obtain ⟨p', rfl⟩ : ∃ p' : Nat, p = p' := ⟨p.toNat, by omega⟩
  obtain ⟨q', rfl⟩ : ∃ q' : Nat, q = q' := ⟨q.toNat, by omega⟩
  simp only [Int.toNat_natCast] at hk
  -- without an upper bound, q is the length
  have hnone : hi' = none → q' = hs.length := by
    intro e'
    subst e'
    simp [bnd] at hq
    omega
  cases hx' with
  | nil _ htn =>
    have hb := run_sliceBounds2 (P := P) (w := w) (len := 0) (cap := 0) true (bnd_sound hlo he hp) (bnd_sound hhi he hq) (by omega) hpq (by simpa using hql)
    have hq0 : q' = 0 := by simp at hql; omega
    have hp0 : p' = 0 := by omega
    subst hq0; subst hp0
    have hr := run_slice_bounds (P := P) (w := w) ht hsz none 0 0 _ _ none hb
    refine Ok.pure (v := .slice none 0 0) ?_ hh ?_ hk
    · simp only [execOp, ho, hcx, Option.map_none, Sem.run_bind, hr, Result.andThen_ok, Sem.run_pure]
      simp
    · simp only [List.take_nil, List.drop_nil]
      refine .nil _ ?_
      cases hi' <;> cases tok <;> first | trivial | exact htn
  | list0 _ htn ad =>
    have hb := run_sliceBounds2 (P := P) (w := w) (len := 0) (cap := 0) true (bnd_sound hlo he hp) (bnd_sound hhi he hq) (by omega) hpq (by simpa using hql)
    have hq0 : q' = 0 := by simp at hql; omega
    have hp0 : p' = 0 := by omega
    subst hq0; subst hp0
    have hr := run_slice_bounds (P := P) (w := w) ht hsz (some ad) 0 0 _ _ none hb
    refine Ok.pure (v := .slice (some ad) 0 0) ?_ hh ?_ hk
    · simp only [execOp, ho, hcx, Option.map_none, Sem.run_bind, hr, Result.andThen_ok, Sem.run_pure]
      simp
    · simp only [List.take_nil, List.drop_nil]
      refine .list0 _ ?_ ad
      cases hi' <;> cases tok <;> first | trivial | exact htn
  | list _ _ b of cap sz' vals hw hleaf hv hc hlim hcap htk =>
    have hb := run_sliceBounds2 (P := P) (w := w) (len := hs.length) (cap := cap) true (bnd_sound hlo he hp) (bnd_sound hhi he hq) (by omega) hpq (by omega)
    have hr := run_slice_bounds (P := P) (w := w) ht hsz (some ⟨b, of, none⟩) hs.length cap _ _ none hb
    simp only [Int.toNat_natCast] at hr
    have hV : ∀ ad : Nat, (ad = of + p' * sz ∨ p' = q') → TokOk K w b ad (q' - p') ((q' - p') * sz) (cap - p') (cutTok hi'.isNone p' tok) → V K w (.list ((hs.take q').drop p') (cutTok hi'.isNone p' tok)) (.slice (some ⟨b, ad, none⟩) (q' - p') (cap - p')) := fun ad had ht' =>
      V_cut hwid hleaf hv hc hlim (by omega) (by omega) (by omega) ad had ht'
    have hfl := flat_length hwid
    have htok : ∀ ad : Nat, (cap = p' ∨ ad = of + p' * sz) → TokOk K w b ad (q' - p') ((q' - p') * sz) (cap - p') (cutTok hi'.isNone p' tok) := by
      intro ad had
      cases hi' with
      | some hx1 => cases tok <;> trivial
      | none =>
      have hq2 := hnone rfl
      subst hq2
      cases tok with
      | none => trivial
      | full =>
        simp only [TokOk, cutTok, Option.isNone_none, if_true] at htk ⊢
        omega
      | own i o' z =>
        simp only [cutTok, Option.isNone_none, if_true]
        obtain ⟨t1, t2, t3⟩ := htk
        have hz : hs.length = 0 ∨ z = sz := by
          rcases Nat.eq_zero_or_pos hs.length with h | h
          · exact .inl h
          · right
            rw [hfl] at t2
            exact Nat.eq_of_mul_eq_mul_left h t2.symm
        have hz' : (hs.length - p') * sz = (hs.length - p') * z := by
          rcases hz with hz | hz
          · simp [hz]
          · rw [hz]
        refine ⟨by omega, hz', fun e' => ?_⟩
        rcases t3 (by omega) with t3 | ⟨t3, t4, t5⟩
        · left; omega
        · rcases had with had | had
          · left; omega
          · right
            refine ⟨t3, ?_, ?_⟩
            · rw [← t4, hfl, had, Nat.sub_mul]
              have : p' * sz ≤ hs.length * sz := Nat.mul_le_mul_right _ (by omega)
              omega
            · obtain ⟨c, et', fr, hb', hr'⟩ := t5
              refine ⟨c, et', fr, hb', ?_⟩
              rw [had]
              rcases hz with hz | hz
              · have : p' = 0 := by omega
                subst this
                simpa using hr'
              · rw [hz] at hr'
                have : p' * sz ≤ cap * sz := Nat.mul_le_mul_right _ (by omega)
                rw [hz, Nat.sub_mul]
                omega
    by_cases hcp : cap = p'
    · refine Ok.pure (v := .slice (some ⟨b, of, none⟩) (q' - p') (cap - p')) ?_ hh (hV of (.inr (by omega)) (htok of (.inl hcp))) hk
      simp only [execOp, ho, hcx, Option.map_none, Sem.run_bind, hr, Result.andThen_ok, Sem.run_pure, if_pos hcp]
    · refine Ok.pure (v := .slice (some ⟨b, of + p' * sz, none⟩) (q' - p') (cap - p')) ?_ hh (hV _ (.inl rfl) (htok _ (.inr rfl))) hk
      simp only [execOp, ho, hcx, Option.map_none, Sem.run_bind, hr, Result.andThen_ok, Sem.run_pure, if_neg hcp, Option.map_some, Addr.add_lit]

theorem ok_slice_list3 {t et : TypeId} {sz : Nat} {x m hi0 : Operand} {y m' hi' : X} {lo : Option Operand} {lo' : Option X} (ho : o.op = .slice t x lo (some hi0) (some m)) (ht : P.underlying t = some (.slice et)) (hsz : tsize P et = some sz) (hx : cX x = some y) (hlo : cOpt lo = some lo') (hhi : cX hi0 = some hi') (hm : cX m = some m')
    {hs : List HV} {tok : Tok} (hev : y.ev e = some (.list hs tok)) {p q c : Int} (hp : bnd e 0 lo' = some p) (hq : bnd e 0 (some hi') = some q) (hc3 : bnd e 0 (some m') = some c) (h0 : 0 ≤ p ∧ p ≤ q ∧ q = c ∧ c ≤ hs.length ∧ ∀ z ∈ hs, z.cells.length = sz)
    (hk : k (.list ((hs.take q.toNat).drop p.toNat) .full) h) (hh : HeapRel K h w) (he : EnvRel K w e a.tmps) : Ok P o a K w k := by
  obtain ⟨h0, hpq, rfl, hql, hwid⟩ := h0
  have hx' := ev_sound hx he hev
  generalize hcx : a.eval x = cx at hx'
  have hbq := bnd_sound (ox := some hi0) (ob := some hi') (a := a) (by simp [cOpt, hhi]) he hq
  have hbm := bnd_sound (ox := some m) (ob := some m') (a := a) (by simp [cOpt, hm]) he hc3
  obtain ⟨k2, hbq⟩ : ∃ k2, a.eval hi0 = .int k2 q := by rcases hbq with ⟨h, _⟩ | ⟨k2, h⟩ <;> simp at h; exact ⟨k2, h⟩
  obtain ⟨k3, hbm⟩ : ∃ k3, a.eval m = .int k3 q := by rcases hbm with ⟨h, _⟩ | ⟨k2, h⟩ <;> simp at h; exact ⟨k2, h⟩
  obtain ⟨p', rfl⟩ : ∃ p' : Nat, p = p' := ⟨p.toNat, by omega⟩
  obtain ⟨q', rfl⟩ : ∃ q' : Nat, q = q' := ⟨q.toNat, by omega⟩
  simp only [Int.toNat_natCast] at hk
  cases hx' with
  | nil _ htn =>
    have hb := run_sliceBounds3 (P := P) (w := w) (len := 0) (cap := 0) (k2 := k2) (k3 := k3) true (bnd_sound hlo he hp) (by omega) hpq (Int.le_refl _) (by simpa using hql)
    have hq0 : q' = 0 := by simp at hql; omega
    have hp0 : p' = 0 := by omega
    subst hq0; subst hp0
    have hr := run_slice_bounds (P := P) (w := w) ht hsz none 0 0 _ _ _ hb
    refine Ok.pure (v := .slice none 0 0) ?_ hh (by simp only [List.take_nil, List.drop_nil]; exact .nil _ trivial) hk
    simp only [execOp, ho, hcx, Option.map_some, hbq, hbm, Sem.run_bind, hr, Result.andThen_ok, Sem.run_pure]
    simp
  | list0 _ htn ad =>
    have hb := run_sliceBounds3 (P := P) (w := w) (len := 0) (cap := 0) (k2 := k2) (k3 := k3) true (bnd_sound hlo he hp) (by omega) hpq (Int.le_refl _) (by simpa using hql)
    have hq0 : q' = 0 := by simp at hql; omega
    have hp0 : p' = 0 := by omega
    subst hq0; subst hp0
    have hr := run_slice_bounds (P := P) (w := w) ht hsz (some ad) 0 0 _ _ _ hb
    refine Ok.pure (v := .slice (some ad) 0 0) ?_ hh (by simp only [List.take_nil, List.drop_nil]; exact .list0 .full trivial ad) hk
    simp only [execOp, ho, hcx, Option.map_some, hbq, hbm, Sem.run_bind, hr, Result.andThen_ok, Sem.run_pure]
    simp
  | list _ _ b of cap sz' vals hw hleaf hv hc hlim hcap htk =>
    have hb := run_sliceBounds3 (P := P) (w := w) (len := hs.length) (cap := cap) (k2 := k2) (k3 := k3) true (bnd_sound hlo he hp) (by omega) hpq (Int.le_refl _) (by omega)
    have hr := run_slice_bounds (P := P) (w := w) ht hsz (some ⟨b, of, none⟩) hs.length cap _ _ _ hb
    simp only [Int.toNat_natCast] at hr
    have hV : ∀ ad : Nat, (ad = of + p' * sz ∨ p' = q') → V K w (.list ((hs.take q').drop p') .full) (.slice (some ⟨b, ad, none⟩) (q' - p') (q' - p')) := fun ad had =>
      V_cut hwid hleaf hv hc hlim (by omega) (by omega) (by omega) ad had rfl
    by_cases hcp : q' = p'
    · refine Ok.pure (v := .slice (some ⟨b, of, none⟩) (q' - p') (q' - p')) ?_ hh (hV of (.inr hcp.symm)) hk
      simp only [execOp, ho, hcx, Option.map_some, hbq, hbm, Sem.run_bind, hr, Result.andThen_ok, Sem.run_pure, if_pos hcp]
    · refine Ok.pure (v := .slice (some ⟨b, of + p' * sz, none⟩) (q' - p') (q' - p')) ?_ hh (hV _ (.inl rfl)) hk
      simp only [execOp, ho, hcx, Option.map_some, hbq, hbm, Sem.run_bind, hr, Result.andThen_ok, Sem.run_pure, if_neg hcp, Addr.add_lit]

theorem ok_slice_arr {t et : TypeId} {sz : Nat} {x : Operand} {y : X} {lo hi : Option Operand} {lo' hi' : Option X} (ho : o.op = .slice t x lo hi none) (ht : P.underlying t = some (.slice et)) (hsz : tsize P et = some sz) (hx : cX x = some y) (hlo : cOpt lo = some lo') (hhi : cOpt hi = some hi')
    {id off n z : Nat} (hev : y.ev e = some (.arr id off n z)) {p q : Int} (hp : bnd e 0 lo' = some p) (hq : bnd e n hi' = some q) (h0 : z = sz ∧ 0 ≤ p ∧ p ≤ q ∧ q ≤ n)
    (hk : k (.arr id (off + p.toNat * sz) (q - p).toNat sz) h) (hh : HeapRel K h w) (he : EnvRel K w e a.tmps) : Ok P o a K w k := by
  obtain ⟨rfl, h0, hpq, hqn⟩ := h0
  have hx' := ev_sound hx he hev
  generalize hcx : a.eval x = cx at hx'
  obtain ⟨p', rfl⟩ : ∃ p' : Nat, p = p' := ⟨p.toNat, by omega⟩
  obtain ⟨q', rfl⟩ : ∃ q' : Nat, q = q' := ⟨q.toNat, by omega⟩
  have hqp : ((q' : Int) - (p' : Int)).toNat = q' - p' := by omega
  simp only [Int.toNat_natCast, hqp] at hk
  cases hx' with
  | arr _ _ _ _ b cap off' hr hcap hoff hroom =>
    have hb := run_sliceBounds2 (P := P) (w := w) (len := n) (cap := cap) true (bnd_sound hlo he hp) (bnd_sound hhi he hq) (by omega) hpq (by omega)
    have hrun := run_slice_bounds (P := P) (w := w) ht hsz (some ⟨b, off', none⟩) n cap _ _ none hb
    simp only [Int.toNat_natCast] at hrun
    by_cases hcp : cap = p'
    · refine Ok.pure (v := .slice (some ⟨b, off', none⟩) (q' - p') (cap - p')) ?_ hh (.arr id _ _ z b _ off' hr (by omega) (by omega) ?_) hk
      · simp only [execOp, ho, hcx, Option.map_none, Sem.run_bind, hrun, Result.andThen_ok, Sem.run_pure, if_pos hcp]
      · obtain ⟨c, et', fr, hb', hr'⟩ := hroom
        exact ⟨c, et', fr, hb', by rw [hcp]; simp; omega⟩
    · refine Ok.pure (v := .slice (some ⟨b, off' + p' * z, none⟩) (q' - p') (cap - p')) ?_ hh (.arr id _ _ z b _ _ hr (by omega) (fun h1 => by rw [hoff (by omega)]) ?_) hk
      · simp only [execOp, ho, hcx, Option.map_none, Sem.run_bind, hrun, Result.andThen_ok, Sem.run_pure, if_neg hcp, Option.map_some, Addr.add_lit]
      · obtain ⟨c, et', fr, hb', hr'⟩ := hroom
        refine ⟨c, et', fr, hb', ?_⟩
        have : p' * z ≤ cap * z := Nat.mul_le_mul_right _ (by omega)
        rw [Nat.sub_mul]; omega
  | arrn _ _ _ =>
    obtain rfl : p' = 0 := by omega
    obtain rfl : q' = 0 := by omega
    have hb := run_sliceBounds2 (P := P) (w := w) (len := 0) (cap := 0) true (bnd_sound hlo he hp) (bnd_sound hhi he hq) (by omega) hpq (by omega)
    have hrun := run_slice_bounds (P := P) (w := w) ht hsz none 0 0 _ _ none hb
    simp only [Int.toNat_natCast] at hrun
    refine Ok.pure (v := .slice none 0 0) ?_ hh (.arrn _ _ _) hk
    simp only [execOp, ho, hcx, Option.map_none, Sem.run_bind, hrun, Result.andThen_ok, Sem.run_pure]
    simp
  | arr0 _ _ _ b o =>
    obtain rfl : p' = 0 := by omega
    obtain rfl : q' = 0 := by omega
    have hb := run_sliceBounds2 (P := P) (w := w) (len := 0) (cap := 0) true (bnd_sound hlo he hp) (bnd_sound hhi he hq) (by omega) hpq (by omega)
    have hrun := run_slice_bounds (P := P) (w := w) ht hsz (some ⟨b, o, none⟩) 0 0 _ _ none hb
    simp only [Int.toNat_natCast] at hrun
    refine Ok.pure (v := .slice (some ⟨b, o, none⟩) 0 0) ?_ hh (.arr0 _ _ _ _ _) hk
    simp only [execOp, ho, hcx, Option.map_none, Sem.run_bind, hrun, Result.andThen_ok, Sem.run_pure]
    simp

theorem ok_slicearr {t et : TypeId} {sz m : Nat} {x : Operand} {y : X} {lo hi : Option Operand} {lo' hi' : Option X} (ho : o.op = .slice t x lo hi none) (ht : P.underlying t = some (.array m et)) (hsz : tsize P et = some sz) (hx : cX x = some y) (hlo : cOpt lo = some lo') (hhi : cOpt hi = some hi')
    (hs : hstep base (.slicearr m sz y lo' hi') e h k) (hh : HeapRel K h w) (he : EnvRel K w e a.tmps) : Ok P o a K w k := by
  simp only [hstep] at hs
  split at hs
  · rename_i id off hev
    split at hs
    · rename_i p q cs hp hq hcs
      obtain ⟨⟨h0, hpq, hqn, hlen⟩, hk⟩ := hs
      have hx' := ev_sound hx he hev
      generalize hcx : a.eval x = cx at hx'
      obtain ⟨p', rfl⟩ : ∃ p' : Nat, p = p' := ⟨p.toNat, by omega⟩
      obtain ⟨q', rfl⟩ : ∃ q' : Nat, q = q' := ⟨q.toNat, by omega⟩
      have hqp : ((q' : Int) - (p' : Int)).toNat = q' - p' := by omega
      simp only [Int.toNat_natCast, hqp] at hk
      cases hx' with
      | ptr _ _ b hr =>
        obtain ⟨c, et', fr, hb', hlen', _, hvs⟩ := heap_cells hh hr hcs
        have hb := run_sliceBounds2 (P := P) (w := w) (len := m) (cap := m) false (bnd_sound hlo he hp) (bnd_sound hhi he hq) (by omega) hpq (by omega)
        simp only [Int.toNat_natCast] at hb
        have hrun : (Instr.sliceAt t (.pointer (some ⟨b, off, none⟩)) (lo.map a.eval) (hi.map a.eval) none).run P w = .ok (.slice (some (if m = p' then ⟨b, off, none⟩ else ⟨b, off + p' * sz, none⟩)) (q' - p') (m - p')) w := by
          simp only [Instr.sliceAt, Sem.run_bind, run_underlying ht, Result.andThen_ok, Instr.sureAddr, Sem.run_pure, hb, run_sizeOf' hsz, Addr.add_lit]
        have hmz : p' * sz ≤ m * sz := Nat.mul_le_mul_right _ (by omega)
        by_cases hcp : m = p'
        · rw [if_pos hcp] at hrun
          refine Ok.pure (v := .slice (some ⟨b, off, none⟩) (q' - p') (m - p')) ?_ hh (.arr id _ _ sz b _ off hr (by omega) (by omega) ⟨c, et', fr, hb', by rw [hcp]; simp; omega⟩) hk
          simp only [execOp, ho, hcx, Option.map_none, Sem.run_bind, hrun, Result.andThen_ok, Sem.run_pure]
        · rw [if_neg hcp] at hrun
          refine Ok.pure (v := .slice (some ⟨b, off + p' * sz, none⟩) (q' - p') (m - p')) ?_ hh (.arr id _ _ sz b _ _ hr (by omega) (fun _ => rfl) ⟨c, et', fr, hb', by rw [Nat.sub_mul]; omega⟩) hk
          simp only [execOp, ho, hcx, Option.map_none, Sem.run_bind, hrun, Result.andThen_ok, Sem.run_pure]
    · exact hs.elim
  · exact hs.elim

end
end Go.Hw
