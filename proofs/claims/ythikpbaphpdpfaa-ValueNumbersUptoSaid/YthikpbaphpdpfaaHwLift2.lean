/- What is read, as lists and numbers; a law's contract out of a call of Hw's. -/
import Derived.Test.YthikpbaphpdpfaaHwLift
import Derived.WideKeyArgs
import Derived.OpenShut
set_option linter.unusedVariables false
set_option linter.unusedSimpArgs false
namespace Go.Hw
open Go

section
variable {H : Type} {enc : TypeId × Value → H} {P : Program} {W : World}

/-! ### what is read -/
def Rd (enc : TypeId × Value → H) (P : Program) (W : World) (t : TypeId) (d : DataW H) : Prop := ∃ fuel cs ps, DataW.trod enc P W 0 (fun _ => true) true fuel t cs = some (d, ps)
theorem rd_of {t : TypeId} {v : Value} {d : DataW H} {ps : List MemPlace} (h : DataW.Trod enc P W 0 (fun _ => true) true t v d ps) : Rd enc P W t d := by
  obtain ⟨n, hn⟩ := h
  exact ⟨n, _, ps, hn⟩
theorem rd_int {t : TypeId} {k : IntKind} {d : DataW H} (ht : P.underlying t = some (.int k)) (h : Rd enc P W t d) : ∃ n, hvOf d = .int k n ∧ k.min ≤ n ∧ n ≤ k.max := by
  obtain ⟨n, cs, ps, h⟩ := h
  obtain ⟨m, _, hx, hw⟩ := DataW.trod_int ht h
  injection hx with hx _
  subst hx
  simp only [Lit.wf, Bool.and_eq_true, decide_eq_true_eq] at hw
  exact ⟨m, by simp [hvOf], hw.1, hw.2⟩
theorem rd_bool {t : TypeId} {d : DataW H} (ht : P.underlying t = some .bool) (h : Rd enc P W t d) : ∃ b, hvOf d = .bool b := by
  obtain ⟨n, cs, ps, h⟩ := h
  obtain ⟨m, _, hx⟩ := DataW.trod_bool ht h
  injection hx with hx _
  subst hx
  exact ⟨m, by simp [hvOf]⟩
theorem rd_str {t : TypeId} {d : DataW H} (ht : P.underlying t = some .string) (h : Rd enc P W t d) : ∃ s : List UInt8, hvOf d = .str s ∧ s.length ≤ 9223372036854775807 := by
  obtain ⟨n, cs, ps, h⟩ := h
  obtain ⟨m, _, hx, hs⟩ := DataW.trod_string ht h
  injection hx with hx _
  subst hx
  exact ⟨m.data.toList, by simp [hvOf], by
    have h' : m.size ≤ 9223372036854775807 := hs
    have e1 : m.data.toList.length = m.size := by rw [Array.length_toList]; rfl
    rw [e1]
    exact h'⟩
theorem rd_list {A : Type} {t e : TypeId} {f : A → HV} {p : A → Prop} (ht : P.underlying t = some (.slice e)) (he : ∀ y : DataW H, Rd enc P W e y → ∃ a, hvOf y = f a ∧ p a) {d : DataW H} (h : Rd enc P W t d) : ∃ l : List A, hvOf d = .list (l.map f) .none ∧ l.length ≤ 9223372036854775807 ∧ ∀ a ∈ l, p a := by
  obtain ⟨n, cs, ps, h⟩ := h
  rcases DataW.trod_slice ht h with ⟨_, hx⟩ | ⟨a, len, cap, elems, rest, n, rfl, rfl, hx, _, hlc, hcm, hlen, hel, hsp, _⟩
  · injection hx with hx _
    subst hx
    exact ⟨[], by simp [hvOf], by simp, by simp⟩
  · injection hx with hx _
    subst hx
    have each : ∀ y ∈ elems, Rd enc P W e y.1 := by
      intro y hy
      obtain ⟨i, hi⟩ := mem_get hy
      have := hel i (by rw [← hlen]; exact lt_of_get hi)
      rw [hi, Option.bind_eq_some_iff] at this
      obtain ⟨cs', _, h2⟩ := this
      exact ⟨n, cs', y.2, h2⟩
    have hl : elems.length ≤ 9223372036854775807 := by rw [hlen]; exact Nat.le_trans hlc hcm
    clear hel hlen hsp h
    have key : ∀ l : List (DataW H × List MemPlace), (∀ y ∈ l, Rd enc P W e y.1) → ∃ r : List A, l.map (hvOf ∘ Prod.fst) = r.map f ∧ r.length = l.length ∧ ∀ a ∈ r, p a := by
      intro l
      induction l with
      | nil => intro _; exact ⟨[], rfl, rfl, by simp⟩
      | cons y l ih =>
        intro h
        obtain ⟨r, h1, h2, h3⟩ := ih fun z hz => h z (by simp [hz])
        obtain ⟨a, h4, h5⟩ := he y.1 (h y (by simp))
        refine ⟨a :: r, by simp [h1, h4], by simp [h2], fun b hb => ?_⟩
        simp at hb
        rcases hb with rfl | hb
        · exact h5
        · exact h3 b hb
    obtain ⟨r, h1, h2, h3⟩ := key elems each
    exact ⟨r, by simp only [hvOf, hvOfs_map, List.map_map]; rw [← h1], by rw [h2]; exact hl, h3⟩
theorem rd_bytes {t e : TypeId} {d : DataW H} (ht : P.underlying t = some (.slice e)) (he : P.underlying e = some (.int .u8)) (h : Rd enc P W t d) : ∃ s : List UInt8, hvOf d = eB s ∧ s.length ≤ 9223372036854775807 := by
  obtain ⟨l, h1, h2, _⟩ := rd_list (f := fun c : UInt8 => .int .u8 c.toNat) (p := fun _ => True) ht (fun y hy => by
    obtain ⟨n, h1, h2, h3⟩ := rd_int he hy
    refine ⟨UInt8.ofNat n.toNat, ?_, trivial⟩
    simp only [IntKind.min, IntKind.max, IntKind.signed, IntKind.bits] at h2 h3
    rw [h1]
    congr 1
    simp at h2 h3 ⊢
    try omega) h
  exact ⟨l, h1, h2⟩
/-- A struct's cells. -/
theorem rd_struct {t : TypeId} {fs : Array Field} {d : DataW H} (ht : P.underlying t = some (.struct fs)) (h : Rd enc P W t d) : ∃ xs : List (DataW H), d = .agg xs ∧ xs.length = fs.size ∧ ∀ (i : Nat) (f : Field) (y : DataW H), fs[i]? = some f → xs[i]? = some y → Rd enc P W f.type y := by
  obtain ⟨n, cs, ps, h⟩ := h
  obtain ⟨xs, n, rfl, hx, _, h2, h3⟩ := DataW.trod_struct ht h
  injection hx with hx _
  subst hx
  refine ⟨_, rfl, by simp [h2], fun i f y hf hy => ?_⟩
  rw [List.getElem?_map] at hy
  obtain ⟨z, hz, rfl⟩ := Option.map_eq_some_iff.1 hy
  have := h3 i f hf
  rw [hz] at this
  exact ⟨n, _, z.2, this⟩

/-! ### the arguments -/
def scalarB (P : Program) (t : TypeId) : Bool :=
  (match P.underlying t with
    | some .bool | some (.int _) | some .string | some (.slice _) => true
    | _ => false) && P.cellsOf t == 1
theorem arg_V {t : TypeId} {v : Value} {d : DataW H} {ps : List MemPlace} {n base : Nat} (hp : plainL P n t = true) (hs : scalarB P t = true) (hok : Value.okWide P W .any base t v) (h : DataW.Trod enc P W 0 (fun _ => true) true t v d ps) : V (K0 W) W (hvOf d) v := by
  obtain ⟨m, hm⟩ := h
  simp only [scalarB, Bool.and_eq_true, beq_iff_eq] at hs
  obtain ⟨hk, hc⟩ := hs
  rcases trod_V n m t _ _ hp hm with ⟨⟨h1, h2, h3⟩, h4, _⟩ | ⟨h1, _⟩
  · simp only at h1 h3 h4
    have hcells : v.cells = #[v] := by
      cases v <;> first | rfl | skip
      exfalso
      unfold Value.okWide at hok
      split at hk <;> first | (cases hk; done) | (rename_i hu; simp only [hu, Cell.okWide, Cell.ok] at hok)
    rw [hcells] at h1 h3
    -- one cell
    have hy : ∃ y, (hvOf d).cells = [y] := by
      match hh : (hvOf d).cells, h4 with
      | [y], _ => exact ⟨y, rfl⟩
      | [], h => rw [hc] at h; simp at h
      | _ :: _ :: _, h => rw [hc] at h; simp at h
    obtain ⟨y, hy⟩ := hy
    have hV := h3 0 y v (by rw [hy]; rfl) rfl
    have : hvOf d = y := by
      cases hd : hvOf d <;> rw [hd] at hy <;> simp only [HV.cells] at hy <;> first
        | (injection hy with hy _)
        | skip
      -- an aggregate
      exfalso
      rename_i cs
      split at hk
      · rename_i hu; obtain ⟨_, _, hx⟩ := DataW.trod_bool hu hm; injection hx with hx _; subst hx; simp [hvOf] at hd
      · rename_i hu; obtain ⟨_, _, hx, _⟩ := DataW.trod_int hu hm; injection hx with hx _; subst hx; simp [hvOf] at hd
      · rename_i hu; obtain ⟨_, _, hx, _⟩ := DataW.trod_string hu hm; injection hx with hx _; subst hx; simp [hvOf] at hd
      · rename_i hu; rcases DataW.trod_slice hu hm with ⟨_, hx⟩ | ⟨_, _, _, _, _, _, _, _, hx, _⟩ <;> (injection hx with hx _; subst hx; simp [hvOf] at hd)
      · cases hk
    rw [this]
    exact hV
  · exact absurd hc h1

/-! ### behind the call -/
theorem kept_of {W' : World} {K' : GK} (s : Step (K0 W) W K' W') : ∀ b, b < W.heap.size → W'.heap[b]? = W.heap[b]? := fun b hb =>
  (s.frame b hb (by rintro (⟨i, h⟩ | ⟨i, h⟩) <;> simp [K0] at h)).1
theorem keptBut_of {W' : World} {K' : GK} (s : Step (K0 W) W K' W') (may : MemPlace → Prop) : W.keptBut W' may := by
  refine ⟨s.os, s.output, fun i hi => ?_⟩
  rw [kept_of s i hi]
  cases hw : W.heap[i]? with
  | none => trivial
  | some o => cases o <;> first | rfl | exact ⟨rfl, rfl, rfl, fun _ _ => rfl⟩ | exact .inr ⟨rfl, rfl⟩
theorem args_stay {W' : World} {K' : GK} (s : Step (K0 W) W K' W') (hl : laidOutB P = true) : ∀ {ts : List TypeId} {vs : List Value} {ds : List (DataW H)} {ps : List MemPlace}, (∀ t ∈ ts, P.readableRec t = true ∧ t < P.types.size) → DataW.TrodAll enc P W 0 (fun _ => true) true ts vs ds ps → (∀ p ∈ ps, p.block < W.heap.size) → ∀ sp : Nat → Bool, (∀ p ∈ ps, sp p.block = true) → DataW.TrodAll enc P W' 0 sp true ts vs ds ps
  | [], [], [], _, _, h, _, _, _ => h
  | t :: ts, v :: vs, d :: ds, _, ht, ⟨p, q, h1, h2, rfl⟩, hlt, sp, hsp => by
    have hsame : ∀ x ∈ p, W.sameAt W' x := by
      intro x hx
      have hb := kept_of s x.block (hlt x (by simp [hx]))
      cases x with
      | cell b off => exact World.cell?_of_block hb
      | map b => exact hb
    exact ⟨p, q, WideElems.Trod_stays hl (ht t (by simp)).1 (ht t (by simp)).2 h1 hsame (fun x hx => hsp x (by simp [hx])), args_stay s hl (fun t ht' => ht t (by simp [ht'])) h2 (fun x hx => hlt x (by simp [hx])) sp (fun x hx => hsp x (by simp [hx])), rfl⟩
  | [], [], _ :: _, _, _, h, _, _, _ => h.elim
  | [], _ :: _, _, _, _, h, _, _, _ => h.elim
  | _ :: _, [], _, _, _, h, _, _, _ => h.elim
  | _ :: _, _ :: _, [], _, _, h, _, _, _ => h.elim
theorem post_same {f : Func} {s : ChangeSpec} {apart fresh handsOn again : Bool} {W' : World} {args : Array Value} {v : Value} {ds gs : List (DataW H)} {before pa pv : List MemPlace}
    (hW : DataW.Whole enc P f.params.toList s.vars apart W args.toList ds gs before)
    (hres : ∀ (b : Nat) (sp : Nat → Bool) (hd : Bool), DataW.TrodAll enc P W' b sp hd f.resultTypes.toList (v.resultList f.resultTypes.size) (s.fn H (ds ++ gs)).results [])
    (hargs : ∀ sp : Nat → Bool, (∀ p ∈ before, sp p.block = true) → DataW.TrodAll enc P W' 0 sp true f.params.toList args.toList (s.fn H (ds ++ gs)).args pa)
    (hvars : ∀ sp : Nat → Bool, (∀ p ∈ before, sp p.block = true) → DataW.TrodVars enc P W' sp s.vars (s.fn H (ds ++ gs)).vars pv)
    (hps : before = pa ++ pv) (hk : W.keptBut W' (· ∈ before)) (hfz : ∀ a : Addr, a.block < W.heap.size → W'.frozen? a = W.frozen? a)
    (hok : ∀ (j : Nat) (t : TypeId) (r : Value), f.resultTypes[j]? = some t → (v.resultList f.resultTypes.size)[j]? = some r → Value.okWide P W' .any 0 t r) :
    s.post enc P f apart fresh handsOn again W args v W' := by
  have hlt : ∀ p ∈ before, p.block < W.heap.size := fun p hp => hW.lt p hp
  have hold : ∀ p ∈ before, (fun b => decide (b < W.heap.size)) p.block = true := fun p hp => by simpa using hlt p hp
  refine ⟨ds, gs, before, [], pa, pv, hW, hres _ _ _, hargs _ hold, hvars _ hold, World.keptBut_mono (fun p hp => ⟨hp, ?_⟩) hk, fun _ => ?_⟩
  · rw [hps, List.mem_append] at hp
    exact Or.inr hp
  · obtain ⟨_, _, _, _, _, hz, hn⟩ := hW
    refine ⟨hok, _, _, ([] ++ pa) ++ pv, ⟨[] ++ pa, pv, ChangeShapes.trodAll_append (hargs _ (fun _ _ => rfl)) (hres _ _ _), hvars _ (fun _ _ => rfl), rfl, ?_, ?_⟩, ?_⟩
    · intro b off hp
      have hb : MemPlace.cell b off ∈ before := by rw [hps]; simpa using hp
      rw [hfz _ (hlt _ hb)]
      exact hz b off hb
    · intro ha
      have := hn ha
      rw [hps] at this
      simpa using this
    · intro p hp _
      rw [hps]
      simpa using hp

/-- A LAW: its call, spoken of in Hw, is its contract. -/
theorem law_contract {f : FuncId} {fn : Func} {s : ChangeSpec} {apart fresh handsOn again : Bool} {tb : TypeId} {base n : Nat} {args : Array Value} {ds gs : List (DataW H)} {before : List MemPlace} (hl : laidOutB P = true) (hvars : s.vars = [])
    (hres : fn.resultTypes = #[tb]) (htb : P.underlying tb = some .bool) (hpl : fn.params.toList.all (fun t => plainL P n t && scalarB P t && P.readableRec t && decide (t < P.types.size)) = true)
    (hspec : (s.fn H ds).results = [.lit (.bool true)] ∧ (s.fn H ds).args = ds ∧ (s.fn H ds).vars = [])
    (hval : ∀ (j : Nat) t v, fn.params[j]? = some t → args[j]? = some v → Value.okWide P W .any base t v)
    (hW : DataW.Whole enc P fn.params.toList s.vars apart W args.toList ds gs before)
    (hcall : HCalls P f (ds.map hvOf) [] fun x _ => x = .bool true) :
    Calls P f args W fun e W' => ∃ v, e = .returned v ∧ s.post enc P fn apart fresh handsOn again W args v W' := by
  have hlt : ∀ p ∈ before, p.block < W.heap.size := fun p hp => hW.lt p hp
  have hW' := hW
  obtain ⟨p, q, hA, hV, hpq, hfz, hnd⟩ := hW
  rw [hvars] at hV
  obtain ⟨rfl, rfl⟩ := ChangeShapes.trodVars_none hV
  simp only [List.append_nil] at hpq
  subst hpq
  -- the values
  have hall : ∀ {ts : List TypeId} {vs : List Value} {ds : List (DataW H)} {ps : List MemPlace}, ts.all (fun t => plainL P n t && scalarB P t && P.readableRec t && decide (t < P.types.size)) = true → (∀ (j : Nat) t v, ts[j]? = some t → vs[j]? = some v → Value.okWide P W .any base t v) → DataW.TrodAll enc P W 0 (fun _ => true) true ts vs ds ps →
      ds.length = vs.length ∧ ∀ (j : Nat) (x : HV) (v : Value), (ds.map hvOf)[j]? = some x → vs[j]? = some v → V (K0 W) W x v := by
    intro ts
    induction ts with
    | nil =>
      intro vs ds ps _ _ h
      cases vs <;> cases ds <;> first | exact h.elim | skip
      exact ⟨rfl, fun j x v hx => by simp at hx⟩
    | cons t ts ih =>
      intro vs ds ps hp hv h
      cases vs with
      | nil => cases ds <;> exact h.elim
      | cons v vs =>
        cases ds with
        | nil => exact h.elim
        | cons d ds =>
          obtain ⟨p, q, h1, h2, _⟩ := h
          simp only [List.all_cons, Bool.and_eq_true] at hp
          obtain ⟨g1, g2⟩ := ih hp.2 (fun j t v ht hvv => hv (j + 1) t v (by simpa using ht) (by simpa using hvv)) h2
          refine ⟨by simp [g1], fun j x u hx hu => ?_⟩
          cases j with
          | zero =>
            simp at hx hu
            subst hx; subst hu
            exact arg_V hp.1.1.1.1 hp.1.1.1.2 (hv 0 t v rfl rfl) h1
          | succ j => exact g2 j x u (by simpa using hx) (by simpa using hu)
  obtain ⟨g1, g2⟩ := hall hpl (fun j t v ht hv => hval j t v (by simpa using ht) (by simpa using hv)) hA
  have := hcall.2 (K0 W) W args.toList (heap0 W) (by simpa using g1) g2
  simp only [Array.toArray_toList] at this
  refine this.mono ?_
  rintro e W' ⟨v, x, K', h', rfl, s', hh', hVx, rfl⟩
  cases hVx
  refine ⟨_, rfl, post_same (pa := before) (pv := []) hW' (fun b sp hd => ?_) (fun sp hsp => ?_) (fun sp _ => ?_) (by simp) (keptBut_of s' _) (fun a ha => ?_) (RowKit.ok_one hres rfl (RowKit.okWide_bool_mk htb _))⟩
  · rw [List.append_nil, hspec.1, hres]
    exact ChangeShapes.trodAll_mk1 (RowKit.shut_bool htb _)
  · rw [List.append_nil, hspec.2.1]
    refine args_stay s' hl (fun t ht => ?_) hA hlt sp hsp
    have := List.all_eq_true.1 hpl t ht
    simp only [Bool.and_eq_true, decide_eq_true_eq] at this
    exact ⟨this.1.2, this.2⟩
  · rw [List.append_nil, hspec.2.2, hvars]
    rfl
  · unfold World.frozen?
    rw [kept_of s' a.block ha]
end
end Go.Hw
