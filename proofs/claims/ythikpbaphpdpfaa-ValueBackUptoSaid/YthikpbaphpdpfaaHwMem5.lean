/- append, the operation; the bytes of a string; make. -/
import Derived.Test.YthikpbaphpdpfaaHwMem4
set_option linter.unusedVariables false
set_option linter.unusedSimpArgs false
namespace Go.Hw
open Go

variable {P : Program}

/-- What is appended: m elements, cells news. -/
structure Src (P : Program) (w : World) (sz m : Nat) (x : Value) (news : List Value) : Prop where
  len : ∀ w', (Builtin.lenOf x).run P w' = .ok m w'
  cells : ∀ w' : World, (∀ ad, w'.cell? ad = w.cell? ad) → (Builtin.firstCells sz m x).run P w' = .ok news.toArray w'
  size : news.length = m * sz

section
variable {w : World} {t u ty et : TypeId} {i : TypeInfo} {z : Value} {sz : Nat}

theorem zeros_false {d : TypeDesc} (hd : (∃ e, d = .slice e) ∨ d = .string) : (match d with | .int _ => true | _ => false) = false := by
  rcases hd with ⟨e, rfl⟩ | rfl <;> rfl

/-- append where nothing is added. -/
theorem run_append_zero {d : TypeDesc} (ht : P.underlying t = some (.slice et)) (hu : P.underlying u = some d) (hd : (∃ e, d = .slice e) ∨ d = .string) (hi : P.info? et = some i) (base : Option Addr) (n cap : Nat) (hcap : n ≤ cap) {x : Value} (hx : Src P w i.size 0 x []) :
    (Builtin.append_ #[t, u] ty #[.slice base n cap, x]).run P w = .ok (.slice base n cap) w := by
  have h1 := hx.len w
  have h2 := hx.cells w (fun _ => rfl)
  rcases hd with ⟨e, rfl⟩ | rfl <;> cases base <;>
    simp [Builtin.append_, run_underlying ht, run_underlying hu, sizeOf, typeInfo, hi, h1, h2, hcap, storeCells]

/-- append within the capacity. -/
theorem run_append_fits {d : TypeDesc} (ht : P.underlying t = some (.slice et)) (hu : P.underlying u = some d) (hd : (∃ e, d = .slice e) ∨ d = .string) (hi : P.info? et = some i) (b o n cap m : Nat) (hcap : n + m ≤ cap) {x : Value} {news : List Value} (hx : Src P w i.size m x news)
    {w' : World} (hst : (storeCells ⟨b, o + n * i.size, none⟩ news).run P w = .ok () w') :
    (Builtin.append_ #[t, u] ty #[.slice (some ⟨b, o, none⟩) n cap, x]).run P w = .ok (.slice (some ⟨b, o, none⟩) (n + m) cap) w' := by
  have h1 := hx.len w
  have h2 := hx.cells w (fun _ => rfl)
  rcases hd with ⟨e, rfl⟩ | rfl <;>
    simp [Builtin.append_, run_underlying ht, run_underlying hu, sizeOf, typeInfo, hi, h1, h2, hcap, Addr.add_lit, hst]

/-- append beyond the capacity: a new block. -/
theorem run_append_new {d : TypeDesc} (ht : P.underlying t = some (.slice et)) (hu : P.underlying u = some d) (hd : (∃ e, d = .slice e) ∨ d = .string) (hi : P.info? et = some i) (hz : i.zero = some z) (base : Option Addr) (n cap m : Nat) (hcap : cap < n + m) {x : Value} {news olds : List Value} (hx : Src P w i.size m x news)
    (hold : ∀ w' : World, (∀ ad, w'.cell? ad = w.cell? ad) → (Builtin.firstCells i.size n (.slice base n cap)).run P w' = .ok olds.toArray w') (hfit : (n + m) * i.bytes ≤ 140737488355328) (h63 : n + m ≤ 9223372036854775807) :
    (Builtin.append_ #[t, u] ty #[.slice base n cap, x]).run P w = .ok (.slice (some ⟨w.heap.size, 0, none⟩) (n + m) (grownCap w (n + m) cap et)) (w.drew.alloc (.cells (olds ++ news ++ (Builtin.zeroCells z.cells (grownCap w (n + m) cap et - (n + m))).toList).toArray et)) := by
  have h1 := hx.len w
  have h2 := hx.cells w.drew (fun _ => rfl)
  have h3 := hold w.drew (fun _ => rfl)
  have hn : ¬ (n + m ≤ cap) := by omega
  have h48 := growslice_fits hcap hfit
  have h48' : ¬ (281474976710656 < Builtin.nextslicecap (n + m) cap * i.bytes) := by omega
  have h63' : ¬ (9223372036854775807 < ((n : Int) + (m : Int))) := by omega
  rcases hd with ⟨e, rfl⟩ | rfl <;>
    (simp [Builtin.append_, run_underlying ht, run_underlying hu, sizeOf, typeInfo, zeroValue, hi, hz, h1, hn, h63', h48', Question.forced, h2, h3, newRow, grownCap]
     congr 2
     apply Array.ext'
     simp [List.append_assoc])
end

theorem grownCap_big (w : World) (n c : Nat) (e : TypeId) : n ≤ grownCap w n c e := grownCap_ge w n c e

section
variable {o : Oper} {a : Act} {K : GK} {w : World} {k : HV → Heap → Prop} {e : Env} {h : Heap} (base : Nat)

/-- A pure slice as the source of an append. -/
theorem src_list {ys : List HV} {tok : Tok} {v : Value} {sz : Nat} (hv : V K w (.list ys tok) v) (hw : ∀ y ∈ ys, y.cells.length = sz) :
    ∃ news, Src P w sz ys.length v news ∧ ∀ (j : Nat) (y : HV), (flat ys)[j]? = some y → y.leaf = true ∧ ∃ u, news[j]? = some u ∧ V K w y u := by
  cases hv with
  | nil _ _ => exact ⟨[], ⟨fun w' => by simp [Builtin.lenOf], fun w' _ => by simp [Builtin.firstCells], by simp⟩, fun j y hy => by simp [flat] at hy⟩
  | list0 _ _ ad =>
    refine ⟨[], ⟨fun w' => by simp [Builtin.lenOf], fun w' _ => ?_, by simp⟩, fun j y hy => by simp [flat] at hy⟩
    have := run_loadCells w' ad 0 (fun _ => (.bool false)) (P := P) (fun j hj => absurd hj (by omega))
    simpa [Builtin.firstCells] using this
  | list _ _ b of cap sz' vals hw' hleaf hvv hc hlim hcap htk =>
    have hfl := flat_length hw
    refine ⟨(List.range (flat ys).length).map vals, ⟨fun w' => by simp [Builtin.lenOf], fun w' hw' => ?_, by simp [hfl]⟩, fun j y hy => ?_⟩
    · simp only [Builtin.firstCells]
      rw [← hfl]
      exact run_loadCells w' ⟨b, of, none⟩ _ vals (fun j hj => by rw [Addr.add_lit, hw']; exact hc j hj)
    · exact ⟨hleaf y (List.mem_of_getElem? hy), vals j, by simp [lt_of_get hy], hvv j y hy⟩
theorem src_str (s : List UInt8) : Src P w 1 s.length (.string ⟨s.toArray⟩) (s.map fun c => .int .u8 c.toNat) := by
  refine ⟨fun w' => by simp [Builtin.lenOf, size_mk], fun w' _ => ?_, by simp⟩
  simp only [Builtin.firstCells, Sem.run_pure]
  congr 1
  apply Array.ext'
  simp [ByteArray.data_extract]
theorem flat_bytesOf (s : List UInt8) : flat (bytesOf s) = bytesOf s := by
  apply flat_bytes
  intro x hx
  simp only [bytesOf, List.mem_map] at hx
  obtain ⟨c, _, rfl⟩ := hx
  exact ⟨_, rfl⟩

theorem flat_strip1 {xs : List HV} (ht : ∀ x ∈ xs, isTuple x = false) : ∀ (j : Nat) (y : HV), (flat (xs.map HV.strip1))[j]? = some y → ∃ y0, (flat xs)[j]? = some y0 ∧ y.leaf = y0.leaf ∧ ∀ (K : GK) (w : World) (u : Value), V K w y0 u → V K w y u := by
  induction xs with
  | nil => intro j y hy; simp [flat] at hy
  | cons x r ih =>
    intro j y hy
    rw [List.map_cons, flat_cons, List.getElem?_append] at hy
    rw [flat_cons, List.getElem?_append, ← strip1_cells x]
    split at hy
    · rename_i hj
      rw [if_pos hj]
      cases x with
      | agg cs =>
        simp only [HV.strip1, HV.cells, List.getElem?_map, Option.map_eq_some_iff] at hy ⊢
        obtain ⟨y0, h0, rfl⟩ := hy
        exact ⟨y0, h0, leaf_strip y0, fun K w u hu => hu.strip⟩
      | tuple cs => have := ht _ List.mem_cons_self; simp [isTuple] at this
      | list hs tok =>
        simp only [HV.strip1, HV.cells] at hy ⊢
        cases j with
        | zero => simp at hy; subst hy; exact ⟨_, rfl, rfl, fun K w u hu => hu.strip⟩
        | succ j => simp at hy
      | _ =>
        simp only [HV.strip1, HV.cells] at hy ⊢
        exact ⟨y, hy, rfl, fun K w u hu => hu⟩
    · rename_i hj
      rw [if_neg hj]
      exact ih (fun z hz => ht z (List.mem_cons_of_mem _ hz)) _ y hy

/-- The heart: hs with its token, ys behind it. -/
theorem happend_sound {t u et : TypeId} {d : TypeDesc} {sz by_ : Nat} {z : HV} {hs ys : List HV} {tok : Tok} {sv xv : Value} {news : List Value} (ht : P.underlying t = some (.slice et)) (hu : P.underlying u = some d) (hd : (∃ e, d = .slice e) ∨ d = .string)
    (hsz : tsize P et = some sz) (hby : tbytes P et = some by_) (hz : tzero P et = some z) (hzl : z.cells.length = sz) (hsz0 : sz ≠ 0) (hby0 : by_ ≠ 0)
    (hs' : V K w (.list hs tok) sv) (hx : Src P w sz ys.length xv news) (hy : ∀ (j : Nat) (y : HV), (flat ys)[j]? = some y → y.leaf = true ∧ ∃ u, news[j]? = some u ∧ V K w y u)
    (hap : happend sz by_ h hs tok ys k) (hh : HeapRel K h w) (ty : TypeId) :
    ∃ x v K' w' h', (Builtin.append_ #[t, u] ty #[sv, xv]).run P w = .ok v w' ∧ Step K w K' w' ∧ HeapRel K' h' w' ∧ V K' w' x v ∧ k x h' := by
  obtain ⟨⟨hfit, hyw⟩, hap⟩ := hap
  obtain ⟨i, zu, hi, hzu, hzc⟩ := tzero_info hz
  have hisz : i.size = sz := by simp [tsize, hi] at hsz; exact hsz
  have hiby : i.bytes = by_ := by simp [tbytes, hi] at hby; exact hby
  have hzus : zu.cells.size = sz := by rw [← ((V_hconst (K := K) (w := w) hzc).cells (hconst_tuple hzc)).1]; exact hzl
  subst hisz; subst hiby
  have hyl := flat_length hyw
  have hnl := hx.size
  -- the two ends of a new block
  have newblock : ∀ {bs : Option Addr} {cap k0 W : Nat} {off : Nat} {h' : Heap} {olds : List Value}, sv = .slice bs hs.length cap → cap < hs.length + ys.length → (∀ x ∈ hs, x.cells.length = i.size) →
      (∀ w' : World, (∀ ad, w'.cell? ad = w.cell? ad) → (Builtin.firstCells i.size hs.length (.slice bs hs.length cap)).run P w' = .ok olds.toArray w') →
      olds.length = hs.length * i.size → (∀ (j : Nat) (y : HV), (flat hs)[j]? = some y → y.leaf = true ∧ ∃ u, olds[j]? = some u ∧ V K w y u) → TokPlace h h' k0 W → off + (hs.length + ys.length) = W → k (.list (hs ++ ys) (.own k0 off i.size)) h' →
      ∃ x v K' w' h', (Builtin.append_ #[t, u] ty #[sv, xv]).run P w = .ok v w' ∧ Step K w K' w' ∧ HeapRel K' h' w' ∧ V K' w' x v ∧ k x h' := by
    intro bs cap k0 W off h' olds hsv hcap hhw hold hol hoV htp hW hk
    subst hsv
    have h63 : hs.length + ys.length ≤ 9223372036854775807 := by
      have := Nat.le_mul_of_pos_right (hs.length + ys.length) (Nat.pos_of_ne_zero hby0)
      omega
    have hr := run_append_new (P := P) (w := w) (ty := ty) ht hu hd hi hzu bs hs.length cap ys.length hcap hx hold hfit h63
    have hcapge := grownCap_big w (hs.length + ys.length) cap et
    generalize hgc : grownCap w (hs.length + ys.length) cap et = gc at hr hcapge
    generalize hcells : (olds ++ news ++ (Builtin.zeroCells zu.cells (gc - (hs.length + ys.length))).toList).toArray = cells at hr
    have hcsz : cells.size = gc * i.size := by
      rw [← hcells]
      have := size_zeroCells zu.cells (gc - (hs.length + ys.length))
      simp only [List.size_toArray, List.length_append, hol, hnl, Array.length_toList, this, hzus]
      rw [Nat.sub_mul, Nat.add_mul]
      have := Nat.mul_le_mul_right i.size hcapge
      rw [Nat.add_mul] at this
      omega
    have hfl : (flat (hs ++ ys)).length = (hs.length + ys.length) * i.size := by
      rw [flat_append, List.length_append, flat_length hhw, hyl, Nat.add_mul]
    have hle : (hs.length + ys.length) * i.size ≤ cells.size := by rw [hcsz]; exact Nat.mul_le_mul_right _ hcapge
    obtain ⟨s, hh'⟩ := tok_push (w' := w.drew.alloc (.cells cells et)) (n := (hs.length + ys.length) * i.size) hh htp rfl rfl rfl rfl hle
    have hV := V_newlist (K' := (K.limAt w.heap.size ((hs.length + ys.length) * i.size)).tokAt k0 W (some w.heap.size)) (w' := w.drew.alloc (.cells cells et)) (xs := hs ++ ys) (us := []) (sz := i.size) (b := w.heap.size) (cap := gc) (tok := .own k0 off i.size) (c := cells) (et := et) (fr := (0, 0))
      (fun x hx => by rcases List.mem_append.1 hx with h | h; exact hhw x h; exact hyw x h)
      (fun j y hjy => by
        rw [flat_append, List.getElem?_append, flat_length hhw] at hjy
        have hcg : ∀ q : Nat, cells[q]? = (olds ++ (news ++ (Builtin.zeroCells zu.cells (gc - (hs.length + ys.length))).toList))[q]? := fun q => by rw [← hcells]; simp only [List.getElem?_toArray, List.append_assoc]
        rw [hcg, List.getElem?_append, hol]
        split at hjy
        · rename_i hj
          obtain ⟨l, u', hu', hV⟩ := hoV j y hjy
          exact ⟨l, u', by rw [if_pos hj]; exact hu', hV.step s⟩
        · rename_i hj
          obtain ⟨l, u', hu', hV⟩ := hy _ y hjy
          exact ⟨l, u', by rw [if_neg hj, List.getElem?_append_left (lt_of_get hu')]; exact hu', hV.step s⟩)
      (heap_alloc_new w.drew _) (by rw [hfl]; simp [GK.limAt, GK.tokAt]) (by simpa using hcapge)
      (by
        refine ⟨by simp [GK.tokAt, ← hW], by rw [hfl]; simp, fun _ => .inr ⟨by simp [GK.tokAt, GK.limAt], by rw [hfl]; simp [GK.tokAt, GK.limAt], cells, et, (0, 0), heap_alloc_new w.drew _, by omega⟩⟩)
    refine ⟨_, _, _, _, _, hr, s, hh', ?_, hk⟩
    simpa using hV
  -- nothing is added
  have hnews0 : ys = [] → news = [] := fun e => List.eq_nil_of_length_eq_zero (by rw [hnl, e]; simp)
  have hslice : ∃ bs cap, sv = .slice bs hs.length cap ∧ hs.length ≤ cap := by
    cases hs' with
    | nil _ _ => exact ⟨none, 0, rfl, Nat.le_refl _⟩
    | list0 _ _ ad => exact ⟨some ad, 0, rfl, Nat.le_refl _⟩
    | list _ _ b of cap sz' vals hw' hleaf hvv hc hlim hcap htk => exact ⟨_, cap, rfl, hcap⟩
  have zero : ys = [] → (Builtin.append_ #[t, u] ty #[sv, xv]).run P w = .ok sv w := by
    intro e
    obtain ⟨bs, cap, rfl, hcap⟩ := hslice
    have hn := hnews0 e
    subst e; subst hn
    exact run_append_zero ht hu hd hi bs hs.length cap hcap hx
  -- the old cells
  have olds : ∀ {bs : Option Addr} {cap : Nat}, sv = .slice bs hs.length cap → (∀ x ∈ hs, x.cells.length = i.size) → ∃ os : List Value, (∀ w' : World, (∀ ad, w'.cell? ad = w.cell? ad) → (Builtin.firstCells i.size hs.length (.slice bs hs.length cap)).run P w' = .ok os.toArray w') ∧
      os.length = hs.length * i.size ∧ ∀ (j : Nat) (y : HV), (flat hs)[j]? = some y → y.leaf = true ∧ ∃ u, os[j]? = some u ∧ V K w y u := by
    intro bs cap hsv hhw
    subst hsv
    obtain ⟨os, h1, h2⟩ := src_list (P := P) hs' hhw
    exact ⟨os, h1.cells, h1.size, h2⟩
  cases tok with
  | none =>
    obtain ⟨hy0, hk⟩ := hap
    exact ⟨_, sv, K, w, h, zero hy0, .refl K w, hh, hs', hk⟩
  | full =>
    obtain ⟨hhw, hk⟩ := hap
    have htp : TokPlace h (h ++ [.tok (1 + (hs.length + ys.length))]) h.length (1 + (hs.length + ys.length)) := .inr ⟨rfl, rfl, by omega⟩
    obtain ⟨bs, cap, hsv, hcap⟩ := hslice
    have hcapn : cap = hs.length := by
      subst hsv
      cases hs' with
      | nil _ _ => rfl
      | list0 _ _ ad => rfl
      | list _ _ b of cap' sz' vals hw' hleaf hvv hc hlim hcap' htk => exact htk
    by_cases hy0 : ys = []
    · obtain ⟨s, hh'⟩ := tok_bare hh htp rfl
      refine ⟨_, sv, _, w, _, zero hy0, s, hh', ?_, hk⟩
      subst hy0
      simp only [List.append_nil, List.length_nil, Nat.add_zero]
      have hs2 := hs'.step s
      subst hsv
      cases hs2 with
      | nil _ _ => exact .nil _ (by simp [TokNil, GK.tokAt])
      | list0 _ _ ad => exact .list0 _ (by simp [TokNil, GK.tokAt]) ad
      | list _ _ b of cap' sz' vals hw' hleaf hvv hc hlim hcap' htk =>
        exact .list hs _ b of cap sz' vals hw' hleaf hvv hc hlim hcap' ⟨by simp [GK.tokAt], flat_length hhw, fun _ => .inl hcapn⟩
    · have hpos : 0 < ys.length := List.length_pos_iff.2 hy0
      obtain ⟨os, ho1, ho2, ho3⟩ := olds hsv hhw
      exact newblock hsv (by omega) hhw ho1 ho2 ho3 htp rfl hk
  | own k0 off sz' =>
    obtain ⟨rfl, htk0, hk⟩ := hap
    have hk0 : h[k0]? = some (.tok (off + hs.length)) := by
      unfold Heap.tokAt at htk0
      cases hg : h[k0]? with
      | none => simp [hg] at htk0
      | some ob => cases ob <;> simp [hg] at htk0; subst htk0; rfl
    have hwm : K.wm k0 = off + hs.length := by rw [hh.wm k0, hk0]
    by_cases hy0 : ys = []
    · subst hy0
      have hset : h.set k0 (.tok (off + (hs.length + 0))) = h := by
        apply List.ext_getElem?
        intro q
        by_cases hq : q = k0
        · subst hq; rw [List.getElem?_set_self (lt_of_get hk0), hk0]; rfl
        · rw [List.getElem?_set_ne (Ne.symm hq)]
      simp only [List.append_nil, List.length_nil, hset] at hk
      exact ⟨_, sv, K, w, h, zero rfl, .refl K w, hh, hs', hk⟩
    · have hpos : 0 < ys.length := List.length_pos_iff.2 hy0
      have htp : TokPlace h (h.set k0 (.tok (off + (hs.length + ys.length)))) k0 (off + (hs.length + ys.length)) := .inl ⟨_, hk0, by omega, rfl⟩
      obtain ⟨bs, cap, hsv, hcap⟩ := hslice
      -- the widths of what is there
      have hhw : ∀ x ∈ hs, x.cells.length = i.size := by
        cases hs' with
        | nil _ _ => intro x hx; simp at hx
        | list0 _ _ ad => intro x hx; simp at hx
        | list _ _ b of cap' sz'' vals hw' hleaf hvv hc hlim hcap' htk =>
          intro x hx
          have h1 := flat_length hw'
          have h2 := htk.2.1
          have hlp : 0 < hs.length := List.length_pos_of_mem hx
          rw [hw' x hx]
          exact Nat.eq_of_mul_eq_mul_left hlp (by rw [← h1, h2])
      by_cases hgrow : cap < hs.length + ys.length
      · obtain ⟨os, ho1, ho2, ho3⟩ := olds hsv hhw
        exact newblock hsv hgrow hhw ho1 ho2 ho3 htp rfl hk
      · subst hsv
        cases hs' with
        | nil _ _ => exact absurd (by simpa using hpos) hgrow
        | list0 _ _ ad => exact absurd (by simpa using hpos) hgrow
        | list _ _ b of cap' sz'' vals hw' hleaf hvv hc hlim hcap' htk =>
          obtain ⟨t1, t2, t3⟩ := htk
          rcases t3 (by omega) with t3 | ⟨t3, t4, c, et', fr, hb, hroom⟩
          · omega
          · have hone : ∀ v ∈ news, v.oneCell' = true := by
              intro v hv
              obtain ⟨q, hq⟩ := mem_get hv
              obtain ⟨y, hyq⟩ := get_of_lt (l := flat ys) (j := q) (by rw [hyl, ← hnl]; exact lt_of_get hq)
              obtain ⟨l, u', hu', hV⟩ := hy q y hyq
              rw [hq] at hu'
              injection hu' with hu'
              subst hu'
              exact hV.oneCell l
            have hfitc : K.lim b + news.length ≤ c.size := by
              rw [← t4, t2, hnl]
              have := Nat.mul_le_mul_right i.size (show hs.length + ys.length ≤ cap by omega)
              rw [Nat.add_mul] at this
              omega
            obtain ⟨w', hst, s, hh', c', hb', hcsz, hco, hcn⟩ := tok_fill (P := P) (K := K) (us := news) hh htp t3 hb hfitc hone
            have hst' : (storeCells ⟨b, of + hs.length * i.size, none⟩ news).run P w = .ok () w' := by rw [← t2, t4]; exact hst
            have hr := run_append_fits (P := P) (w := w) (ty := ty) ht hu hd hi b of hs.length cap ys.length (by omega) hx hst'
            have hfl : (flat (hs ++ ys)).length = (flat hs).length + news.length := by rw [flat_append, List.length_append, hyl, hnl]
            refine ⟨_, _, _, w', _, hr, s, hh', ?_, hk⟩
            have hcell' : ∀ j, j < (flat hs).length → w'.cell? ⟨b, of + j, none⟩ = some (vals j) := fun j hj => s.cell b _ _ (by omega) (hc j hj)
            have := V.list (K := (K.limAt b (K.lim b + news.length)).tokAt k0 (off + (hs.length + ys.length)) (some b)) (w := w') (hs ++ ys) (.own k0 off i.size) b of cap i.size
              (fun j => if j < (flat hs).length then vals j else (news[j - (flat hs).length]?).getD undef)
              (fun x hx => by rcases List.mem_append.1 hx with h | h; exact hhw x h; exact hyw x h)
              (fun x hx => by
                rw [flat_append] at hx
                rcases List.mem_append.1 hx with h | h
                · exact hleaf x h
                · obtain ⟨q, hq⟩ := mem_get h
                  exact (hy q x hq).1)
              (fun j y hj => by
                rw [flat_append, List.getElem?_append] at hj
                split at hj
                · rename_i hlt
                  simp only [if_pos hlt]
                  exact (hvv j y hj).step s
                · rename_i hlt
                  simp only [if_neg hlt]
                  obtain ⟨l, u', hu', hV⟩ := hy _ y hj
                  rw [hu']
                  exact hV.step s)
              (fun j hj => by
                rw [hfl] at hj
                by_cases hlt : j < (flat hs).length
                · simp only [if_pos hlt]; exact hcell' j hlt
                · simp only [if_neg hlt]
                  obtain ⟨v, hv⟩ := get_of_lt (l := news) (j := j - (flat hs).length) (by omega)
                  rw [cell_of_row _ b _ _ _ _ hb']
                  have := hcn _ v hv
                  rw [← t4] at this
                  rw [show of + (flat hs).length + (j - (flat hs).length) = of + j by omega] at this
                  rw [this, hv]; rfl)
              (fun _ => by rw [hfl]; simp [GK.limAt, GK.tokAt]; omega)
              (by simp; omega)
              (by
                refine ⟨by simp [GK.tokAt], by rw [hfl, t2, hnl, List.length_append, Nat.add_mul], fun _ => .inr ⟨by simp [GK.tokAt, GK.limAt], by rw [hfl]; simp [GK.tokAt, GK.limAt]; omega, c', et', fr, hb', by omega⟩⟩)
            simpa using this

end
end Go.Hw
