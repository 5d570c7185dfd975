import Derived.Test.YthikpbaphpdpfaaHwF2
set_option linter.unusedVariables false
set_option linter.unusedSimpArgs false
namespace Go.Hw
open Go

def Leaf {A : Type} (f : A → HV) : Prop := ∀ a, ∀ x ∈ (f a).cells, x.leaf = true
theorem leaf_byte : Leaf (fun c : UInt8 => HV.int .u8 c.toNat) := fun a x hx => by simp [HV.cells] at hx; subst hx; rfl
abbrev GA {A : Type} (f : A → HV) (l : List A) : HObj := .cells (flat (l.map f))


theorem freeze_one {K : GK} {w : World} {h : Heap} {id sz : Nat} {hs : List HV} {v : Value} (hh : HeapRel K h w) (hc : h[id]? = some (.cells (flat hs))) (hw : ∀ x ∈ hs, x.cells.length = sz) (hV : V K w (.arr id 0 hs.length sz) v) :
    ∃ K', Step K w K' w ∧ HeapRel K' (h.set id .dead) w ∧ V K' w (.list hs .none) v := by
  have hd := heap_dead hh hc
  have hfl := flat_length hw
  generalize hn : hs.length = n at hV hfl
  cases hV with
  | arrn =>
    obtain rfl : hs = [] := List.eq_nil_of_length_eq_zero hn
    exact ⟨K, .refl K w, hd, V.nil _ (show TokNil K .none from trivial)⟩
  | arr0 _ _ _ ad =>
    obtain rfl : hs = [] := List.eq_nil_of_length_eq_zero hn
    exact ⟨K, .refl K w, hd, V.list0 _ (show TokNil K .none from trivial) ad⟩
  | arr _ _ _ _ b cap off' hr hcap hoff hroom =>
    obtain ⟨hb1, o0, ho0, hok, hlim⟩ := hh.obj id b hr
    rw [hc] at ho0; injection ho0 with ho0; subst ho0
    have hlim := hlim trivial
    obtain ⟨c, et', fr, hb, hlen, hfr, hvs⟩ := hok
    have hntb : ∀ k, K.tb k ≠ some b := fun k hk => (hh.tok k b hk).2.2.1 id _ hr hc trivial
    have hl : ∀ q, q ≠ b → (K.limAt b (flat hs).length).lim q = K.lim q := fun q hq => by simp [GK.limAt, hq]
    have hlb : (K.limAt b (flat hs).length).lim b = (flat hs).length := by simp [GK.limAt]
    have s : Step K w (K.limAt b (flat hs).length) w := by
      refine ⟨rfl, rfl, rfl, Nat.le_refl _, fun q => ?_, fun _ => Nat.le_refl _, fun k _ => ⟨rfl, fun q hq => hl q fun e => hntb k (e ▸ hq)⟩, fun _ _ h => h, fun _ _ _ _ h => h, fun _ _ h => h, fun _ _ h => h, fun q _ ho => ⟨rfl, hl q fun e => ho (e ▸ .inl ⟨id, hr⟩)⟩⟩
      by_cases e : q = b
      · subst e; rw [hlim]; exact Nat.zero_le _
      · rw [hl q e]; exact Nat.le_refl _
    have hfree : ∀ (i : Nat) (x : HObj), K.rho i = some b → (h.set id HObj.dead)[i]? = some x → ¬ x.live := by
      intro i x hi hx lx
      by_cases e : i = id
      · subst e; rw [List.getElem?_set_self (lt_of_get hc)] at hx; injection hx with hx; subst hx; exact lx.elim
      · rw [List.getElem?_set_ne (Ne.symm e)] at hx
        exact e (hh.inj i id b x _ hi hr hx hc lx trivial)
    refine ⟨_, s, ⟨fun i q hi => ?_, hd.inj, hd.wm, fun k q hk => ?_, hd.tinj, fun q hq => ?_⟩, ?_⟩
    · obtain ⟨h1, o, h2, h3, h4⟩ := hd.obj i q hi
      refine ⟨h1, o, h2, ObjOk.keep s rfl h3, fun hlive => ?_⟩
      have : q ≠ b := fun e => hfree i o (e ▸ hi) h2 hlive
      rw [hl q this]; exact h4 hlive
    · obtain ⟨h1, h2, h3, c', e', fr', h4, h5, h6⟩ := hd.tok k q hk
      have : q ≠ b := fun e => hntb k (e ▸ hk)
      exact ⟨h1, h2, h3, c', e', fr', h4, by rw [hl q this]; exact h5, h6⟩
    · have : q ≠ b := by omega
      rw [hl q this]; exact hd.limb q hq
    · subst hn
      refine .list hs .none b off' cap sz (fun j => (c[j]?).getD undef) hw (fun x hx => ?_) (fun j x hx => ?_) (fun j hj => ?_) (fun hp => ?_) hcap trivial
      · obtain ⟨j, hj⟩ := mem_get hx
        exact (hvs j x hj).1
      · obtain ⟨_, v, h7, h8⟩ := hvs j x hx
        rw [h7]
        exact h8.step s
      · have hpos : 0 < hs.length := by
          rcases Nat.eq_zero_or_pos hs.length with e | e
          · rw [hfl, e] at hj; simp at hj
          · exact e
        obtain rfl : off' = 0 := hoff (by omega)
        rw [Nat.zero_add, cell_of_row w b j c et' fr hb, Array.getElem?_eq_getElem (by omega)]
        simp [show j < c.size by omega]
      · have hpos : 0 < hs.length := by
          rcases Nat.eq_zero_or_pos hs.length with e | e
          · rw [hfl, e] at hp; simp at hp
          · exact e
        obtain rfl : off' = 0 := hoff (by omega)
        rw [hlb]; omega

variable {P : Program} {N m : Nat} {S D : CallP} {b : Nat} {r : List Op} {e e' : Env} {h h' : Heap} {Q : Env → Heap → Prop} {QQ : Ex → Env → Heap → Prop} {d : Nat} {x y z : X}

theorem w_freeze {A : Type} {f : A → HV} {l : List A} {id sz n : Nat} (t : Nat) (hf : Enc f sz) (hg : e.get t = some (.arr id 0 n sz)) (hn : l.length = n) (hc : h[id]? = some (GA f l)) (hh : h.set id .dead = h') : WeakF m e h ((t, .list (l.map f) .none) :: e) h' := by
  subst hh; subst hn
  refine WeakF.of fun N K w a hr => ?_
  obtain ⟨K', s, hh', hV⟩ := freeze_one hr.heap hc (wid_map hf l) (by have := hr.env t _ hg; rw [List.length_map]; exact this)
  refine ⟨K', s, hh', fun u x hx => ?_, hr.size, hr.defers⟩
  simp only [Env.get] at hx
  split at hx
  · rename_i e1
    injection hx with hx; subst hx
    first
      | (subst e1; exact hV)
      | (rw [← e1]; exact hV)
  · exact (hr.env u x hx).step s

theorem w_nilarr {A : Type} {f : A → HV} {sz n : Nat} (t : Nat) (hg : e.get t = some (.list [] .full)) (hN : h.length = n) (hh : h ++ [GA f ([] : List A)] = h') : WeakF m e h ((t, .arr n 0 0 sz) :: e) h' := by
  subst hh; subst hN
  refine WeakF.of fun N K w a hr => ⟨K, .refl K w, heap_app hr.heap _, fun u x hx => ?_, hr.size, hr.defers⟩
  simp only [Env.get] at hx
  split at hx
  · rename_i e1
    injection hx with hx; subst hx
    have h0 := hr.env t _ hg
    have : V K w (.arr h.length 0 0 sz) (a.tmps.getD t undef) := by
      generalize a.tmps.getD t undef = v at h0
      cases h0 with
      | nil => exact .arrn _ _ _
      | list0 _ _ ad => exact .arr0 _ _ _ ad
      | list _ _ b of cap sz' vals hw' hleaf hvv hc hlim hcap htk =>
        have : cap = 0 := htk
        subst this
        exact .arr0 _ _ _ _
    first
      | (subst e1; exact this)
      | (rw [← e1]; exact this)
  · exact hr.env u x hx

theorem HCalls.freeze {f : FuncId} {vs : List HV} {id sz : Nat} {hs : List HV} {R : HV → Heap → Prop} (j : Nat) (hj : vs[j]? = some (.arr id 0 hs.length sz)) (hc : h[id]? = some (.cells (flat hs))) (hw : ∀ x ∈ hs, x.cells.length = sz)
    (hcall : HCalls P f (vs.set j (.list hs .none)) (h.set id .dead) R) : HCalls P f vs h R := by
  refine ⟨hcall.1, fun K w us hh hl hv => ?_⟩
  have hjl := lt_of_get hj
  obtain ⟨v, hvj⟩ := get_of_lt (l := us) (j := j) (by omega)
  obtain ⟨K', s, hh', hV⟩ := freeze_one hh hc hw (hv j _ v hj hvj)
  refine (hcall.2 K' w us hh' (by simpa using hl) fun q x u hq hu => ?_).mono ?_
  · rw [List.getElem?_set] at hq
    split at hq
    · rename_i e1
      subst e1
      rw [hvj] at hu
      injection hu with hu; subst hu
      injection hq with hq; subst hq; exact hV
    · exact (hv q x u hq hu).step s
  · rintro en w' ⟨u, x, K2, h2, h3, s2, h5, h6, h7⟩
    exact ⟨u, x, K2, h2, h3, s.trans s2, h5, h6, h7⟩

theorem k_callF {f : FuncId} (hS : SubH P S f) {A B : Type} {fb : B → HV} {l : List B} {sz n id : Nat} {xs : List X} {vs ws as : List HV} {g : A → HV} {K : A → Prop} (j : Nat) (hf : Enc fb sz) (hx : evs e xs = some vs) (ha : vs.map HV.strip1 = ws) (hj : ws[j]? = some (.arr id 0 n sz)) (hn : l.length = n) (hc : h[id]? = some (GA fb l))
    (has : ws.set j (.list (l.map fb) .none) = as) (hh : h.set id .dead = h') (hw : ∃ a, PCall P f as (g a) ∧ K a) (k : ∀ a, K a → HO S b r ((d, g a) :: e) h' Q) : HO S b (⟨some d, .call f xs, none⟩ :: r) e h Q := by
  obtain ⟨a, h1, h2⟩ := hw
  subst ha; subst has; subst hh; subst hn
  refine ⟨?_⟩
  simp only [hops, hcall, hx]
  exact hS _ _ _ (HCalls.freeze j (by simpa using hj) hc (wid_map hf l) (h1.use (k a h2).out))


theorem src_map {A : Type} {f : A → HV} {sz : Nat} (hf : Enc f sz) (l : List A) (tok : Tok) : srcCells h (.list (l.map f) tok) = flat (l.map f) := by
  have : (l.map f).map HV.strip1 = l.map f := by rw [List.map_map]; exact List.map_congr_left fun a _ => hf.str a
  show flat ((l.map f).map HV.strip1) = _
  rw [this]
theorem g_lenA {id n sz : Nat} (hx : x.ev e = some (.arr id 0 n sz)) (k : HO S b r ((d, .int .i64 n) :: e) h Q) : HO S b (⟨some d, .op (.len false x), none⟩ :: r) e h Q := by
  refine ⟨?_⟩
  simp only [hops, hcall, hstep, hx]
  exact k.out
theorem g_iaA {id n sz : Nat} {i : IntKind} {q : Int} {C : Prop} (hx : x.ev e = some (.arr id 0 n sz)) (hy : y.ev e = some (.int i q)) (hw : (0 ≤ q ∧ q < n) ∧ C) (k : C → HO S b r ((d, .ptr id (q.toNat * sz)) :: e) h Q) : HO S b (⟨some d, .op (.iaddr sz x y), none⟩ :: r) e h Q := by
  have := (k hw.2).out
  refine ⟨?_⟩
  simp only [hops, hcall, hstep, hx, hy]
  refine ⟨⟨hw.1.1, hw.1.2, trivial⟩, ?_⟩
  rw [Nat.zero_add]
  exact this
theorem ga_drop {A : Type} {f : A → HV} {sz i sub : Nat} {l : List A} {a : A} (hf : Enc f sz) (ha : l[i]? = some a) (hs : sub ≤ sz) : ∃ rest, (flat (l.map f)).drop (i * sz + sub) = (f a).cells.drop sub ++ rest := by
  have hlt := lt_of_get ha
  have hget : (l.map f)[i]? = some (f a) := by rw [List.getElem?_map, ha]; rfl
  refine ⟨flat ((l.map f).drop (i + 1)), ?_⟩
  rw [← List.drop_drop, ← flat_drop i (wid_map hf l), List.drop_eq_getElem_cons (l := l.map f) (i := i) (by simpa using hlt), flat_cons]
  have : (l.map f)[i]'(by simpa using hlt) = f a := by
    rw [List.getElem?_eq_getElem (by simpa using hlt)] at hget
    injection hget
  rw [this, List.drop_append_of_le_length (by rw [hf.wid]; exact hs)]
theorem at_none {cs rest : List HV} {v : HV} (h1 : cs.head? = some v) : atCells none (cs ++ rest) = some v := by
  cases cs with
  | nil => cases h1
  | cons c r => exact h1
theorem at_some {n : Nat} {cs rest : List HV} {v : HV} (h1 : atCells (some n) cs = some v) : atCells (some n) (cs ++ rest) = some v := by
  simp only [atCells] at h1 ⊢
  split at h1
  · rename_i hle
    rw [if_pos (by simp; omega), List.take_append_of_le_length hle]; exact h1
  · cases h1
theorem at_any {n : Option Nat} {cs rest : List HV} {v : HV} (h1 : atCells n cs = some v) : atCells n (cs ++ rest) = some v := by
  cases n with
  | none => exact at_none h1
  | some n => exact at_some h1
theorem g_ldA {A : Type} {f : A → HV} {sz id off sub : Nat} {q : Int} {l : List A} {n : Option Nat} {K : A → Prop} {g : A → HV} (hf : Enc f sz) (hx : x.ev e = some (.ptr id off)) (ho : off = q.toNat * sz + sub) (hs : sub ≤ sz) (hc : h[id]? = some (GA f l)) (hg : ∀ a, atCells n ((f a).cells.drop sub) = some (g a))
    (hw : q.toNat < l.length ∧ ∀ a, l[q.toNat]? = some a → K a) (k : ∀ a, K a → HO S b r ((d, g a) :: e) h Q) : HO S b (⟨some d, .op (.load n x), none⟩ :: r) e h Q := by
  obtain ⟨a, ha⟩ := get_of_lt hw.1
  obtain ⟨rest, hd⟩ := ga_drop hf ha hs
  have hcs : Heap.cells h id = some (flat (l.map f)) := by simp [Heap.cells, hc]
  have := (k a (hw.2 a ha)).out
  refine ⟨?_⟩
  simp only [hops, hcall, hstep, hx, hcs, ho, hd, at_any (hg a)]
  exact this
theorem put_flat {A : Type} {f : A → HV} {sz i sub : Nat} {l : List A} {a a' : A} {vs : List HV} (hf : Enc f sz) (ha : l[i]? = some a) (hs : sub + vs.length ≤ sz) (hv : putAt (f a).cells sub vs = (f a').cells) : putAt (flat (l.map f)) (i * sz + sub) vs = flat ((l.set i a').map f) := by
  have hlt := lt_of_get ha
  have hwl := wid_map hf l
  have hfl : (flat (l.map f)).length = l.length * sz := by rw [flat_length hwl, List.length_map]
  have hget : (l.map f)[i]? = some (f a) := by rw [List.getElem?_map, ha]; rfl
  have hcell := fun j (hj : j < sz) => flat_at hwl hget j hj
  have hbig : (i + 1) * sz ≤ l.length * sz := Nat.mul_le_mul_right _ hlt
  rw [Nat.add_mul, Nat.one_mul] at hbig
  have hget' : ((l.set i a').map f)[i]? = some (f a') := by rw [List.getElem?_map, List.getElem?_set_self hlt]; rfl
  have hwl' := wid_map hf (l.set i a')
  have hcell' := fun j (hj : j < sz) => flat_at hwl' hget' j hj
  have hfl' : (flat ((l.set i a').map f)).length = l.length * sz := by rw [flat_length hwl', List.length_map, List.length_set]
  apply List.ext_getElem?
  intro q
  rw [show putAt (flat (l.map f)) (i * sz + sub) vs = (flat (l.map f)).take (i * sz + sub) ++ vs ++ (flat (l.map f)).drop (i * sz + sub + vs.length) from rfl, seg_get _ _ _ _ (by omega)]
  by_cases hq : q < l.length * sz
  · by_cases h1 : q / sz = i
    · -- within the element
      have hsz : 0 < sz := by
        rcases Nat.eq_zero_or_pos sz with e | e
        · subst e; simp at hq
        · exact e
      have hqm := Nat.div_add_mod q sz
      have hml := Nat.mod_lt q hsz
      obtain ⟨j, hj, rfl⟩ : ∃ j, j < sz ∧ q = i * sz + j := ⟨q % sz, hml, by rw [← h1, Nat.mul_comm]; omega⟩
      rw [hcell' j hj, ← hv, show putAt (f a).cells sub vs = (f a).cells.take sub ++ vs ++ (f a).cells.drop (sub + vs.length) from rfl, seg_get _ _ _ _ (by rw [hf.wid]; exact hs), ← hcell j hj]
      by_cases h2 : j < sub
      · rw [if_pos (by omega), if_pos h2]
      · rw [if_neg (by omega), if_neg h2]
        by_cases h3 : j < sub + vs.length
        · rw [if_pos (by omega), if_pos h3, show i * sz + j - (i * sz + sub) = j - sub by omega]
        · rw [if_neg (by omega), if_neg h3]
    · -- another element
      have hsz : 0 < sz := by
        rcases Nat.eq_zero_or_pos sz with e | e
        · subst e; simp at hq
        · exact e
      have hml := Nat.mod_lt q hsz
      have hqm := Nat.div_add_mod q sz
      have hql : q / sz < l.length := Nat.div_lt_of_lt_mul (by rw [Nat.mul_comm]; exact hq)
      obtain ⟨p, hp⟩ := get_of_lt (l := l) hql
      have g1 : (l.map f)[q / sz]? = some (f p) := by rw [List.getElem?_map, hp]; rfl
      have g2 : ((l.set i a').map f)[q / sz]? = some (f p) := by rw [List.getElem?_map, List.getElem?_set_ne (Ne.symm h1), hp]; rfl
      have e1 := flat_at hwl g1 (q % sz) hml
      have e2 := flat_at hwl' g2 (q % sz) hml
      have hqe : q / sz * sz + q % sz = q := by rw [Nat.mul_comm]; exact hqm
      rw [hqe] at e1 e2
      rw [e2, ← e1]
      rcases Nat.lt_or_gt_of_ne h1 with h2 | h2
      · have h5 : (q / sz + 1) * sz ≤ i * sz := Nat.mul_le_mul_right _ h2
        rw [Nat.add_mul, Nat.one_mul] at h5
        rw [if_pos (by omega)]
      · have h5 : (i + 1) * sz ≤ q / sz * sz := Nat.mul_le_mul_right _ h2
        rw [Nat.add_mul, Nat.one_mul] at h5
        rw [if_neg (by omega), if_neg (by omega)]
  · rw [List.getElem?_eq_none (l := flat ((l.set i a').map f)) (by omega), if_neg (by omega), if_neg (by omega), List.getElem?_eq_none (by omega)]
theorem g_stA {A : Type} {f : A → HV} {sz id off sub n : Nat} {q : Int} {l : List A} {v : HV} {K : List A → Prop} {u : A → A} (hf : Enc f sz) (hx : x.ev e = some (.ptr id off)) (hy : y.ev e = some v) (ho : off = q.toNat * sz + sub) (hc : h[id]? = some (GA f l)) (hn : v.cells.length = n) (hs : sub + n ≤ sz) (ht : isTuple v = false)
    (hv : ∀ a, putAt (f a).cells sub v.cells = (f (u a)).cells)
    (hw : q.toNat < l.length ∧ ∀ a, l[q.toNat]? = some a → ∀ t, t = l.set q.toNat (u a) → K t) (h2 : List A → Heap) (hh : ∀ t, h.set id (GA f t) = h2 t) (k : ∀ t, K t → HO S b r e (h2 t) Q) : HO S b (⟨none, .op (.store n x y), none⟩ :: r) e h Q := by
  obtain ⟨a, ha⟩ := get_of_lt hw.1
  have hcs : Heap.cells h id = some (flat (l.map f)) := by simp [Heap.cells, hc]
  have hk := (k _ (hw.2 a ha _ rfl)).out
  rw [← hh] at hk
  have hfl : (flat (l.map f)).length = l.length * sz := by rw [flat_length (wid_map hf l), List.length_map]
  have hbig : (q.toNat + 1) * sz ≤ l.length * sz := Nat.mul_le_mul_right _ hw.1
  rw [Nat.add_mul, Nat.one_mul] at hbig
  subst hn
  refine ⟨?_⟩
  simp only [hops, hcall, hstep, hx, hy, hcs, ho]
  refine ⟨⟨trivial, by omega, ht⟩, ?_⟩
  rw [put_flat hf ha hs (hv a)]
  exact hk
theorem ro_arr {A : Type} {f : A → HV} {sz : Nat} (hf : Enc f sz) (hl : Leaf f) {σ0 σ : List Nat} {j : Nat} {l : List A} (h1 : h[j]? = some (GA f l)) (h2 : RenH σ0 h σ h') : RenH σ0 h (j :: σ) (GA f l :: h') := by
  refine ⟨⟨_, h1, ⟨rfl, fun i x y g1 g2 => ?_⟩, by simp⟩, h2⟩
  rw [g1] at g2
  injection g2 with g2
  subst g2
  have hm := List.mem_of_getElem? g1
  refine ⟨.pv _ (pv_flat hf l x hm), ?_⟩
  simp only [flat, List.mem_flatMap, List.mem_map] at hm
  obtain ⟨y, ⟨a, _, rfl⟩, hy⟩ := hm
  exact hl a x hy
theorem ou_arr {A : Type} {f : A → HV} {sz : Nat} (hf : Enc f sz) (hl : Leaf f) {σ0 σ : List Nat} {H2 h1 : Heap} {j : Nat} {l : List A} (hj : H2[j]? = some (GA f l)) (h : ROut σ0 H2 σ h1) : ROut σ0 H2 (j :: σ) (GA f l :: h1) := by
  have : RenH σ0 H2 [j] [GA f l] := ro_arr hf hl hj ro_nil
  obtain ⟨⟨o, g1, g2, _⟩, _⟩ := this
  exact ⟨⟨o, g1, g2, fun h => by cases h⟩, h⟩
theorem rn_arr {σ : List Nat} {i j n sz : Nat} (h : σ[i]? = some j) : Ren σ (.arr i 0 n sz) (.arr j 0 n sz) := .arr i j 0 n sz h
end Go.Hw

