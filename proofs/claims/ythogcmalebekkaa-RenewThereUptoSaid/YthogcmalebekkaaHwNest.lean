import Derived.Test.YthogcmalebekkaaHwF2
set_option linter.unusedVariables false
set_option linter.unusedSimpArgs false
namespace Go.Hw
open Go

theorem upd_cells {K : GK} {h : Heap} {w : World} {j : Nat} {cs cs' : List HV} (hh : HeapRel K h w) (hc : h[j]? = some (.cells cs)) (hok : ∀ b, K.rho j = some b → ObjOk K w b (.cells cs')) : HeapRel K (h.set j (.cells cs')) w := by
  have hlt : j < h.length := (List.getElem?_eq_some_iff.1 hc).1
  have hj : (h.set j (.cells cs'))[j]? = some (.cells cs') := by simp [hlt]
  have ho : ∀ i, i ≠ j → (h.set j (.cells cs'))[i]? = h[i]? := fun i hne => by rw [List.getElem?_set, if_neg (Ne.symm hne)]
  have key : ∀ (i : Nat) (y : HObj), (h.set j (.cells cs'))[i]? = some y → y.live → ∃ y', h[i]? = some y' ∧ y'.live := by
    intro i y hy ly
    by_cases hi : i = j
    · subst hi; exact ⟨_, hc, trivial⟩
    · exact ⟨y, by rw [← ho i hi]; exact hy, ly⟩
  refine ⟨fun i b hi => ?_, fun i i' b x y hi hi' hx hy lx ly => ?_, fun k => ?_, fun k b hk => ?_, hh.tinj, hh.limb⟩
  · obtain ⟨h1, o, h2, h3, h4⟩ := hh.obj i b hi
    refine ⟨h1, ?_⟩
    by_cases e : i = j
    · subst e
      rw [hc] at h2; injection h2 with h2; subst h2
      exact ⟨_, hj, hok b hi, fun _ => h4 trivial⟩
    · exact ⟨o, by rw [ho i e]; exact h2, h3, h4⟩
  · obtain ⟨x', hx', lx'⟩ := key i x hx lx
    obtain ⟨y', hy', ly'⟩ := key i' y hy ly
    exact hh.inj i i' b x' y' hi hi' hx' hy' lx' ly'
  · rw [hh.wm k]
    by_cases e : k = j
    · subst e; rw [hj, hc]
    · rw [ho k e]
  · obtain ⟨h1, ⟨n, h2⟩, h3, h4⟩ := hh.tok k b hk
    refine ⟨h1, ⟨n, ?_⟩, fun i o hi hio => ?_, h4⟩
    · have e : k ≠ j := fun e => by subst e; rw [hc] at h2; cases h2
      rw [ho k e]; exact h2
    · by_cases e : i = j
      · subst e
        exact absurd trivial (h3 i _ hi hc)
      · exact h3 i o hi (by rw [← ho i e]; exact hio)

variable {P : Program} {N m : Nat} {S D : CallP} {b : Nat} {r : List Op} {e e' : Env} {h h' : Heap} {Q : Env → Heap → Prop} {QQ : Ex → Env → Heap → Prop} {d : Nat} {x y z : X}

theorem w_fin {A : Type} {f : A → HV} {l : List A} {id j q sz n : Nat} {pre lft rgt cs : List HV} {tok : Tok} (hf : Enc f sz) (hj : h[j]? = some (.cells cs)) (hq : cs[q]? = some (.list (pre ++ [.agg (lft ++ .arr id 0 n sz :: rgt)]) tok)) (hn : l.length = n) (hc : h[id]? = some (GA f l)) (hne : j ≠ id)
    (hh : (h.set id .dead).set j (.cells (cs.set q (.list (pre ++ [.agg (lft ++ .list (l.map f) .none :: rgt)]) tok))) = h') : WeakF m e h e h' := by
  subst hh
  refine WeakF.of fun N K w a hr => ?_
  have hj' : (h.set id HObj.dead)[j]? = some (.cells cs) := by rw [List.getElem?_set_ne (Ne.symm hne)]; exact hj
  cases hrho : K.rho j with
  | none =>
    exact ⟨K, .refl K w, upd_cells (heap_dead hr.heap hc) hj' (fun b hb => by rw [hrho] at hb; cases hb), hr.env, hr.size, hr.defers⟩
  | some bj =>
    obtain ⟨hb1, o, ho1, ho2, ho3⟩ := hr.heap.obj j bj hrho
    rw [hj] at ho1; injection ho1 with ho1; subst ho1
    obtain ⟨c, et, fr, hcb, hlen, hfr, hvs⟩ := ho2
    obtain ⟨hleafq, u, hu1, hu2⟩ := hvs q _ hq
    have hfl : ∀ y : HV, flat (pre ++ [.agg (lft ++ y :: rgt)]) = (flat pre ++ lft) ++ y :: rgt := fun y => by rw [flat_append, flat_cons]; simp [flat, HV.cells]
    generalize hhs : (pre ++ [.agg (lft ++ .arr id 0 n sz :: rgt)]) = hs at hu2 hq
    cases hu2 with
    | nil => simp at hhs
    | list0 => simp at hhs
    | list _ _ b o cap sz' vals hw hleaf hv hcc hl hcap ht =>
    have hfs : flat hs = (flat pre ++ lft) ++ .arr id 0 n sz :: rgt := by rw [← hhs]; exact hfl _
    generalize hp : (flat pre ++ lft).length = p at *
    have hgp : (flat hs)[p]? = some (.arr id 0 n sz) := by rw [hfs, ← hp]; simp
    have hVa := hv p _ hgp
    rw [← hn, ← List.length_map (f := f)] at hVa
    obtain ⟨K', s, hh', hV⟩ := freeze_one hr.heap hc (wid_map hf l) hVa
    let hs' : List HV := pre ++ [.agg (lft ++ .list (l.map f) .none :: rgt)]
    have hfs' : flat hs' = (flat pre ++ lft) ++ .list (l.map f) .none :: rgt := hfl _
    have hlen' : (flat hs').length = (flat hs).length := by rw [hfs', hfs]; simp
    have hll : hs'.length = hs.length := by rw [← hhs]; simp [hs']
    have hcase : ∀ (i : Nat) (y : HV), (flat hs')[i]? = some y → (i = p ∧ y = .list (l.map f) .none) ∨ (flat hs)[i]? = some y := by
      intro i y hy
      by_cases hip : i = p
      · subst hip
        rw [hfs', ← hp] at hy
        simp at hy
        exact .inl ⟨rfl, hy.symm⟩
      · right
        rw [hfs'] at hy
        rw [hfs]
        rw [List.getElem?_append] at hy ⊢
        split
        · rename_i h1; rw [if_pos h1] at hy; exact hy
        · rename_i h1
          rw [if_neg h1] at hy
          have h2 : i - (flat pre ++ lft).length ≠ 0 := by omega
          obtain ⟨z, hz⟩ := Nat.exists_eq_succ_of_ne_zero h2
          rw [hz] at hy ⊢
          simpa using hy
    have hw' : ∀ z ∈ hs', z.cells.length = sz' := by
      intro z hz
      rcases List.mem_append.1 hz with h1 | h1
      · exact hw z (by rw [← hhs]; exact List.mem_append_left _ h1)
      · have h2 := hw (.agg (lft ++ .arr id 0 n sz :: rgt)) (by rw [← hhs]; simp)
        rw [List.mem_singleton.1 h1]
        simpa [HV.cells] using h2
    have hVn : V K' w (.list hs' tok) (.slice (some ⟨b, o, none⟩) hs'.length cap) := by
      refine .list hs' tok b o cap sz' vals hw' (fun z hz => ?_) (fun i z hz => ?_) ?_ (fun h0 => ?_) (by rw [hll]; exact hcap) ?_
      · obtain ⟨i, hi⟩ := mem_get hz
        rcases hcase i z hi with ⟨_, rfl⟩ | h1
        · rfl
        · exact hleaf z (List.mem_of_getElem? h1)
      · rcases hcase i z hz with ⟨rfl, rfl⟩ | h1
        · exact hV
        · exact (hv i z h1).step s
      · rw [hlen']; exact hcc
      · rw [hlen'] at h0 ⊢; exact Nat.le_trans (hl h0) (s.lim b)
      · rw [hlen', hll]; exact TokOk.step s ht
    rw [hll] at hVn
    refine ⟨K', s, upd_cells hh' hj' (fun b' hb' => ?_), hr.env.step s, hr.size, hr.defers⟩
    have := s.rho j bj hrho
    rw [this] at hb'
    injection hb' with hb'
    subst hb'
    have hqlt : q < cs.length := (List.getElem?_eq_some_iff.1 hq).1
    refine ⟨c, et, fr, hcb, by rw [List.length_set]; exact hlen, hfr, fun i z hz => ?_⟩
    by_cases hiq : i = q
    · subst hiq
      rw [List.getElem?_set_self hqlt] at hz
      injection hz with hz
      subst hz
      exact ⟨rfl, _, hu1, hVn⟩
    · rw [List.getElem?_set_ne (Ne.symm hiq)] at hz
      obtain ⟨k1, v, k2, k3⟩ := hvs i z hz
      exact ⟨k1, v, k2, k3.step s⟩

theorem g_appox {A : Type} {l : List A} {f : A → HV} {v : HV} {t : Tok} {sz by_ id : Nat} {K : Prop} (hf : Enc f sz) (hx : x.ev e = some (.list (l.map f) (.own id 1 sz))) (hy : y.ev e = some (.list [v] t)) (h1 : v.strip1 = v) (h3 : v.cells.length = sz ∧ isTuple v = false) (h4 : Heap.tokAt h id = some (1 + l.length)) (hw : (l.length + 1) * by_ ≤ 140737488355328 ∧ K)
    (hh : h.set id (.tok (1 + (l.length + 1))) = h') (k : K → HO S b r ((d, .list (l.map f ++ [v]) (.own id 1 sz)) :: e) h' Q) : HO S b (⟨some d, .op (.append sz by_ x y), none⟩ :: r) e h Q :=
  st_app_own (m := 1 + (l.length + 1)) hx hy (by simp [h1]) (by simpa using hw.1) (fun u hu => by rw [List.mem_singleton.1 hu]; exact h3) (by simpa using h4) rfl (by simp) hh (k hw.2)
theorem g_iaddrx {A : Type} {l : List A} {f : A → HV} {v : HV} {sz : Nat} {tok : Tok} {n : Int} {i : IntKind} {K : Prop} (hx : x.ev e = some (.list (l.map f ++ [v]) tok)) (hy : y.ev e = some (.int i n)) (h3 : v.cells.length = sz) (hw : (n = l.length) ∧ K) (k : K → HO S b r ((d, .rptr v.cells) :: e) h Q) : HO S b (⟨some d, .op (.iaddr sz x y), none⟩ :: r) e h Q := by
  have hk := (k hw.2).out
  have hn := hw.1
  subst hn
  refine ⟨?_⟩
  simp only [hops, hcall, hstep, hx, hy]
  have hlen : (l.map f ++ [v]).length = l.length + 1 := by simp
  refine ⟨⟨by omega, by omega⟩, ?_⟩
  have : (l.map f ++ [v])[(l.length : Int).toNat]? = some v := by simp
  simp only [this]
  exact ⟨h3, hk⟩


theorem g_stAx {A : Type} {f : A → HV} {sz id off : Nat} {q : Int} {l : List A} {v : HV} {K : Prop} (hf : Enc f sz) (hx : x.ev e = some (.ptr id off)) (ho : off = q.toNat * sz) (hy : y.ev e = some v) (hc : h[id]? = some (GA f l)) (hv : v.cells.length = sz ∧ isTuple v = false) (hw : q.toNat < l.length ∧ K)
    (hh : h.set id (.cells (putAt (flat (l.map f)) (q.toNat * sz) v.cells)) = h') (k : K → HO S b r e h' Q) : HO S b (⟨none, .op (.store sz x y), none⟩ :: r) e h Q := by
  have hbig : (q.toNat + 1) * sz ≤ l.length * sz := Nat.mul_le_mul_right _ hw.1
  rw [Nat.add_mul, Nat.one_mul] at hbig
  have hfl : (flat (l.map f)).length = l.length * sz := by rw [flat_length (wid_map hf l), List.length_map]
  subst ho
  exact g_store_p hx hy hc ⟨hv.1, by omega, hv.2⟩ hh (k hw.2)
theorem strip_leaf (x : HV) : x.strip.leaf = x.leaf := by cases x <;> rfl
theorem w_stAx {A : Type} {f : A → HV} {sz id : Nat} {q : Int} {l : List A} {cs : List HV} (a' : A) (hf : Enc f sz) (hc : h[id]? = some (.cells (putAt (flat (l.map f)) (q.toNat * sz) cs))) (hs : cs.map HV.strip = (f a').cells) (hlt : q.toNat < l.length) (hh : h.set id (GA f (l.set q.toNat a')) = h') : WeakF m e h e h' := by
  subst hh
  obtain ⟨a, ha⟩ := get_of_lt hlt
  have hw1 := hf.wid a
  have hw2 := hf.wid a'
  have hcl : cs.length = sz := by rw [← hw2, ← hs, List.length_map]
  have hnew : flat ((l.set q.toNat a').map f) = putAt (flat (l.map f)) (q.toNat * sz) (cs.map HV.strip) := by
    have := put_flat (sub := 0) (vs := cs.map HV.strip) (a' := a') hf ha (by rw [List.length_map]; omega) (by
      rw [hs]; simp [putAt, hw1, hw2])
    rw [Nat.add_zero] at this
    exact this.symm
  have hbig : (q.toNat + 1) * sz ≤ l.length * sz := Nat.mul_le_mul_right _ hlt
  rw [Nat.add_mul, Nat.one_mul] at hbig
  have hfl : (flat (l.map f)).length = l.length * sz := by rw [flat_length (wid_map hf l), List.length_map]
  refine WeakF.of fun N K w ac hr => ⟨K, .refl K w, upd_cells hr.heap hc (fun b hb => ?_), hr.env, hr.size, hr.defers⟩
  obtain ⟨_, o, ho1, ho2, _⟩ := hr.heap.obj id b hb
  rw [hc] at ho1; injection ho1 with ho1; subst ho1
  obtain ⟨c, et, fr, h1, h2, h3, h4⟩ := ho2
  refine ⟨c, et, fr, h1, ?_, h3, fun j z hz => ?_⟩
  · rw [hnew]
    simp only [putAt, List.length_append, List.length_take, List.length_drop, List.length_map] at h2 ⊢
    exact h2
  · rw [hnew, show putAt (flat (l.map f)) (q.toNat * sz) (cs.map HV.strip) = (flat (l.map f)).take (q.toNat * sz) ++ cs.map HV.strip ++ (flat (l.map f)).drop (q.toNat * sz + (cs.map HV.strip).length) from rfl, seg_get _ _ _ _ (by rw [List.length_map]; omega)] at hz
    have h5 := fun z => h4 j z
    rw [show putAt (flat (l.map f)) (q.toNat * sz) cs = (flat (l.map f)).take (q.toNat * sz) ++ cs ++ (flat (l.map f)).drop (q.toNat * sz + cs.length) from rfl, seg_get _ _ _ _ (by omega)] at h5
    rw [List.length_map] at hz
    split at hz
    · rename_i g1; rw [if_pos g1] at h5; exact h5 z hz
    · rename_i g1
      rw [if_neg g1] at h5
      split at hz
      · rename_i g2
        rw [if_pos g2] at h5
        rw [List.getElem?_map] at hz
        cases hq : cs[j - q.toNat * sz]? with
        | none => rw [hq] at hz; cases hz
        | some z0 =>
          rw [hq] at hz h5
          injection hz with hz
          subst hz
          obtain ⟨g3, v, g4, g5⟩ := h5 z0 rfl
          exact ⟨by rw [strip_leaf]; exact g3, v, g4, g5.strip⟩
      · rename_i g2; rw [if_neg g2] at h5; exact h5 z hz
end Go.Hw

