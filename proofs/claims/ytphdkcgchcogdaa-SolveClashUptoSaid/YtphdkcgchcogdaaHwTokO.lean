import Derived.Test.YtphdkcgchcogdaaHwF3
set_option linter.unusedVariables false
set_option linter.unusedSimpArgs false
namespace Go.Hw
open Go
section
variable {N m : Nat} {S D : CallP} {b : Nat} {r : List Op} {e e' : Env} {h h' : Heap} {Q : Env → Heap → Prop} {d : Nat} {x y : X}

theorem g_appO {A : Type} {l ys : List A} {f : A → HV} {t : Tok} {sz by_ id o : Nat} {K : List A → Prop} (hf : Enc f sz) (hx : x.ev e = some (.list (l.map f) (.own id (1 + o) sz))) (hy : y.ev e = some (.list (ys.map f) t)) (h4 : Heap.tokAt h id = some (1 + (l.length + o))) (hw : (l.length + ys.length) * by_ ≤ 140737488355328 ∧ ∀ t, t = l ++ ys → K t) (h' : List A → Heap) (hh : ∀ t : List A, h.set id (.tok (1 + (t.length + o))) = h' t) (k : ∀ t, K t → HO S b r ((d, .list (t.map f) (.own id (1 + o) sz)) :: e) (h' t) Q) : HO S b (⟨some d, .op (.append sz by_ x y), none⟩ :: r) e h Q :=
  st_app_own (m := 1 + ((l ++ ys).length + o)) hx hy (by rw [List.map_map]; exact List.map_congr_left fun a _ => hf.str a) (by simpa using hw.1) (fun v hv => by obtain ⟨a, _, rfl⟩ := List.mem_map.1 hv; exact ⟨hf.wid a, hf.tup a⟩) (by rw [h4, List.length_map]; congr 1; omega) (List.map_append ..).symm (by simp only [List.length_append, List.length_map]; omega) (hh (l ++ ys)) (k _ (hw.2 _ rfl))
theorem g_sliceO {A : Type} {l : List A} {f : A → HV} {sz id o : Nat} {p : Int} {lo : Option X} {K : List A → Prop} (hf : Enc f sz) (hx : x.ev e = some (.list (l.map f) (.own id (1 + o) sz))) (hl : bnd e 0 lo = some p) (h4 : h[id]? = some (.tok (1 + (l.length + o)))) (hw : (0 ≤ p ∧ p ≤ (l.length : Int)) ∧ ∀ t, t = l.drop p.toNat → K t) (h' : List A → Heap) (hh : ∀ t : List A, h.set id (.tok (1 + (t.length + (o + p.toNat)))) = h' t) (k : ∀ t, K t → HO S b r ((d, .list (t.map f) (.own id (1 + (o + p.toNat)) sz)) :: e) (h' t) Q) :
    HO S b (⟨some d, .op (.slice sz x lo none none), none⟩ :: r) e h Q := by
  refine g_slice (q := l.length) (K := fun t => t = l.drop p.toNat) hf hx hl (by simp [bnd]) ⟨⟨hw.1.1, hw.1.2, Int.le_refl _⟩, fun t ht => ?_⟩ (fun t ht => ?_)
  · rw [ht]
    congr 1
    exact List.take_of_length_le (by omega)
  · have hk := k t (hw.2 t ht)
    have e1 : h' t = h := by
      rw [← hh t, ht, List.length_drop, show 1 + (l.length - p.toNat + (o + p.toNat)) = 1 + (l.length + o) by omega]
      refine List.ext_getElem? fun i => ?_
      rw [List.getElem?_set]
      split
      · rename_i hij; subst hij
        rw [if_pos (lt_of_get h4)]
        exact h4.symm
      · rfl
    rw [e1, ← Nat.add_assoc] at hk
    exact hk
end

theorem tok_one {K : GK} {w : World} {h : Heap} {id sz : Nat} {hs : List HV} {v : Value} (hh : HeapRel K h w) (hc : h[id]? = some (.cells (flat hs))) (hw : ∀ x ∈ hs, x.cells.length = sz) (hV : V K w (.arr id 0 hs.length sz) v) :
    ∃ K', Step K w K' w ∧ HeapRel K' (h.set id .dead ++ [.tok (1 + hs.length)]) w ∧ V K' w (.list hs (.own h.length 1 sz)) v := by
  have hd := heap_dead hh hc
  have hfl := flat_length hw
  have hK0 : K.wm h.length = 0 := by rw [hh.wm, List.getElem?_eq_none (Nat.le_refl _)]
  have hlast : (h.set id HObj.dead ++ [HObj.tok (1 + hs.length)])[h.length]? = some (.tok (1 + hs.length)) := by
    rw [List.getElem?_append_right (by simp)]; simp
  have hleft : ∀ i o, (h.set id HObj.dead)[i]? = some o → (h.set id HObj.dead ++ [HObj.tok (1 + hs.length)])[i]? = some o := fun i o ho => by
    rw [List.getElem?_append_left (lt_of_get ho)]; exact ho
  have hsplit : ∀ i o, (h.set id HObj.dead ++ [HObj.tok (1 + hs.length)])[i]? = some o → (h.set id HObj.dead)[i]? = some o ∨ (i = h.length ∧ o = .tok (1 + hs.length)) := fun i o ho => by
    by_cases hi : i < (h.set id HObj.dead).length
    · rw [List.getElem?_append_left hi] at ho; exact .inl ho
    · have hi' : i = h.length := by
        have := lt_of_get ho
        simp at this hi
        omega
      subst hi'
      rw [hlast] at ho; injection ho with ho
      exact .inr ⟨rfl, ho.symm⟩
  -- the names with the new token
  have mk : ∀ (K1 : GK) (ob : Option Nat), (K1.wm = fun k => if k = h.length then 1 + hs.length else K.wm k) → (K1.tb = fun k => if k = h.length then ob else K.tb k) → K1.rho = K.rho →
      (∀ q, (∀ b, ob = some b → q ≠ b) → K1.lim q = K.lim q) → (∀ b, ob = some b → K.lim b = 0 ∧ b < w.heap.size ∧ owned K b ∧ (∀ k, K.tb k ≠ some b) ∧ (∀ i x, K.rho i = some b → (h.set id HObj.dead)[i]? = some x → ¬ x.live) ∧ ∃ c e fr, w.heap[b]? = some (.cells c e fr) ∧ K1.lim b ≤ c.size ∧ nofr c fr) →
      Step K w K1 w ∧ HeapRel K1 (h.set id .dead ++ [.tok (1 + hs.length)]) w := by
    intro K1 ob hwm htb hrho hlim hob
    have hlimle : ∀ q, K.lim q ≤ K1.lim q := fun q => by
      cases ob with
      | none => rw [hlim q (fun b hb => by cases hb)]; exact Nat.le_refl _
      | some b =>
        by_cases e : q = b
        · subst e; rw [(hob q rfl).1]; exact Nat.zero_le _
        · rw [hlim q (fun b' hb => by cases hb; exact e)]; exact Nat.le_refl _
    have s : Step K w K1 w := by
      refine ⟨rfl, tk, rfl, Nat.le_refl _, hlimle, fun k => ?_, fun k hk => ?_, fun i b hi => by rw [hrho]; exact hi, fun _ _ _ _ h => h, fun _ _ h => h, fun b _ ho => ?_, fun q _ ho => ⟨rfl, ?_⟩⟩
      · rw [hwm]; dsimp only; split
        · rename_i e; subst e; rw [hK0]; exact Nat.zero_le _
        · exact Nat.le_refl _
      · have hne : k ≠ h.length := fun e => by subst e; rw [hwm, hK0] at hk; simp at hk
        refine ⟨by rw [htb]; simp [hne], fun q hq => hlim q fun b hb e => ?_⟩
        subst e
        exact (hob q hb).2.2.2.1 k hq
      · rcases ho with ⟨i, hi⟩ | ⟨k, hk⟩
        · rw [hrho] at hi; exact .inl ⟨i, hi⟩
        · rw [htb] at hk
          dsimp only at hk
          split at hk
          · exact (hob b hk).2.2.1
          · exact .inr ⟨k, hk⟩
      · refine hlim q fun b hb e => ?_
        subst e
        exact ho (hob q hb).2.2.1
    refine ⟨s, ⟨fun i q hi => ?_, fun i j b x y hi hj hx hy lx ly => ?_, fun k => ?_, fun k q hk => ?_, fun i j b hi hj => ?_, fun q hq => ?_⟩⟩
    · rw [hrho] at hi
      obtain ⟨h1, o, h2, h3, h4⟩ := hd.obj i q hi
      refine ⟨h1, o, hleft i o h2, ObjOk.keep s rfl h3, fun hlive => ?_⟩
      rw [hlim q fun b hb e => by subst e; exact (hob q hb).2.2.2.2.1 i o hi h2 hlive]
      exact h4 hlive
    · rw [hrho] at hi hj
      rcases hsplit i x hx with hx | ⟨_, rfl⟩
      · rcases hsplit j y hy with hy | ⟨_, rfl⟩
        · exact hd.inj i j b x y hi hj hx hy lx ly
        · exact ly.elim
      · exact lx.elim
    · rw [hwm]
      dsimp only
      split
      · rename_i e; subst e; rw [hlast]
      · rename_i hne
        rw [hd.wm k]
        by_cases hlt : k < (h.set id HObj.dead).length
        · rw [List.getElem?_append_left hlt]
        · rw [List.getElem?_eq_none (by omega), List.getElem?_eq_none (by simp at hlt ⊢; omega)]
    · rw [htb] at hk
      dsimp only at hk
      split at hk
      · rename_i e
        subst e
        obtain ⟨_, h2, _, _, h5, c, e', fr, h6, h7, h8⟩ := hob q hk
        refine ⟨h2, ⟨_, hlast⟩, fun i o hi ho => ?_, c, e', fr, h6, h7, h8⟩
        rw [hrho] at hi
        rcases hsplit i o ho with ho | ⟨_, rfl⟩
        · exact h5 i o hi ho
        · exact fun hl => hl
      · obtain ⟨h1, ⟨n', h2⟩, h3, c', e', fr', h4, h5, h6⟩ := hd.tok k q hk
        refine ⟨h1, ⟨n', hleft k _ h2⟩, fun i o hi ho => ?_, c', e', fr', h4, ?_, h6⟩
        · rw [hrho] at hi
          rcases hsplit i o ho with ho | ⟨_, rfl⟩
          · exact h3 i o hi ho
          · exact fun hl => hl
        · rw [hlim q fun b hb e => by subst e; exact (hob q hb).2.2.2.1 k hk]; exact h5
    · rw [htb] at hi hj
      dsimp only at hi hj
      split at hi
      · rename_i e1
        split at hj
        · rename_i e2; omega
        · exact absurd hj ((hob b hi).2.2.2.1 j)
      · split at hj
        · exact absurd hi ((hob b hj).2.2.2.1 i)
        · exact hh.tinj i j b hi hj
    · cases ob with
      | none => rw [hlim q (fun b hb => by cases hb)]; exact hh.limb q hq
      | some b =>
        have hb := (hob b rfl).2.1
        rw [hlim q (fun b' hb' e => by cases hb'; omega)]
        exact hh.limb q hq
  have tk0 : ∀ {K1 : GK}, (K1.wm = fun k => if k = h.length then 1 + hs.length else K.wm k) → TokNil K1 (.own h.length 1 sz) := fun hwm => by
    show 1 ≤ _
    rw [hwm]
    simp
  generalize hn : hs.length = n at hV hfl
  cases hV with
  | arrn =>
    obtain rfl : hs = [] := List.eq_nil_of_length_eq_zero hn
    obtain ⟨s, hr⟩ := mk { K with wm := fun k => if k = h.length then 1 + 0 else K.wm k, tb := fun k => if k = h.length then none else K.tb k } none rfl rfl rfl (fun _ _ => rfl) (fun b hb => by cases hb)
    exact ⟨_, s, hr, .nil _ (tk0 rfl)⟩
  | arr0 _ _ _ ad =>
    obtain rfl : hs = [] := List.eq_nil_of_length_eq_zero hn
    obtain ⟨s, hr⟩ := mk { K with wm := fun k => if k = h.length then 1 + 0 else K.wm k, tb := fun k => if k = h.length then none else K.tb k } none rfl rfl rfl (fun _ _ => rfl) (fun b hb => by cases hb)
    exact ⟨_, s, hr, .list0 _ (tk0 rfl) ad⟩
  | arr _ _ _ _ b cap off' hr hcap hoff hroom =>
    obtain ⟨hb1, o0, ho0, hok, hlim⟩ := hh.obj id b hr
    rw [hc] at ho0; injection ho0 with ho0; subst ho0
    have hz0 : K.lim b = 0 := hlim trivial
    clear hlim
    obtain ⟨c, et', fr, hb, hlen, hfr, hvs⟩ := hok
    have hntb : ∀ k, K.tb k ≠ some b := fun k hk => (hh.tok k b hk).2.2.1 id _ hr hc trivial
    have hfree : ∀ (i : Nat) (x : HObj), K.rho i = some b → (h.set id HObj.dead)[i]? = some x → ¬ x.live := by
      intro i x hi hx lx
      by_cases e : i = id
      · subst e; rw [List.getElem?_set_self (lt_of_get hc)] at hx; injection hx with hx; subst hx; exact lx.elim
      · rw [List.getElem?_set_ne (Ne.symm e)] at hx
        exact e (hh.inj i id b x _ hi hr hx hc lx trivial)
    subst hn
    rcases Nat.eq_zero_or_pos hs.length with hz | hpos
    · obtain rfl : hs = [] := List.eq_nil_of_length_eq_zero hz
      obtain ⟨s, hrel⟩ := mk { K with wm := fun k => if k = h.length then 1 + 0 else K.wm k, tb := fun k => if k = h.length then some b else K.tb k } (some b) rfl rfl rfl (fun _ _ => rfl) (fun b' hb' => by
        cases hb'
        exact ⟨hz0, hb1, .inl ⟨id, hr⟩, hntb, hfree, c, et', fr, hb, by show K.lim b ≤ _; rw [hz0]; exact Nat.zero_le _, hfr⟩)
      rcases Nat.eq_zero_or_pos cap with hc0 | hc0
      · subst hc0
        exact ⟨_, s, hrel, .list0 _ (tk0 rfl) _⟩
      · obtain rfl : off' = 0 := hoff hc0
        refine ⟨_, s, hrel, .list [] _ b 0 cap sz (fun _ => undef) nofun nofun (fun j x hx => by simp [flat] at hx) (fun j hj => by simp [flat] at hj) (fun h0 => by simp [flat] at h0) hcap ⟨?_, by simp [flat], fun _ => .inr ⟨?_, ?_, ?_⟩⟩⟩
        · show 1 + 0 ≤ (if h.length = h.length then 1 + 0 else _); simp
        · show (if h.length = h.length then some b else _) = some b; simp
        · show 0 + (flat []).length = K.lim b
          rw [hz0]; rfl
        · exact hroom
    · obtain rfl : off' = 0 := hoff (by omega)
      let K1 : GK := { K with lim := fun q => if q = b then (flat hs).length else K.lim q, wm := fun k => if k = h.length then 1 + hs.length else K.wm k, tb := fun k => if k = h.length then some b else K.tb k }
      have hl1 : K1.lim b = (flat hs).length := by show (if b = b then _ else _) = _; simp
      obtain ⟨s, hrel⟩ := mk K1 (some b) rfl rfl rfl (fun q hq => by show (if q = b then _ else _) = _; rw [if_neg (hq b rfl)]) (fun b' hb' => by
        cases hb'
        exact ⟨hz0, hb1, .inl ⟨id, hr⟩, hntb, hfree, c, et', fr, hb, by rw [hl1]; exact hlen, hfr⟩)
      refine ⟨K1, s, hrel, .list hs _ b 0 cap sz (fun j => (c[j]?).getD undef) hw (fun x hx => ?_) (fun j x hx => ?_) (fun j hj => ?_) (fun hp => ?_) hcap ⟨?_, hfl, fun _ => .inr ⟨?_, ?_, s.shape _ _ hroom⟩⟩⟩
      · obtain ⟨j, hj⟩ := mem_get hx
        exact (hvs j x hj).1
      · obtain ⟨_, v, h7, h8⟩ := hvs j x hx
        rw [h7]
        exact h8.step s
      · rw [Nat.zero_add, cell_of_row w b j c et' fr hb, Array.getElem?_eq_getElem (by omega)]
        simp [show j < c.size by omega]
      · rw [hl1]; omega
      · show 1 + hs.length ≤ (if h.length = h.length then 1 + hs.length else _); simp
      · show (if h.length = h.length then some b else _) = some b; simp
      · rw [hl1]; omega
theorem w_arr_tok {m : Nat} {e : Env} {h h' : Heap} {A : Type} {f : A → HV} {l : List A} {id sz n k : Nat} (t : Nat) (hf : Enc f sz) (hg : e.get t = some (.arr id 0 n sz)) (hn : l.length = n) (hc : h[id]? = some (GA f l)) (hk : h.length = k) (hh : h.set id .dead ++ [.tok (1 + l.length)] = h') : WeakF m e h ((t, .list (l.map f) (.own k 1 sz)) :: e) h' := by
  subst hh; subst hn; subst hk
  refine WeakF.of fun N ds K w a hr => ?_
  obtain ⟨K', s, hh', hV⟩ := tok_one hr.heap hc (wid_map hf l) (by have := hr.env t _ hg; rw [List.length_map]; exact this)
  rw [List.length_map] at hh'
  refine ⟨K', s, hh', fun u x hx => ?_, hr.size, hr.defers⟩
  simp only [Env.get] at hx
  split at hx
  · rename_i e1
    injection hx with hx; subst hx
    first
      | (subst e1; exact hV)
      | (rw [← e1]; exact hV)
  · exact (hr.env u x hx).step s
end Go.Hw

