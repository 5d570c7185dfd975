import Derived.Test.YtphdkcgchcogdaaHwRf
import Derived.Test.YtphdkcgchcogdaaHwF3
set_option linter.unusedVariables false
set_option linter.unusedSimpArgs false
namespace Go.Hw
open Go
variable {P : Program} {N m : Nat} {e : Env} {h h' : Heap} {QQ : Ex → Env → Heap → Prop}

theorem s_rfun {x : X} {ps : List Nat} {p q : C} {gf : FuncId} {caps : List HV} {E T : Type} {l : List E} {en : E → List HV} (hx : x.ev e = some (.func gf caps)) (hs : SeqH P gf caps (l.map en)) (hlen : ∀ a, (en a).length = ps.length)
    (hnd : ps.Nodup) (hpN : ∀ t ∈ ps, t < N) (kf n0 m' : Nat) (hn0 : h.length = n0) (hm' : n0 + 2 * kf = m') (hp hp' : T → Heap) (hh' : ∀ s, hp s ++ List.replicate kf .dead = hp' s) (env' : E → Env) (he : ∀ a, ps.zip (en a) ++ e = env' a)
    (I : Nat → T → Prop) (x0 : T) (hi0 : I 0 x0) (hin : WeakF n0 [] h [] (hp x0)) (hm : ∀ s, (hp s).length = n0 + kf) (hpl : ∀ s, CellsOnly (hp s)) (hnp : p.noRf = true) (hnq : q.noRf = true)
    (round : ∀ i a s, l[i]? = some a → I i s → SC P N m' p (SeqS P N m' q (RndS n0 fun h' => ∃ s', I (i + 1) s' ∧ hp s' = h')) (env' a) (hp' s))
    (k : ∀ s, I l.length s → QQ .normal e (hp s)) : SC P N m (.rfun x ps p q) QQ e h := by
  subst hn0; subst hm'
  refine sc_rfun hx hs (fun r hr => ?_) hnd hpN kf hp I x0 hi0 hin hm hpl hnp hnq (fun i r s hr hi => ?_) (fun s hi => k s (by simpa using hi))
  · obtain ⟨a, _, rfl⟩ := List.mem_map.1 hr
    exact hlen a
  · rw [List.getElem?_map] at hr
    obtain ⟨a, ha, rfl⟩ := Option.map_eq_some_iff.1 hr
    rw [he, hh']
    exact round i a s ha hi
theorem rf_n {T : Type} {hp : T → Heap} {I : T → Prop} (s' : T) (hi : I s') (hw : WeakF m e h [] (hp s')) : RndS m (fun h' => ∃ s', I s' ∧ hp s' = h') .normal e h := ⟨_, ⟨s', hi, rfl⟩, hw⟩

theorem freeze_ptr {K : GK} {w : World} {h : Heap} {id : Nat} {cs : List HV} {v : Value} (hh : HeapRel K h w) (hc : h[id]? = some (.cells cs)) (hV : V K w (.ptr id 0) v) :
    ∃ K', Step K w K' w ∧ HeapRel K' (h.set id .dead) w ∧ V K' w (.rptr cs) v := by
  have hd := heap_dead hh hc
  cases hV with
  | ptr _ _ b hr =>
    obtain ⟨hb1, o0, ho0, hok, hlim⟩ := hh.obj id b hr
    rw [hc] at ho0; injection ho0 with ho0; subst ho0
    have hlim := hlim trivial
    obtain ⟨c, et', fr, hb, hlen, hfr, hvs⟩ := hok
    have hntb : ∀ k, K.tb k ≠ some b := fun k hk => (hh.tok k b hk).2.2.1 id _ hr hc trivial
    have hl : ∀ q, q ≠ b → (K.limAt b cs.length).lim q = K.lim q := fun q hq => by simp [GK.limAt, hq]
    have hlb : (K.limAt b cs.length).lim b = cs.length := by simp [GK.limAt]
    have s : Step K w (K.limAt b cs.length) w := by
      refine ⟨rfl, tk, rfl, Nat.le_refl _, fun q => ?_, fun _ => Nat.le_refl _, fun k _ => ⟨rfl, fun q hq => hl q fun e => hntb k (e ▸ hq)⟩, fun _ _ h => h, fun _ _ _ _ h => h, fun _ _ h => h, fun _ _ h => h, fun q _ ho => ⟨rfl, hl q fun e => ho (e ▸ .inl ⟨id, hr⟩)⟩⟩
      by_cases e : q = b
      · subst e; rw [hlim]; exact Nat.zero_le _
      · rw [hl q e]; exact Nat.le_refl _
    have hfree : ∀ (i : Nat) (x : HObj), K.rho i = some b → (h.set id HObj.dead)[i]? = some x → ¬ x.live := by
      intro i x hi hx lx
      by_cases e : i = id
      · subst e; rw [List.getElem?_set_self (lt_of_get hc)] at hx; injection hx with hx; subst hx; exact lx.elim
      · rw [List.getElem?_set_ne (Ne.symm e)] at hx
        exact e (hh.inj i id b x _ hi hr hx hc lx trivial)
    refine ⟨_, s, ⟨fun i q hi => ?_, hd.inj, hd.wm, fun k q hk => ?_, hd.tinj, fun q hq => ?_⟩, ?_⟩
    · obtain ⟨h1, o, h2, h3, h4⟩ := hd.obj i q hi
      refine ⟨h1, o, h2, ObjOk.keep s rfl h3, fun hlive => ?_⟩
      have : q ≠ b := fun e => hfree i o (e ▸ hi) h2 hlive
      rw [hl q this]; exact h4 hlive
    · obtain ⟨h1, h2, h3, c', e', fr', h4, h5, h6⟩ := hd.tok k q hk
      have : q ≠ b := fun e => hntb k (e ▸ hk)
      exact ⟨h1, h2, h3, c', e', fr', h4, by rw [hl q this]; exact h5, h6⟩
    · have : q ≠ b := by omega
      rw [hl q this]; exact hd.limb q hq
    · refine .rptr cs b 0 (fun j => (c[j]?).getD undef) (fun x hx => ?_) (fun j x hx => ?_) (fun j hj => ?_) (fun hp => ?_)
      · obtain ⟨j, hj⟩ := mem_get hx
        exact (hvs j x hj).1
      · obtain ⟨_, v, h7, h8⟩ := hvs j x hx
        rw [h7]
        exact h8.step s
      · rw [Nat.zero_add, cell_of_row w b j c et' fr hb, Array.getElem?_eq_getElem (by omega)]
        simp [show j < c.size by omega]
      · rw [hlb]; omega
theorem w_boxfn {id f : Nat} {cs : List HV} (t : Nat) (hg : e.get t = some (.func f [.ptr id 0])) (hc : h[id]? = some (.cells cs)) (hh : h.set id .dead = h') : WeakF m e h ((t, .func f [.rptr cs]) :: e) h' := by
  subst hh
  refine WeakF.of fun N ds K w a hr => ?_
  have hf := hr.env t _ hg
  generalize hv : a.tmps.getD t undef = v at hf
  cases hf with
  | func _ _ us hn hus =>
  obtain ⟨u, rfl⟩ : ∃ u, us = [u] := by
    match us, hn with
    | [u], _ => exact ⟨u, rfl⟩
  obtain ⟨K', s, hh', hV⟩ := freeze_ptr hr.heap hc (hus 0 _ u rfl rfl)
  refine ⟨K', s, hh', fun q x hx => ?_, hr.size, hr.defers⟩
  simp only [Env.get] at hx
  split at hx
  · rename_i e1
    injection hx with hx; subst hx
    subst e1
    rw [hv]
    refine .func f _ _ rfl (fun j y z hy hz => ?_)
    match j with
    | 0 => simp at hy hz; subst hy; subst hz; exact hV
    | j + 1 => simp at hy
  · exact (hr.env q x hx).step s
end Go.Hw

