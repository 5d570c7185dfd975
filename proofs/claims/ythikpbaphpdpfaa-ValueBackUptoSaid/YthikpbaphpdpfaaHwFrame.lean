/- A call on a part of the memory, spoken of by names of its own. -/
import Derived.Test.YthikpbaphpdpfaaHwFunc
set_option linter.unusedVariables false
set_option linter.unusedSimpArgs false
namespace Go.Hw
open Go

/-- The callee's name of a caller's name. -/
def kap (σ : List Nat) (N j : Nat) : Option Nat := if j < N then σ.findIdx? (fun k => k == j) else some (σ.length + (j - N))
theorem kap_of {σ : List Nat} {N i j : Nat} (hn : σ.Nodup) (h : σ[i]? = some j) (hj : j < N) : kap σ N j = some i := by
  unfold kap
  rw [if_pos hj, List.findIdx?_eq_some_iff_getElem]
  obtain ⟨h1, h2⟩ := List.getElem?_eq_some_iff.1 h
  refine ⟨h1, by simp [h2], fun k hk => ?_⟩
  intro hc
  have h3 : σ[k]? = some j := by rw [List.getElem?_eq_getElem (by omega)]; simpa using hc
  have := nodup_inj hn k i j h3 h
  omega
theorem kap_some {σ : List Nat} {N i j : Nat} (h : kap σ N j = some i) : (σ[i]? = some j ∧ j < N) ∨ (N ≤ j ∧ i = σ.length + (j - N)) := by
  unfold kap at h
  split at h
  · rename_i hj
    rw [List.findIdx?_eq_some_iff_getElem] at h
    obtain ⟨h1, h2, _⟩ := h
    exact .inl ⟨by rw [List.getElem?_eq_getElem h1]; simpa using h2, hj⟩
  · injection h with h
    exact .inr ⟨by omega, h.symm⟩
theorem kap_none {σ : List Nat} {N j : Nat} (h : kap σ N j = none) : j < N ∧ ∀ i : Nat, σ[i]? ≠ some j := by
  unfold kap at h
  split at h
  · rename_i hj
    refine ⟨hj, fun i hi => ?_⟩
    have := List.findIdx?_eq_none_iff.1 h j (List.mem_of_getElem? hi)
    simp at this
  · cases h
/-- All of the callee's names, by the caller's. -/
def tau (σ : List Nat) (N k : Nat) : List Nat := σ ++ List.range' N k
theorem tau_get {σ : List Nat} {N k i j : Nat} (h : (tau σ N k)[i]? = some j) : (σ[i]? = some j) ∨ (σ.length ≤ i ∧ j = N + (i - σ.length) ∧ i - σ.length < k) := by
  unfold tau at h
  rw [List.getElem?_append] at h
  split at h
  · exact .inl h
  · rename_i hi
    rcases Nat.lt_or_ge (i - σ.length) k with hlt | hge
    · rw [List.getElem?_range' hlt] at h
      injection h with h
      exact .inr ⟨by omega, by omega, hlt⟩
    · rw [List.getElem?_eq_none (by rw [List.length_range']; exact hge)] at h
      cases h
theorem Ren.back {σ : List Nat} {K1 K2 : GK} {w : World} {x y : HV} (hl : K2.lim = K1.lim) (hk : ∀ i j : Nat, σ[i]? = some j → K2.rho j = K1.rho i ∧ K2.tb j = K1.tb i ∧ K2.wm j = K1.wm i) (hr : Ren σ x y) : ∀ {v : Value}, _root_.Go.Hw.V K1 w x v → _root_.Go.Hw.V K2 w y v := by
  induction hr with
  | pv x h => intro v hv; exact hv.transfer h (fun _ => by rw [hl]; exact Nat.le_refl _)
  | own hs i j off sz hσ h =>
    intro v hv
    obtain ⟨_, ht, hw⟩ := hk i j hσ
    cases hv with
    | nil _ htn => exact .nil _ (by simpa [TokNil, hw] using htn)
    | list0 _ htn ad => exact .list0 _ (by simpa [TokNil, hw] using htn) ad
    | list _ _ b o cap sz' vals hw' hleaf hvv hc hlim hcap htk =>
      refine .list hs _ b o cap sz' vals hw' hleaf (fun q z hz => (hvv q z hz).transfer (h z (List.mem_of_getElem? hz)) (fun _ => by rw [hl]; exact Nat.le_refl _)) hc (by rw [hl]; exact hlim) hcap ?_
      obtain ⟨t1, t2, t3⟩ := htk
      exact ⟨by rw [hw]; exact t1, t2, fun he => by rw [hw] at he; rw [ht]; simpa [hl] using t3 he⟩
  | ptr i j off hσ => intro v hv; cases hv with | ptr _ _ b hr => exact .ptr _ _ b (by rw [(hk i j hσ).1]; exact hr)
  | map i j hσ => intro v hv; cases hv with | map _ b hr => exact .map _ b (by rw [(hk i j hσ).1]; exact hr)
  | arr i j off len sz hσ =>
    intro v hv
    cases hv with
    | arr _ _ _ _ b cap off' hr hcap ho hroom => exact .arr _ _ _ _ b cap off' (by rw [(hk i j hσ).1]; exact hr) hcap ho hroom
    | arrn => exact .arrn _ _ _
    | arr0 => exact .arr0 _ _ _ _ _
  | agg xs ys hlen h hleaf ih =>
    intro v hv
    cases hv with
    | agg _ vs hn _ hvv =>
      refine .agg ys vs (by omega) (fun y hy => ?_) (fun q y u hy hu => ?_)
      · obtain ⟨q, hq⟩ := List.getElem?_of_mem hy
        obtain ⟨x, hx⟩ := get_of_lt (l := xs) (j := q) (by rw [hlen]; exact lt_of_get hq)
        have h1 := hleaf x (List.mem_of_getElem? hx)
        have h2 := h q x y hx hq
        cases h2 <;> first | exact h1 | rfl
      · obtain ⟨x, hx⟩ := get_of_lt (l := xs) (j := q) (by rw [hlen]; exact lt_of_get hy)
        exact ih q x y hx hy (hvv q x u hx hu)
  | tuple xs ys hlen h ih =>
    intro v hv
    cases hv with
    | tuple _ vs hn hvv => exact .tuple ys vs (by omega) (fun q y u hy hu => by
        obtain ⟨x, hx⟩ := get_of_lt (l := xs) (j := q) (by rw [hlen]; exact lt_of_get hy)
        exact ih q x y hx hy (hvv q x u hx hu))
  | func f xs ys hlen h ih =>
    intro v hv
    cases hv with
    | func _ _ vs hn hvv => exact .func f ys vs (by omega) (fun q y u hy hu => by
        obtain ⟨x, hx⟩ := get_of_lt (l := xs) (j := q) (by rw [hlen]; exact lt_of_get hy)
        exact ih q x y hx hy (hvv q x u hx hu))
theorem Ren.leaf {σ : List Nat} {x y : HV} (h : Ren σ x y) (hx : x.leaf = true) : y.leaf = true := by
  cases h <;> first | exact hx | rfl
theorem RenO.back {σ : List Nat} {K1 K2 : GK} {w : World} {b : Nat} {o1 o2 : HObj} (hl : K2.lim = K1.lim) (hk : ∀ i j : Nat, σ[i]? = some j → K2.rho j = K1.rho i ∧ K2.tb j = K1.tb i ∧ K2.wm j = K1.wm i) (hr : RenO σ o1 o2) (hd : o1 ≠ .dead) (ho : ObjOk K1 w b o1) : ObjOk K2 w b o2 := by
  cases o1 with
  | cells xs =>
    cases o2 <;> simp only [RenO] at hr
    rename_i ys
    obtain ⟨c, e, fr, h1, h2, h3, h4⟩ := ho
    refine ⟨c, e, fr, h1, by omega, h3, fun j y hy => ?_⟩
    obtain ⟨x, hx⟩ := get_of_lt (l := xs) (j := j) (by rw [hr.1]; exact lt_of_get hy)
    obtain ⟨_, v, h5, h6⟩ := h4 j x hx
    obtain ⟨h7, h8⟩ := hr.2 j x y hx hy
    exact ⟨h7.leaf h8, v, h5, h7.back hl hk h6⟩
  | map es c =>
    cases o2 <;> simp only [RenO] at hr
    rename_i fs d
    obtain ⟨rfl, hlen, hr⟩ := hr
    obtain ⟨ms, h1, h2, h3⟩ := ho
    refine ⟨ms, h1, by omega, fun j n x' y' hy => ?_⟩
    obtain ⟨⟨n', x, y⟩, hx⟩ := get_of_lt (l := es) (j := j) (by rw [hlen]; exact lt_of_get hy)
    obtain ⟨m, h4, h5, t1, t2, h6, h7⟩ := h3 j n' x y hx
    obtain ⟨rfl, g1, g2, g3, g4⟩ := hr j n' n x y x' y' hx hy
    have tt : ∀ {u u' : HV}, Ren σ u u' → isTuple u = false → isTuple u' = false := fun hu h => by cases hu <;> first | exact h | rfl
    exact ⟨m, h4, h5, tt g1 g3, tt g2 g4, g1.back hl hk h6, g2.back hl hk h7⟩
  | iter a p q r =>
    cases o2 with
    | iter a' p' q' r' =>
      cases a with
      | none =>
        cases a' with
        | none =>
          simp only [RenO] at hr
          obtain ⟨rfl, rfl, rfl⟩ := hr
          exact ho
        | some _ => simp only [RenO] at hr
      | some i =>
        cases a' with
        | none => simp only [RenO] at hr
        | some j =>
          simp only [RenO] at hr
          obtain ⟨h1, rfl, rfl, rfl⟩ := hr
          obtain ⟨b', h2, h3⟩ := ho
          exact ⟨b', by rw [(hk i j h1).1]; exact h2, h3⟩
    | _ => cases a <;> simp only [RenO] at hr
  | siter s p =>
    cases o2 <;> simp only [RenO] at hr
    obtain ⟨rfl, rfl⟩ := hr
    exact ho
  | tok n => exact ho.elim
  | dead => exact absurd rfl hd
  | res => exact ho.elim
theorem RenO.live2 {σ : List Nat} {o' o : HObj} (hr : RenO σ o' o) (hd : o' ≠ .dead) (hl : o.live) : o'.live := by
  cases o' <;> cases o <;> simp only [RenO] at hr <;> first
    | trivial
    | exact hl.elim
    | exact absurd rfl hd
    | exact hr.elim
    | (rename_i a _ _ _ b _ _ _; cases a <;> cases b <;> first | trivial | exact hr.elim)
    | (rename_i a _ _ _; cases a <;> exact hr.elim)
end Go.Hw
