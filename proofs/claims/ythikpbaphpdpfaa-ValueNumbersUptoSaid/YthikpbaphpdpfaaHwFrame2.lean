/- A call on a part of the memory: the frame. -/
import Derived.Test.YthikpbaphpdpfaaHwFrame
import Derived.Test.YthikpbaphpdpfaaHwMem1
set_option linter.unusedVariables false
set_option linter.unusedSimpArgs false
namespace Go.Hw
open Go

theorem ren_heap {K : GK} {w : World} {h h' : Heap} (σ : List Nat) (hnd : σ.Nodup) (hlen : h'.length = σ.length) (hobj : ∀ (i j : Nat) (o' : HObj), h'[i]? = some o' → σ[i]? = some j → ∃ o, h[j]? = some o ∧ RenO σ o' o ∧ o' ≠ .tok 0) (r : HeapRel K h w) : HeapRel (K.ren σ) h' w := by
  have hinj := nodup_inj hnd
  have hσ : ∀ {i b : Nat} {f : Nat → Option Nat}, (σ[i]?).bind f = some b → ∃ j : Nat, σ[i]? = some j ∧ f j = some b := fun h => Option.bind_eq_some_iff.1 h
  have hget : ∀ {i j : Nat}, σ[i]? = some j → ∃ o', h'[i]? = some o' := fun hi => get_of_lt (by rw [hlen]; exact lt_of_get hi)
  have hwm : ∀ i, (K.ren σ).wm i = match h'[i]? with | some (.tok n) => n | _ => 0 := by
    intro i
    simp only [GK.ren]
    cases hi : σ[i]? with
    | none =>
      have : h'[i]? = none := List.getElem?_eq_none (by rw [hlen]; exact List.getElem?_eq_none_iff.1 hi)
      rw [this]
    | some j =>
      obtain ⟨o', ho'⟩ := hget hi
      obtain ⟨o, h1, h2, _⟩ := hobj i j o' ho' hi
      have := h2.tok
      simp only
      rw [r.wm j, h1, ho']
      cases o' <;> cases o <;> exact this.symm
  refine ⟨fun id b hr => ?_, fun i j b x y hi hj hx hy lx ly => ?_, hwm, fun k b hk => ?_, fun i j b hi hj => ?_, r.limb⟩
  · obtain ⟨j, h1, h2⟩ := hσ hr
    obtain ⟨o', ho'⟩ := hget h1
    obtain ⟨o, h3, h4, _⟩ := hobj id j o' ho' h1
    obtain ⟨g1, o2, g2, g3, g4⟩ := r.obj j b h2
    rw [h3] at g2
    injection g2 with g2
    subst g2
    exact ⟨g1, o', ho', h4.ok g3, fun hl => g4 (h4.live hl)⟩
  · obtain ⟨i', h1, h2⟩ := hσ hi
    obtain ⟨j', h3, h4⟩ := hσ hj
    obtain ⟨o1, h5, h6, _⟩ := hobj i i' x hx h1
    obtain ⟨o2, h7, h8, _⟩ := hobj j j' y hy h3
    have := r.inj i' j' b o1 o2 h2 h4 h5 h7 (h6.live lx) (h8.live ly)
    subst this
    exact hinj i j i' h1 h3
  · obtain ⟨j, h1, h2⟩ := hσ hk
    obtain ⟨g1, ⟨n, g2⟩, g3, g4⟩ := r.tok j b h2
    obtain ⟨o', ho'⟩ := hget h1
    obtain ⟨o, h3, h4, _⟩ := hobj k j o' ho' h1
    rw [g2] at h3
    injection h3 with h3
    subst h3
    refine ⟨g1, ⟨n, ?_⟩, fun id o hid2 ho2 hl => ?_, g4⟩
    · cases o' <;> simp only [RenO] at h4 <;> first
        | (subst h4; exact ho')
        | (exfalso; exact h4 ⟨_, rfl⟩)
        | (rename_i q _ _ _; cases q <;> exact h4.elim)
    · obtain ⟨i', h5, h6⟩ := hσ hid2
      obtain ⟨o2, h7, h8, _⟩ := hobj id i' o ho2 h5
      exact g3 i' o2 h6 h7 (h8.live hl)
  · obtain ⟨i', h1, h2⟩ := hσ hi
    obtain ⟨j', h3, h4⟩ := hσ hj
    have := r.tinj i' j' b h2 h4
    subst this
    exact hinj i j i' h1 h3

/-- What the caller knows afterwards. -/
def GK.back (σ : List Nat) (N : Nat) (K K1 : GK) : GK := { lim := K1.lim, rho := fun j => match kap σ N j with | some i => K1.rho i | none => K.rho j, tb := fun j => match kap σ N j with | some i => K1.tb i | none => K.tb j, wm := fun j => match kap σ N j with | some i => K1.wm i | none => K.wm j }

theorem HCalls.frame {P : Program} {f : FuncId} {args args' : List HV} {h H : Heap} {R R' : HV → Heap → Prop} (σ : List Nat) (hc : HCalls P f args h R) (hnd : σ.Nodup) (hlt : ∀ i j : Nat, σ[i]? = some j → j < H.length) (hlen : h.length = σ.length)
    (hobj : ∀ (i j : Nat) (o' : HObj), h[i]? = some o' → σ[i]? = some j → ∃ o, H[j]? = some o ∧ RenO σ o' o ∧ o' ≠ .tok 0 ∧ o' ≠ .dead)
    (hargs : args'.length = args.length ∧ ∀ (j : Nat) (x x' : HV), args[j]? = some x → args'[j]? = some x' → Ren σ x x' ∨ Ren σ x x'.strip1)
    (hR : ∀ x h1, R x h1 → ∃ y H2, R' y H2 ∧ σ.length ≤ h1.length ∧ Ren (tau σ H.length (h1.length - σ.length)) x y ∧ H2.length = H.length + (h1.length - σ.length) ∧ (∀ j : Nat, j < H.length → (∀ i : Nat, σ[i]? ≠ some j) → H2[j]? = H[j]?) ∧
      ∀ (i j : Nat) (o1 : HObj), (tau σ H.length (h1.length - σ.length))[i]? = some j → h1[i]? = some o1 → ∃ o2, H2[j]? = some o2 ∧ RenO (tau σ H.length (h1.length - σ.length)) o1 o2 ∧ (o1 = .dead → o2 = .dead)) : HCalls P f args' H R' := by
  refine ⟨hc.1, fun K w vs hh hl hv => ?_⟩
  have hh0 : HeapRel (K.ren σ) h w := ren_heap σ hnd hlen (fun i j o' h1 h2 => by obtain ⟨o, g1, g2, g3, _⟩ := hobj i j o' h1 h2; exact ⟨o, g1, g2, g3⟩) hh
  refine (hc.2 (K.ren σ) w vs hh0 (by omega) (fun j x v hx hvj => ?_)).mono ?_
  · obtain ⟨x', hx'⟩ := get_of_lt (l := args') (j := j) (by rw [hargs.1]; exact lt_of_get hx)
    have h1 := hv j x' v hx' hvj
    rcases hargs.2 j x x' hx hx' with h2 | h2
    · exact h2.V h1
    · exact h2.V h1.strip1
  rintro en w' ⟨v, x, K1, h1, rfl, s, hh1, hV, hRx⟩
  obtain ⟨y, H2, hR', hge, hxy, hH2, hrest, hnew⟩ := hR x h1 hRx
  generalize hτ : tau σ H.length (h1.length - σ.length) = τ at hxy hnew
  -- names
  have hσN : ∀ {j : Nat}, kap σ H.length j = none → j < H.length ∧ ∀ i : Nat, σ[i]? ≠ some j := fun h => kap_none h
  have hkτ : ∀ {i j : Nat}, τ[i]? = some j → kap σ H.length j = some i := by
    intro i j hij
    rw [← hτ] at hij
    rcases tau_get hij with h2 | ⟨h2, h3, h4⟩
    · exact kap_of hnd h2 (hlt i j h2)
    · unfold kap
      rw [if_neg (by omega)]
      congr 1
      omega
  have hτk : ∀ {i j : Nat}, kap σ H.length j = some i → i < h1.length → τ[i]? = some j := by
    intro i j hij hi
    rw [← hτ]
    unfold tau
    rcases kap_some hij with ⟨h2, _⟩ | ⟨h2, h3⟩
    · rw [List.getElem?_append_left (lt_of_get h2)]; exact h2
    · rw [List.getElem?_append_right (by omega), List.getElem?_range' (by omega)]
      congr 1
      omega
  let K2 := GK.back σ H.length K K1
  have hk2 : ∀ i j : Nat, τ[i]? = some j → K2.rho j = K1.rho i ∧ K2.tb j = K1.tb i ∧ K2.wm j = K1.wm i := by
    intro i j hij
    have := hkτ hij
    simp only [K2, GK.back, this, and_self]
  have ks : ∀ {i j : Nat}, σ[i]? = some j → kap σ H.length j = some i := fun h2 => kap_of hnd h2 (hlt _ _ h2)
  have hren : ∀ i j : Nat, σ[i]? = some j → (K.ren σ).rho i = K.rho j ∧ (K.ren σ).tb i = K.tb j ∧ (K.ren σ).wm i = K.wm j := by
    intro i j hij
    simp [GK.ren, hij]
  have hH : ∀ {j : Nat}, H.length ≤ j → K.rho j = none ∧ K.tb j = none ∧ K.wm j = 0 := by
    intro j hj
    have hn : H[j]? = none := List.getElem?_eq_none hj
    refine ⟨?_, ?_, ?_⟩
    · cases hr : K.rho j with
      | none => rfl
      | some b => obtain ⟨_, o, ho, _⟩ := hh.obj j b hr; rw [hn] at ho; cases ho
    · cases hr : K.tb j with
      | none => rfl
      | some b => obtain ⟨_, ⟨n, ho⟩, _⟩ := hh.tok j b hr; rw [hn] at ho; cases ho
    · rw [hh.wm j, hn]
  have hown : ∀ b, owned (K.ren σ) b → owned K b := by
    rintro b (⟨i, h2⟩ | ⟨i, h2⟩)
    · obtain ⟨j, _, h3⟩ := Option.bind_eq_some_iff.1 h2; exact .inl ⟨j, h3⟩
    · obtain ⟨j, _, h3⟩ := Option.bind_eq_some_iff.1 h2; exact .inr ⟨j, h3⟩
  -- the caller's other blocks are not the callee's
  have hapart : ∀ {j b : Nat} {o : HObj}, kap σ H.length j = none → K.rho j = some b → H[j]? = some o → o.live → ¬ owned (K.ren σ) b := by
    rintro j b o hj hr ho hol (⟨i, h2⟩ | ⟨i, h2⟩)
    · obtain ⟨j', h3, h4⟩ := Option.bind_eq_some_iff.1 h2
      obtain ⟨o', ho'⟩ := get_of_lt (l := h) (j := i) (by rw [hlen]; exact lt_of_get h3)
      obtain ⟨o3, g1, g2, g3, g4⟩ := hobj i j' o' ho' h3
      obtain ⟨_, o4, g5, g6, _⟩ := hh.obj j' b h4
      rw [g1] at g5
      injection g5 with g5
      subst g5
      have hl3 : o3.live := by
        cases o3 with
        | tok _ => exact g6.elim
        | res => exact g6.elim
        | dead => cases o' <;> simp only [RenO] at g2 <;> first | exact g2.elim | exact absurd rfl g4 | (rename_i q _ _ _; cases q <;> exact g2.elim)
        | _ => trivial
      have := hh.inj j j' b o o3 hr h4 ho g1 hol hl3
      subst this
      exact (hσN hj).2 i h3
    · obtain ⟨j', h3, h4⟩ := Option.bind_eq_some_iff.1 h2
      exact (hh.tok j' b h4).2.2.1 j o hr ho hol
  have htok : ∀ {j b : Nat}, kap σ H.length j = none → K.tb j = some b → ¬ owned (K.ren σ) b := by
    rintro j b hj hr (⟨i, h2⟩ | ⟨i, h2⟩)
    · obtain ⟨j', h3, h4⟩ := Option.bind_eq_some_iff.1 h2
      obtain ⟨o', ho'⟩ := get_of_lt (l := h) (j := i) (by rw [hlen]; exact lt_of_get h3)
      obtain ⟨o3, g1, g2, g3, g4⟩ := hobj i j' o' ho' h3
      obtain ⟨_, o4, g5, g6, _⟩ := hh.obj j' b h4
      rw [g1] at g5
      injection g5 with g5
      subst g5
      have hl3 : o3.live := by
        cases o3 with
        | tok _ => exact g6.elim
        | res => exact g6.elim
        | dead => cases o' <;> simp only [RenO] at g2 <;> first | exact g2.elim | exact absurd rfl g4 | (rename_i q _ _ _; cases q <;> exact g2.elim)
        | _ => trivial
      exact (hh.tok j b hr).2.2.1 j' o3 h4 g1 hl3
    · obtain ⟨j', h3, h4⟩ := Option.bind_eq_some_iff.1 h2
      have := hh.tinj j j' b hr h4
      subst this
      exact (hσN hj).2 i h3
  have hstep : Step K w K2 w' := by
    refine ⟨s.os, s.tape, s.output, s.size, s.lim, fun k => ?_, fun k hk => ?_, fun id b hid => ?_, s.cell, s.shape, fun b hb ho => ?_, fun b hb ho => s.frame b hb fun h2 => ho (hown b h2)⟩
    · cases hkap : kap σ H.length k with
      | none => simp only [K2, GK.back, hkap]; exact Nat.le_refl _
      | some i =>
        simp only [K2, GK.back, hkap]
        rcases kap_some hkap with ⟨h2, _⟩ | ⟨h2, h3⟩
        · have := s.wm i; rw [(hren i k h2).2.2] at this; exact this
        · rw [(hH h2).2.2]; exact Nat.zero_le _
    · cases hkap : kap σ H.length k with
      | none =>
        simp only [K2, GK.back, hkap] at hk ⊢
        exact ⟨trivial, fun b hb => (s.frame b (hh.tok k b hb).1 (htok hkap hb)).2⟩
      | some i =>
        simp only [K2, GK.back, hkap] at hk ⊢
        rcases kap_some hkap with ⟨h2, _⟩ | ⟨h2, h3⟩
        · have := s.tok i (by rw [(hren i k h2).2.2]; exact hk)
          rw [(hren i k h2).2.1] at this
          exact this
        · rw [(hH h2).2.2] at hk
          have hn : σ[i]? = none := List.getElem?_eq_none (by omega)
          have := s.tok i (by simp only [GK.ren, hn]; exact hk)
          simp only [GK.ren, hn, Option.bind_none] at this
          rw [(hH h2).2.1]
          exact ⟨this.1, fun b hb => by cases hb⟩
    · cases hkap : kap σ H.length id with
      | none => simp only [K2, GK.back, hkap]; exact hid
      | some i =>
        simp only [K2, GK.back, hkap]
        rcases kap_some hkap with ⟨h2, _⟩ | ⟨h2, h3⟩
        · exact s.rho i b (by rw [(hren i id h2).1]; exact hid)
        · rw [(hH h2).1] at hid; cases hid
    · rcases ho with ⟨j, hj⟩ | ⟨j, hj⟩
      · cases hkap : kap σ H.length j with
        | none => simp only [K2, GK.back, hkap] at hj; exact .inl ⟨j, hj⟩
        | some i => simp only [K2, GK.back, hkap] at hj; exact hown b (s.own b hb (.inl ⟨i, hj⟩))
      · cases hkap : kap σ H.length j with
        | none => simp only [K2, GK.back, hkap] at hj; exact .inr ⟨j, hj⟩
        | some i => simp only [K2, GK.back, hkap] at hj; exact hown b (s.own b hb (.inr ⟨i, hj⟩))
  have hrho : ∀ {j b : Nat}, K2.rho j = some b → (∃ i, kap σ H.length j = some i ∧ K1.rho i = some b ∧ τ[i]? = some j) ∨ (kap σ H.length j = none ∧ K.rho j = some b) := by
    intro j b hj
    cases hkap : kap σ H.length j with
    | none => simp only [K2, GK.back, hkap] at hj; exact .inr ⟨rfl, hj⟩
    | some i =>
      simp only [K2, GK.back, hkap] at hj
      obtain ⟨_, o, ho, _⟩ := hh1.obj i b hj
      exact .inl ⟨i, rfl, hj, hτk hkap (lt_of_get ho)⟩
  have htb : ∀ {j b : Nat}, K2.tb j = some b → (∃ i, kap σ H.length j = some i ∧ K1.tb i = some b ∧ τ[i]? = some j) ∨ (kap σ H.length j = none ∧ K.tb j = some b) := by
    intro j b hj
    cases hkap : kap σ H.length j with
    | none => simp only [K2, GK.back, hkap] at hj; exact .inr ⟨rfl, hj⟩
    | some i =>
      simp only [K2, GK.back, hkap] at hj
      obtain ⟨_, ⟨n, ho⟩, _⟩ := hh1.tok i b hj
      exact .inl ⟨i, rfl, hj, hτk hkap (lt_of_get ho)⟩
  have hkeep : ∀ {j : Nat}, kap σ H.length j = none → H2[j]? = H[j]? := fun hj => hrest _ (hσN hj).1 (hσN hj).2
  have hfar : ∀ {j b : Nat} {o : HObj}, kap σ H.length j = none → K.rho j = some b → H[j]? = some o → o.live → ¬ owned K1 b := fun hj hr ho hl h2 => hapart hj hr ho hl (s.own _ (hh.obj _ _ hr).1 h2)
  have hftok : ∀ {j b : Nat}, kap σ H.length j = none → K.tb j = some b → ¬ owned K1 b := fun hj hr h2 => htok hj hr (s.own _ (hh.tok _ _ hr).1 h2)
  have hlive : ∀ {i j : Nat} {o1 o2 : HObj}, τ[i]? = some j → h1[i]? = some o1 → H2[j]? = some o2 → RenO τ o1 o2 ∧ (o2.live → o1.live) ∧ (o1.live → o2.live) ∧ (o1 = .dead → o2 = .dead) := by
    intro i j o1 o2 hij ho1 ho2
    obtain ⟨o3, g1, g2, g3⟩ := hnew i j o1 hij ho1
    rw [ho2] at g1
    injection g1 with g1
    subst g1
    refine ⟨g2, fun hl2 => ?_, fun hl1 => g2.live hl1, g3⟩
    by_cases hd : o1 = .dead
    · rw [g3 hd] at hl2; exact hl2.elim
    · exact g2.live2 hd hl2
  have hheap : HeapRel K2 H2 w' := by
    refine ⟨fun id b hr => ?_, fun i j b x y hi hj hx hy lx ly => ?_, fun k => ?_, fun k b hk => ?_, fun i j b hi hj => ?_, hh1.limb⟩
    · rcases hrho hr with ⟨i, h2, h3, h4⟩ | ⟨h2, h3⟩
      · obtain ⟨g1, o1, g2, g3, g4⟩ := hh1.obj i b h3
        obtain ⟨o2, g5, g6, g7⟩ := hnew i id o1 h4 g2
        refine ⟨g1, o2, g5, ?_, fun hl2 => g4 ((hlive h4 g2 g5).2.1 hl2)⟩
        by_cases hd : o1 = .dead
        · rw [g7 hd]; trivial
        · exact g6.back (K1 := K1) (K2 := K2) rfl hk2 hd g3
      · obtain ⟨g1, o, g2, g3, g4⟩ := hh.obj id b h3
        refine ⟨Nat.lt_of_lt_of_le g1 s.size, o, by rw [hkeep h2]; exact g2, ?_, fun hl2 => ?_⟩
        · cases o with
          | dead => trivial
          | tok _ => exact g3.elim
          | res => exact g3.elim
          | _ => exact ObjOk.keep hstep (s.frame b g1 (hapart h2 h3 g2 trivial)).1 g3
        · have := (s.frame b g1 (hapart h2 h3 g2 hl2)).2
          show K1.lim b = 0
          rw [this]
          exact g4 hl2
    · rcases hrho hi with ⟨i', h2, h3, h4⟩ | ⟨h2, h3⟩
      · obtain ⟨_, o1, g2, _⟩ := hh1.obj i' b h3
        have l1 := (hlive h4 g2 hx).2.1 lx
        rcases hrho hj with ⟨j', k2, k3, k4⟩ | ⟨k2, k3⟩
        · obtain ⟨_, o2, g3, _⟩ := hh1.obj j' b k3
          have l2 := (hlive k4 g3 hy).2.1 ly
          have := hh1.inj i' j' b o1 o2 h3 k3 g2 g3 l1 l2
          subst this
          rw [h4] at k4
          injection k4
        · rw [hkeep k2] at hy
          exact absurd (.inl ⟨i', h3⟩) (hfar k2 k3 hy ly)
      · rw [hkeep h2] at hx
        rcases hrho hj with ⟨j', k2, k3, k4⟩ | ⟨k2, k3⟩
        · exact absurd (.inl ⟨j', k3⟩) (hfar h2 h3 hx lx)
        · rw [hkeep k2] at hy
          exact hh.inj i j b x y h3 k3 hx hy lx ly
    · cases hkap : kap σ H.length k with
      | none =>
        simp only [K2, GK.back, hkap]
        rw [hkeep hkap]
        exact hh.wm k
      | some i =>
        simp only [K2, GK.back, hkap]
        rw [hh1.wm i]
        cases ho1 : h1[i]? with
        | none =>
          have hk : H2[k]? = none := by
            refine List.getElem?_eq_none ?_
            have := List.getElem?_eq_none_iff.1 ho1
            rcases kap_some hkap with ⟨h2, _⟩ | ⟨h2, h3⟩
            · have := lt_of_get h2; omega
            · omega
          rw [hk]
        | some o1 =>
          obtain ⟨o2, g1, g2, g3⟩ := hnew i k o1 (hτk hkap (lt_of_get ho1)) ho1
          rw [g1]
          have := g2.tok
          cases o1 <;> cases o2 <;> exact this
    · rcases htb hk with ⟨i, h2, h3, h4⟩ | ⟨h2, h3⟩
      · obtain ⟨g1, ⟨n, g2⟩, g3, g4⟩ := hh1.tok i b h3
        obtain ⟨o2, g5, g6, g7⟩ := hnew i k _ h4 g2
        refine ⟨g1, ⟨n, ?_⟩, fun id o hid ho hl => ?_, g4⟩
        · cases o2 <;> simp only [RenO] at g6
          rw [g5, g6]
        · rcases hrho hid with ⟨i', k2, k3, k4⟩ | ⟨k2, k3⟩
          · obtain ⟨_, o1, g8, _⟩ := hh1.obj i' b k3
            exact g3 i' o1 k3 g8 ((hlive k4 g8 ho).2.1 hl)
          · rw [hkeep k2] at ho
            exact hfar k2 k3 ho hl (.inr ⟨i, h3⟩)
      · obtain ⟨g1, ⟨n, g2⟩, g3, c, e, fr, g4, g5, g6⟩ := hh.tok k b h3
        have hf := s.frame b g1 (htok h2 h3)
        refine ⟨Nat.lt_of_lt_of_le g1 s.size, ⟨n, by rw [hkeep h2]; exact g2⟩, fun id o hid ho hl => ?_, c, e, fr, by rw [hf.1]; exact g4, ?_, g6⟩
        · rcases hrho hid with ⟨i', k2, k3, k4⟩ | ⟨k2, k3⟩
          · exact hftok h2 h3 (.inl ⟨i', k3⟩)
          · rw [hkeep k2] at ho
            exact g3 id o k3 ho hl
        · show K1.lim b ≤ c.size
          rw [hf.2]
          exact g5
    · rcases htb hi with ⟨i', h2, h3, h4⟩ | ⟨h2, h3⟩
      · rcases htb hj with ⟨j', k2, k3, k4⟩ | ⟨k2, k3⟩
        · have := hh1.tinj i' j' b h3 k3
          subst this
          rw [h4] at k4
          injection k4
        · exact absurd (.inr ⟨i', h3⟩) (hftok k2 k3)
      · rcases htb hj with ⟨j', k2, k3, k4⟩ | ⟨k2, k3⟩
        · exact absurd (.inr ⟨j', k3⟩) (hftok h2 h3)
        · exact hh.tinj i j b h3 k3
  exact ⟨v, y, K2, H2, rfl, hstep, hheap, hxy.back (K1 := K1) (K2 := K2) rfl hk2 hV, hR'⟩
end Go.Hw
