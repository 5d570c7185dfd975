/- Typed steps: structs compared, arrays of two, names of objects forgotten. -/
import Derived.Test.YthikpbaphpdpfaaHwG3
set_option linter.unusedVariables false
set_option linter.unusedSimpArgs false
namespace Go.Hw
open Go

variable {P : Program} {N m : Nat} {S D : CallP} {b : Nat} {r : List Op} {e e' : Env} {h h' : Heap} {Q : Env → Heap → Prop} {QQ : Ex → Env → Heap → Prop} {d : Nat} {x y z : X}

theorem g_eqa {T : Type} [DecidableEq T] {fk : T → HV} {ks : List Sc} {F G : Prop} (hk : EncK fk (.agg ks)) (hag : ∀ a, ∃ cs, fk a = .agg cs) (a c : T) (hx : x.ev e = some (fk a)) (hy : y.ev e = some (fk c)) (hw : (a = c → F) ∧ (a ≠ c → G)) (k1 : F → HO S b r ((d, .bool true) :: e) h Q) (k2 : G → HO S b r ((d, .bool false) :: e) h Q) : HO S b (⟨some d, .op (.eqv false (.agg ks) x y), none⟩ :: r) e h Q := by
  obtain ⟨cs, hcs⟩ := hag a
  obtain ⟨ds, hds⟩ := hag c
  have := hk a c
  rw [hcs] at hx
  rw [hds] at hy
  rw [hcs, hds] at this
  simp only [keq] at this
  refine ⟨?_⟩
  simp only [hops, hcall, hstep, hx, hy, this]
  by_cases hac : a = c
  · simp only [hac, decide_true]; exact (k1 (hw.1 hac)).out
  · simp only [hac, decide_false]; exact (k2 (hw.2 hac)).out
theorem g_nea {T : Type} [DecidableEq T] {fk : T → HV} {ks : List Sc} {F G : Prop} (hk : EncK fk (.agg ks)) (hag : ∀ a, ∃ cs, fk a = .agg cs) (a c : T) (hx : x.ev e = some (fk a)) (hy : y.ev e = some (fk c)) (hw : (a ≠ c → F) ∧ (a = c → G)) (k1 : F → HO S b r ((d, .bool true) :: e) h Q) (k2 : G → HO S b r ((d, .bool false) :: e) h Q) : HO S b (⟨some d, .op (.eqv true (.agg ks) x y), none⟩ :: r) e h Q := by
  obtain ⟨cs, hcs⟩ := hag a
  obtain ⟨ds, hds⟩ := hag c
  have := hk a c
  rw [hcs] at hx
  rw [hds] at hy
  rw [hcs, hds] at this
  simp only [keq] at this
  refine ⟨?_⟩
  simp only [hops, hcall, hstep, hx, hy, this]
  by_cases hac : a = c
  · simp only [hac, decide_true]; exact (k2 (hw.2 hac)).out
  · simp only [hac, decide_false]; exact (k1 (hw.1 hac)).out
theorem g_ia2 {sz : Nat} {ag : Bool} {cs : List HV} {i : IntKind} {q : Int} {F G : Prop} {v w : HV} (hx : x.ev e = some (.agg cs)) (hy : y.ev e = some (.int i q)) (h0 : atCells (if ag then some sz else none) cs = some v) (h1 : atCells (if ag then some sz else none) (cs.drop sz) = some w) (hw : (0 ≤ q ∧ q < 2) ∧ (q = 0 → F) ∧ (q = 1 → G)) (k1 : F → HO S b r ((d, v) :: e) h Q) (k2 : G → HO S b r ((d, w) :: e) h Q) : HO S b (⟨some d, .op (.indexarr 2 sz ag x y), none⟩ :: r) e h Q := by
  refine ⟨?_⟩
  simp only [hops, hcall, hstep, hx, hy]
  rcases (show q = 0 ∨ q = 1 by omega) with rfl | rfl
  · simp only [show (0 : Int).toNat * sz = 0 by simp, List.drop_zero, h0]
    exact ⟨by decide, (k1 (hw.2.1 rfl)).out⟩
  · simp only [show (1 : Int).toNat * sz = sz by simp, h1]
    exact ⟨by decide, (k2 (hw.2.2 rfl)).out⟩

theorem gb_s {op : BinOp} {u v : List UInt8} {t0 : Bool} {K : Bool → Prop} (hx : x.ev e = some (.str u)) (hy : y.ev e = some (.str v)) (h1 : sbinOk op u v) (h2 : sbin op u v = some (.bool t0)) (hw : ∀ t, t = t0 → K t) (k : ∀ t, K t → HO S b r ((d, .bool t) :: e) h Q) : HO S b (⟨some d, .op (.bin op x y), none⟩ :: r) e h Q :=
  st_sbin hx hy h1 h2 (k _ (hw _ rfl))

theorem lt_of_blt {a b : Nat} (h : Nat.blt a b = true) : a < b := Nat.le_of_ble_eq_true h

/-! ### objects under new names -/
def RenL (σ : List Nat) : List HV → List HV → Prop
  | [], [] => True
  | x :: xs, y :: ys => (Ren σ x y ∧ x.leaf = true) ∧ RenL σ xs ys
  | _, _ => False
theorem RenL.get {σ : List Nat} : ∀ {xs ys : List HV}, RenL σ xs ys → xs.length = ys.length ∧ ∀ (j : Nat) (x y : HV), xs[j]? = some x → ys[j]? = some y → Ren σ x y ∧ x.leaf = true
  | [], [], _ => ⟨rfl, fun j x y h => by simp at h⟩
  | x :: xs, y :: ys, ⟨h1, h2⟩ => by
    obtain ⟨h3, h4⟩ := h2.get
    refine ⟨by simp [h3], fun j u v h5 h6 => ?_⟩
    cases j with
    | zero => simp at h5 h6; subst h5; subst h6; exact h1
    | succ j => simp at h5 h6; exact h4 j u v h5 h6
theorem rl_nil {σ : List Nat} : RenL σ [] [] := trivial
theorem rl_cons {σ : List Nat} {x' y' : HV} {xs ys : List HV} (h1 : Ren σ x' y') (h2 : x'.leaf = true) (h3 : RenL σ xs ys) : RenL σ (x' :: xs) (y' :: ys) := ⟨⟨h1, h2⟩, h3⟩
theorem ro_cells {σ0 σ : List Nat} {j : Nat} {xs ys : List HV} (h1 : h[j]? = some (.cells ys)) (hr : RenL σ0 xs ys) (h2 : RenH σ0 h σ h') : RenH σ0 h (j :: σ) (.cells xs :: h') := ⟨⟨_, h1, hr.get, by simp⟩, h2⟩
theorem ro_map {A B : Type} {fk : A → HV} {fv : B → HV} {s1 s2 : Nat} (hk : Enc fk s1) (hv : Enc fv s2) {σ0 σ : List Nat} {j : Nat} {mm : GM A B} (h1 : h[j]? = some (mm.obj fk fv)) (h2 : RenH σ0 h σ h') : RenH σ0 h (j :: σ) (mm.obj fk fv :: h') := by
  refine ⟨⟨_, h1, ⟨rfl, rfl, fun j n q u v u' v' g1 g2 => ?_⟩, by simp [GM.obj]⟩, h2⟩
  rw [g1] at g2
  injection g2 with g2
  injection g2 with g3 g2
  injection g2 with g4 g5
  subst g3; subst g4; subst g5
  rw [List.getElem?_map] at g1
  obtain ⟨p, _, hp⟩ := Option.map_eq_some_iff.1 g1
  injection hp with g3 hp
  injection hp with g4 g5
  subst g3; subst g4; subst g5
  exact ⟨rfl, .pv _ (hk.all _), .pv _ (hv.all _), hk.tup _, hv.tup _⟩

/-! ### a map's iterator -/
theorem g_range {A B : Type} {fk : A → HV} {fv : B → HV} {mm : GM A B} {id n : Nat} (hx : x.ev e = some (.map id)) (hm : h[id]? = some (mm.obj fk fv)) (hn : h.length = n) (hh : h ++ [.iter (some id) mm.c [] mm.c] = h') (k : HO S b r ((d, .ptr n 0) :: e) h' Q) : HO S b (⟨some d, .op (.range false x), none⟩ :: r) e h Q := by
  subst hn; subst hh
  refine ⟨?_⟩
  simp only [hops, hcall, hstep, hx, mapAt_obj hm]
  exact k.out
theorem g_next {A B : Type} {fk : A → HV} {fv : B → HV} {mm : GM A B} {id i since last : Nat} {seen : List Nat} {F : Nat → A → B → Prop} {G : Prop} (hx : x.ev e = some (.ptr i 0)) (hi : h[i]? = some (.iter (some id) since seen last)) (hm : h[id]? = some (mm.obj fk fv)) (hw : (seen = [] ∨ mm.es = [] ∨ ∃ p ∈ mm.es, p.1 < last) ∧ (∀ n q v, (n, q, v) ∈ mm.es → n ∉ seen → F n q v) ∧ ((∀ p ∈ mm.es, p.1 ∉ seen → since ≤ p.1) → G)) (h' : Nat → Heap) (hh : ∀ n, h.set i (.iter (some id) since (seen ++ [n]) mm.c) = h' n) (k1 : ∀ n q v, F n q v → HO S b r ((d, .tuple [.bool true, fk q, fv v]) :: e) (h' n) Q) (k2 : G → HO S b r ((d, .tuple [.bool false]) :: e) h Q) : HO S b (⟨some d, .op (.next false x), none⟩ :: r) e h Q := by
  refine ⟨?_⟩
  simp only [hops, hcall, hstep, hx, hi, mapAt_obj hm]
  refine ⟨?_, fun j p hp hs => ?_, fun hall => ?_⟩
  · rcases hw.1 with h1 | h1 | ⟨p, h1, h2⟩
    · exact .inl h1
    · exact .inr (.inl (by simp [h1]))
    · exact .inr (.inr ⟨_, List.mem_map.2 ⟨p, h1, rfl⟩, h2⟩)
  · rw [List.getElem?_map] at hp
    obtain ⟨u, hu, rfl⟩ := Option.map_eq_some_iff.1 hp
    have := (k1 u.1 u.2.1 u.2.2 (hw.2.1 _ _ _ (List.mem_of_getElem? hu) hs)).out
    rw [← hh] at this
    exact this
  · exact (k2 (hw.2.2 fun p hp => hall _ (List.mem_map.2 ⟨p, hp, rfl⟩))).out
theorem g_entry {A B : Type} {fk : A → HV} {fv : B → HV} {mm : GM A B} {id i since last : Nat} {seen : List Nat} {K : A → B → Prop} (hx : x.ev e = some (.ptr i 0)) (hi : h[i]? = some (.iter (some id) since seen last)) (hm : h[id]? = some (mm.obj fk fv)) (hw : ∃ n, seen.getLast? = some n ∧ mm.c = last ∧ (∃ p : Nat × A × B, mm.es.find? (fun p => p.1 == n) = some p) ∧ ∀ (n' : Nat) (q : A) (v : B), mm.es.find? (fun p => p.1 == n) = some (n', q, v) → K q v) (k : ∀ q v, K q v → HO S b r ((d, .tuple [fk q, fv v]) :: e) h Q) : HO S b (⟨some d, .op (.entry x), none⟩ :: r) e h Q := by
  obtain ⟨n, h1, h2, ⟨p, h3⟩, h4⟩ := hw
  have hf : (mm.es.map fun p => (p.1, fk p.2.1, fv p.2.2)).find? (fun p => p.1 == n) = some (p.1, fk p.2.1, fv p.2.2) := by
    rw [List.find?_map]
    have : ((fun p : Nat × HV × HV => p.1 == n) ∘ fun p : Nat × A × B => (p.1, fk p.2.1, fv p.2.2)) = fun p : Nat × A × B => p.1 == n := rfl
    rw [this, h3]
    rfl
  refine ⟨?_⟩
  simp only [hops, hcall, hstep, hx, hi, mapAt_obj hm, h1, hf]
  exact ⟨h2, (k _ _ (h4 p.1 p.2.1 p.2.2 h3)).out⟩
theorem ro_iter {σ0 σ : List Nat} {j i' j' a c : Nat} {l : List Nat} (h1 : h[j]? = some (.iter (some j') a l c)) (hs : σ0[i']? = some j') (h2 : RenH σ0 h σ h') : RenH σ0 h (j :: σ) (.iter (some i') a l c :: h') := ⟨⟨_, h1, ⟨hs, rfl, rfl, rfl⟩, by simp⟩, h2⟩
end Go.Hw
