/- More typed steps. -/
import Derived.Test.YthikpbaphpdpfaaHwG
set_option linter.unusedVariables false
set_option linter.unusedSimpArgs false
namespace Go.Hw
open Go

variable {P : Program} {N m : Nat} {S D : CallP} {b : Nat} {r : List Op} {e e' : Env} {h h' : Heap} {Q : Env → Heap → Prop} {QQ : Ex → Env → Heap → Prop} {d : Nat} {x y z : X}

theorem mkn {p : HV → Prop} : ∀ v ∈ ([] : List HV), p v := by simp
theorem mkc {p : HV → Prop} {a : HV} {l : List HV} (h1 : p a) (h2 : ∀ v ∈ l, p v) : ∀ v ∈ a :: l, p v := by
  intro v hv
  rcases List.mem_cons.1 hv with rfl | hv
  · exact h1
  · exact h2 v hv
theorem pvn : ∀ x ∈ ([] : List HV), PV x := mkn
theorem pvc {a : HV} {l : List HV} (h1 : PV a) (h2 : ∀ x ∈ l, PV x) : ∀ x ∈ a :: l, PV x := mkc h1 h2
theorem pvtup {l : List HV} (h : ∀ x ∈ l, PV x) : PV (.tuple l) := .tuple l h
theorem g_mkb {xs : List X} {ms : List Int} {K : Prop} (hx : evs e xs = some (ms.map fun m => HV.int .u8 m)) (hw : (∀ m ∈ ms, 0 ≤ m ∧ m < 256) ∧ K) (k : K → HO S b r ((d, .list (bytesOf (ms.map fun m : Int => UInt8.ofNat m.toNat)) .full) :: e) h Q) : HO S b (⟨some d, .op (.mklist 1 xs), none⟩ :: r) e h Q := by
  refine st_mklist hx (fun v hv => ?_) ?_ (k hw.2)
  · obtain ⟨m, _, rfl⟩ := List.mem_map.1 hv
    exact ⟨rfl, rfl⟩
  · simp only [bytesOf, List.map_map]
    refine List.map_congr_left fun m hm => ?_
    obtain ⟨h1, h2⟩ := hw.1 m hm
    have : ((UInt8.ofNat m.toNat).toNat : Int) = m := by
      rw [UInt8.toNat_ofNat', Nat.mod_eq_of_lt (by omega)]; omega
    simp only [Function.comp, HV.strip1, this]
theorem g_field {f : Nat} {n : Option Nat} {cs : List HV} {v : HV} (hx : x.ev e = some (.agg cs)) (h1 : atCells n (cs.drop f) = some v) (k : HO S b r ((d, v) :: e) h Q) : HO S b (⟨some d, .op (.field f n x), none⟩ :: r) e h Q := by
  refine ⟨?_⟩
  simp only [hops, hcall, hstep, hx, h1]
  exact k.out
theorem g_build {zs cs : List HV} {ps : List (Nat × Nat × X)} {l : List (Nat × Nat × HV)} (hx : evParts e ps = some l) (h1 : fillCells zs l = some cs) (k : HO S b r ((d, .agg cs) :: e) h Q) : HO S b (⟨some d, .op (.build zs ps), none⟩ :: r) e h Q := by
  refine ⟨?_⟩
  simp only [hops, hcall, hstep, hx, h1]
  exact k.out
theorem st_nilck_r {cs : List HV} (hx : x.ev e = some (.rptr cs)) (k : HO S b r ((d, .rptr cs) :: e) h Q) : HO S b (⟨some d, .op (.nilck x), none⟩ :: r) e h Q := by
  refine ⟨?_⟩
  simp only [hops, hcall, hstep, hx]
  exact k.out
theorem st_nilck_p {i o : Nat} (hx : x.ev e = some (.ptr i o)) (k : HO S b r ((d, .ptr i o) :: e) h Q) : HO S b (⟨some d, .op (.nilck x), none⟩ :: r) e h Q := by
  refine ⟨?_⟩
  simp only [hops, hcall, hstep, hx]
  exact k.out

theorem g_eqn2 {T : Type} {l : List T} {f : T → HV} {tok : Tok} {A B : Prop} (hx : x.ev e = some (.list (l.map f) tok)) (hy : y.ev e = some .nilslice) (hw : (l.length = 0 → A) ∧ B) (k1 : A → HO S b r ((d, .bool true) :: e) h Q) (k2 : B → HO S b r ((d, .bool false) :: e) h Q) : HO S b (⟨some d, .op (.eqv false .slice x y), none⟩ :: r) e h Q :=
  g_eqn hx hy (by rw [List.length_map]; exact hw) k1 k2
theorem g_nen2 {T : Type} {l : List T} {f : T → HV} {tok : Tok} {A B : Prop} (hx : x.ev e = some (.list (l.map f) tok)) (hy : y.ev e = some .nilslice) (hw : (l.length = 0 → A) ∧ B) (k1 : A → HO S b r ((d, .bool false) :: e) h Q) (k2 : B → HO S b r ((d, .bool true) :: e) h Q) : HO S b (⟨some d, .op (.eqv true .slice x y), none⟩ :: r) e h Q :=
  g_nen hx hy (by rw [List.length_map]; exact hw) k1 k2

/-! ### names forgotten -/
def RenE (σ : List Nat) (e : Env) : Env → Prop
  | [] => True
  | (t, x') :: r => (∃ x, e.get t = some x ∧ (Ren σ x' x ∨ Ren σ x' x.strip1)) ∧ RenE σ e r
def RenH (σ0 : List Nat) (h : Heap) : List Nat → Heap → Prop
  | [], [] => True
  | j :: σ, o' :: h' => (∃ o, h[j]? = some o ∧ RenO σ0 o' o ∧ o' ≠ .tok 0) ∧ RenH σ0 h σ h'
  | _, _ => False
theorem RenH.get {σ0 : List Nat} {h : Heap} : ∀ {σ : List Nat} {h' : Heap}, RenH σ0 h σ h' → h'.length = σ.length ∧ ∀ (i j : Nat) (o' : HObj), h'[i]? = some o' → σ[i]? = some j → ∃ o, h[j]? = some o ∧ RenO σ0 o' o ∧ o' ≠ .tok 0
  | [], [], _ => ⟨rfl, fun i j o' h1 => by simp at h1⟩
  | j :: σ, o' :: h', ⟨h1, h2⟩ => by
    obtain ⟨h3, h4⟩ := h2.get
    refine ⟨by simp [h3], fun i k o h5 h6 => ?_⟩
    cases i with
    | zero => simp at h5 h6; subst h5; subst h6; exact h1
    | succ i => simp at h5 h6; exact h4 i k o h5 h6
theorem RenE.get {σ : List Nat} : ∀ {e' : Env}, RenE σ e e' → ∀ t x', e'.get t = some x' → ∃ x, e.get t = some x ∧ (Ren σ x' x ∨ Ren σ x' x.strip1)
  | [], _, t, x', h => by simp [Env.get] at h
  | (u, y) :: r, ⟨h1, h2⟩, t, x', h => by
    simp only [Env.get] at h
    split at h
    · rename_i hu
      injection h with h
      subst h
      have : u = t := by simpa using hu
      subst this
      exact h1
    · exact h2.get t x' h
theorem weak_ren (σ : List Nat) (hid : ∀ i, i < m → σ[i]? = some i) (hnd : σ.Nodup) (hh : RenH σ h σ h') (he : RenE σ e e') : WeakF m e h e' h' :=
  WeakF.ren σ hid hnd hh.get.1 hh.get.2 he.get
theorem ro_nil {σ0 : List Nat} : RenH σ0 h [] [] := trivial
theorem ro_tok {σ0 σ : List Nat} {j n : Nat} (h1 : h[j]? = some (.tok (1 + n))) (h2 : RenH σ0 h σ h') : RenH σ0 h (j :: σ) (.tok (1 + n) :: h') := ⟨⟨_, h1, rfl, by simp⟩, h2⟩
theorem re_nil {σ : List Nat} : RenE σ e [] := trivial
theorem re_cons {σ : List Nat} {t : Nat} {x' u : HV} (h1 : e.get t = some u) (h2 : Ren σ x' u) (h3 : RenE σ e e') : RenE σ e ((t, x') :: e') := ⟨⟨u, h1, .inl h2⟩, h3⟩
theorem re_cons1 {σ : List Nat} {t : Nat} {x' u : HV} (h1 : e.get t = some u) (h2 : Ren σ x' u.strip1) (h3 : RenE σ e e') : RenE σ e ((t, x') :: e') := ⟨⟨u, h1, .inr h2⟩, h3⟩
theorem w_acc {A : Type} {l : List A} {f : A → HV} (t sz : Nat) {n : Nat} (hn : h.length = n) (hf : Enc f sz) (hg : e.get t = some (.list (l.map f) .full)) : WeakF m e h ((t, .list (l.map f) (.own n 1 sz)) :: e) (h ++ [.tok (1 + l.length)]) := by
  subst hn
  have := Weak.acc (h := h) t sz (l.map f) hg (wid_map hf l)
  rw [List.length_map] at this
  exact WeakF.of this
theorem pv_flat {A : Type} {f : A → HV} {sz : Nat} (hf : Enc f sz) (l : List A) : ∀ (x : HV), x ∈ flat (l.map f) → PV x := by
  cases pv_lst hf l .none (by simp) with
  | list _ _ _ h => exact h
end Go.Hw
