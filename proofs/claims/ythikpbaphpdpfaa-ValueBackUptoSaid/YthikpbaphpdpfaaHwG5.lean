/- Typed calls on a part of the memory. -/
import Derived.Test.YthikpbaphpdpfaaHwG4
import Derived.Test.YthikpbaphpdpfaaHwFrame2
set_option linter.unusedVariables false
set_option linter.unusedSimpArgs false
namespace Go.Hw
open Go

variable {P : Program} {N m : Nat} {S D : CallP} {b : Nat} {r : List Op} {e e' : Env} {h h' : Heap} {Q : Env → Heap → Prop} {QQ : Ex → Env → Heap → Prop} {d : Nat} {x y z : X}

/-- A call on the callee's own small memory. -/
def MC (P : Program) (f : FuncId) (args : List HV) (h : Heap) (x0 : HV) (h0 : Heap) : Prop := HCalls P f args h fun x h' => x = x0 ∧ h' = h0
def SameOff (σ : List Nat) : Nat → Heap → Heap → Prop
  | _, [], _ => True
  | i, o :: H, o2 :: H2 => (i ∈ σ ∨ o2 = o) ∧ SameOff σ (i + 1) H H2
  | _, _ :: _, [] => False
theorem SameOff.get {σ : List Nat} : ∀ {H H2 : Heap} {k : Nat}, SameOff σ k H H2 → ∀ j : Nat, j < H.length → k + j ∉ σ → H2[j]? = H[j]?
  | [], _, _, _, j, hj, _ => by simp at hj
  | o :: H, [], k, h, _, _, _ => h.elim
  | o :: H, o2 :: H2, k, ⟨h1, h2⟩, j, hj, hn => by
    cases j with
    | zero =>
      rcases h1 with h1 | h1
      · exact absurd h1 hn
      · simp [h1]
    | succ j =>
      simp only [List.getElem?_cons_succ]
      exact h2.get j (by simpa using hj) (by rw [show k + 1 + j = k + (j + 1) by omega]; exact hn)
theorem so_nil {σ : List Nat} {k : Nat} {H2 : Heap} : SameOff σ k [] H2 := trivial
theorem so_same {σ : List Nat} {k : Nat} {o : HObj} {H H2 : Heap} (h : SameOff σ (k + 1) H H2) : SameOff σ k (o :: H) (o :: H2) := ⟨.inr rfl, h⟩
theorem so_skip {σ : List Nat} {k : Nat} {o o2 : HObj} {H H2 : Heap} (hk : k ∈ σ) (h : SameOff σ (k + 1) H H2) : SameOff σ k (o :: H) (o2 :: H2) := ⟨.inl hk, h⟩
/-- The callee's memory, by the caller's names, is the caller's. -/
def ROut (σ0 : List Nat) (H2 : Heap) : List Nat → Heap → Prop
  | [], [] => True
  | j :: σ, o1 :: h1 => (∃ o2, H2[j]? = some o2 ∧ RenO σ0 o1 o2 ∧ (o1 = .dead → o2 = .dead)) ∧ ROut σ0 H2 σ h1
  | _, _ => False
theorem ROut.get {σ0 : List Nat} {H2 : Heap} : ∀ {σ : List Nat} {h1 : Heap}, ROut σ0 H2 σ h1 → ∀ (i j : Nat) (o1 : HObj), σ[i]? = some j → h1[i]? = some o1 → ∃ o2, H2[j]? = some o2 ∧ RenO σ0 o1 o2 ∧ (o1 = .dead → o2 = .dead)
  | [], [], _, i, j, o1, hi, _ => by simp at hi
  | k :: σ, o :: h1, ⟨g1, g2⟩, i, j, o1, hi, ho => by
    cases i with
    | zero => simp at hi ho; subst hi; subst ho; exact g1
    | succ i => simp at hi ho; exact g2.get i j o1 hi ho
theorem ou_nil {σ0 : List Nat} {H2 : Heap} : ROut σ0 H2 [] [] := trivial
theorem ou_tok {σ0 σ : List Nat} {H2 h1 : Heap} {j n : Nat} (hj : H2[j]? = some (.tok n)) (h : ROut σ0 H2 σ h1) : ROut σ0 H2 (j :: σ) (.tok n :: h1) := ⟨⟨_, hj, rfl, fun h => by cases h⟩, h⟩
theorem ou_cells {σ0 σ : List Nat} {H2 h1 : Heap} {j : Nat} {xs ys : List HV} (hj : H2[j]? = some (.cells ys)) (hr : RenL σ0 xs ys) (h : ROut σ0 H2 σ h1) : ROut σ0 H2 (j :: σ) (.cells xs :: h1) := ⟨⟨_, hj, hr.get, fun h => by cases h⟩, h⟩
theorem ou_map {A B : Type} {fk : A → HV} {fv : B → HV} {s1 s2 : Nat} (hk : Enc fk s1) (hv : Enc fv s2) {σ0 σ : List Nat} {H2 h1 : Heap} {j : Nat} {mm : GM A B} (hj : H2[j]? = some (mm.obj fk fv)) (h : ROut σ0 H2 σ h1) : ROut σ0 H2 (j :: σ) (mm.obj fk fv :: h1) := by
  have : RenH σ0 H2 [j] [mm.obj fk fv] := ro_map hk hv hj ro_nil
  obtain ⟨⟨o, g1, g2, _⟩, _⟩ := this
  exact ⟨⟨o, g1, g2, fun h => by simp [GM.obj] at h⟩, h⟩
/-- Arguments by the callee's names. -/
def RenA (σ : List Nat) : List HV → List HV → Prop
  | [], [] => True
  | x :: xs, y :: ys => (Ren σ x y ∨ Ren σ x y.strip1) ∧ RenA σ xs ys
  | _, _ => False
theorem RenA.get {σ : List Nat} : ∀ {xs ys : List HV}, RenA σ xs ys → ys.length = xs.length ∧ ∀ (j : Nat) (x y : HV), xs[j]? = some x → ys[j]? = some y → Ren σ x y ∨ Ren σ x y.strip1
  | [], [], _ => ⟨rfl, fun j x y h => by simp at h⟩
  | x :: xs, y :: ys, ⟨h1, h2⟩ => by
    obtain ⟨h3, h4⟩ := h2.get
    refine ⟨by simp [h3], fun j u v h5 h6 => ?_⟩
    cases j with
    | zero => simp at h5 h6; subst h5; subst h6; exact h1
    | succ j => simp at h5 h6; exact h4 j u v h5 h6
theorem ra_nil {σ : List Nat} : RenA σ [] [] := trivial
theorem ra_cons {σ : List Nat} {x y : HV} {xs ys : List HV} (h1 : Ren σ x y) (h2 : RenA σ xs ys) : RenA σ (x :: xs) (y :: ys) := ⟨.inl h1, h2⟩
theorem ra_cons1 {σ : List Nat} {x y : HV} {xs ys : List HV} (h1 : Ren σ x y.strip1) (h2 : RenA σ xs ys) : RenA σ (x :: xs) (y :: ys) := ⟨.inr h1, h2⟩
theorem g_hcall {f : FuncId} {xs : List X} {vs ws as : List HV} {A : Type} {h0 : Heap} {g g2 : A → HV} {ho H2 : A → Heap} {K : A → Prop} (σ τ : List Nat) (n k : Nat) (hx : evs e xs = some vs) (ha : vs.map HV.strip1 = ws) (hw : ∃ a, MC P f as h0 (g a) (ho a) ∧ K a) (hN : h.length = n) (hτ : tau σ n k = τ) (hnd : σ.Nodup) (hlt : ∀ j ∈ σ, j < n)
    (hin : RenH σ h σ h0) (hdead : HObj.dead ∉ h0) (hargs : RenA σ as ws)
    (l1 : ∀ a, (ho a).length = σ.length + k) (l2 : ∀ a, (H2 a).length = n + k) (hres : ∀ a, Ren τ (g a) (g2 a)) (hoff : ∀ a, SameOff σ 0 h (H2 a)) (hback : ∀ a, ROut τ (H2 a) τ (ho a))
    (kk : ∀ a, K a → HO (HCalls P) b r ((d, g2 a) :: e) (H2 a) Q) : HO (HCalls P) b (⟨some d, .call f xs, none⟩ :: r) e h Q := by
  obtain ⟨a, h1, h2⟩ := hw
  refine ⟨?_⟩
  subst hN
  subst ha
  simp only [hops, hcall, hx]
  have hk := (kk a h2).out
  refine HCalls.frame (R := fun x h' => x = g a ∧ h' = ho a) σ h1 hnd (fun i j hij => hlt j (List.mem_of_getElem? hij)) hin.get.1 (fun i j o' hi hj => ?_) ?_ ?_
  · obtain ⟨o, g1, g2, g3⟩ := hin.get.2 i j o' hi hj
    exact ⟨o, g1, g2, g3, fun hd => hdead (hd ▸ List.mem_of_getElem? hi)⟩
  · obtain ⟨g1, g2⟩ := hargs.get
    exact ⟨g1, g2⟩
  · rintro x h' ⟨rfl, rfl⟩
    have hkk : (ho a).length - σ.length = k := by rw [l1 a]; omega
    refine ⟨g2 a, H2 a, hk, by rw [l1 a]; omega, ?_, by rw [hkk]; exact l2 a, fun j hj hn => ?_, fun i j o1 hi ho1 => ?_⟩
    · rw [hkk, hτ]; exact hres a
    · refine (hoff a).get j hj ?_
      rw [Nat.zero_add]
      intro hm
      obtain ⟨i, hi⟩ := List.getElem?_of_mem hm
      exact hn i hi
    · rw [hkk, hτ] at hi ⊢
      exact (hback a).get i j o1 hi ho1
/-- A function on its own small memory. -/
theorem p_hfunc {f : FuncId} {fn : Func} {code : Code} {c : C} {ann : Ann} {rs : List RS} {args : List HV} {h : Heap} {x0 : HV} {h0 : Heap} (hf : P.funcs[f]? = some fn) (hb : fn.body = some code) (hn : fn.name ≠ "runtime.NumGoroutine")
    (hres : resTags P fn.results.toList = some rs) (hargs : args.length ≤ fn.ntmps) (hc : comp P ann fn.ntmps code = some c)
    (hw : SC P fn.ntmps h.length c (RetS rs h.length fun x h' => x = x0 ∧ h' = h0) (argEnv args) h) : MC P f args h x0 h0 :=
  sc_func hf hb hn hres hargs hc hw
theorem g_hret {rs : List RS} {ex : Ex} {x0 : HV} {h0 : Heap} {vs : List HV} (hq : ex = .normal ∨ ex = .ret) (hk : WeakF m e h e' h0) (hv : resVals2 e' h0 rs = some vs) (hf : retV vs = x0) : RetS rs m (fun x h' => x = x0 ∧ h' = h0) ex e h :=
  ⟨hq, e', h0, hk, vs, hv, hf, rfl⟩
theorem g_hret2 {A : Type} {a r0 : A} {g : A → HV} {ho : A → Heap} {rs : List RS} {ex : Ex} {vs : List HV} (ha : a = r0) (hq : ex = .normal ∨ ex = .ret) (hk : WeakF m e h e' (ho a)) (hv : resVals2 e' (ho a) rs = some vs) (hf : retV vs = g a) : RetS rs m (fun x h' => x = g r0 ∧ h' = ho r0) ex e h :=
  ha ▸ g_hret hq hk hv hf
theorem weak_renm (m0 : Nat) (hm : m = m0) (σ : List Nat) (hid : ∀ i, i < m0 → σ[i]? = some i) (hnd : σ.Nodup) (hh : RenH σ h σ h') (he : RenE σ e e') : WeakF m e h e' h' :=
  weak_ren σ (by rw [hm]; exact hid) hnd hh he
end Go.Hw
