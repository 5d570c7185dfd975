/- Typed steps: function values, calls of them, calls whose result is not kept. -/
import Derived.Test.YthikpbaphpdpfaaHwG6
set_option linter.unusedVariables false
set_option linter.unusedSimpArgs false
namespace Go.Hw
open Go
variable {P : Program} {N m : Nat} {S D : CallP} {b : Nat} {r : List Op} {e e' : Env} {h h' : Heap} {Q : Env → Heap → Prop} {QQ : Ex → Env → Heap → Prop} {d : Nat} {x y z : X}

theorem pvapp {l l' : List HV} (h1 : ∀ x ∈ l, PV x) (h2 : ∀ x ∈ l', PV x) : ∀ x ∈ l ++ l', PV x := fun x hx => (List.mem_append.1 hx).elim (h1 x) (h2 x)
theorem pv_nil : PV (.list [] .full) := .list _ _ (by simp) (by simp [flat])
/-- A known cell of an array. -/
theorem g_iak {n sz j : Nat} {ag : Bool} {cs : List HV} {i : IntKind} {v : HV} (hx : x.ev e = some (.agg cs)) (hy : y.ev e = some (.int i (j : Int))) (h1 : atCells (if ag then some sz else none) (cs.drop (j * sz)) = some v) (hj : j < n) (k : HO S b r ((d, v) :: e) h Q) : HO S b (⟨some d, .op (.indexarr n sz ag x y), none⟩ :: r) e h Q := by
  refine ⟨?_⟩
  simp only [hops, hcall, hstep, hx, hy, Int.toNat_natCast, h1]
  exact ⟨by omega, k.out⟩
/-! ### function values -/
theorem g_mkfunc {f : FuncId} {xs : List X} {vs cs : List HV} (hx : evs e xs = some vs) (hc : vs.map HV.strip1 = cs) (k : HO S b r ((d, .func f cs) :: e) h Q) : HO S b (⟨some d, .op (.mkfunc f xs), none⟩ :: r) e h Q := by
  subst hc
  refine ⟨?_⟩
  simp only [hops, hcall, hstep, hx]
  exact k.out
def RenFL (σ : List Nat) : List HV → List HV → Prop
  | [], [] => True
  | x :: xs, y :: ys => Ren σ x y ∧ RenFL σ xs ys
  | _, _ => False
theorem RenFL.get {σ : List Nat} : ∀ {xs ys : List HV}, RenFL σ xs ys → xs.length = ys.length ∧ ∀ (j : Nat) (x y : HV), xs[j]? = some x → ys[j]? = some y → Ren σ x y
  | [], [], _ => ⟨rfl, fun j x y h => by simp at h⟩
  | x :: xs, y :: ys, ⟨h1, h2⟩ => by
    obtain ⟨h3, h4⟩ := h2.get
    refine ⟨by simp [h3], fun j u v h5 h6 => ?_⟩
    cases j with
    | zero => simp at h5 h6; subst h5; subst h6; exact h1
    | succ j => simp at h5 h6; exact h4 j u v h5 h6
theorem rf_nil {σ : List Nat} : RenFL σ [] [] := trivial
theorem rf_cons {σ : List Nat} {x' y' : HV} {xs ys : List HV} (h1 : Ren σ x' y') (h3 : RenFL σ xs ys) : RenFL σ (x' :: xs) (y' :: ys) := ⟨h1, h3⟩
theorem Ren.fn {σ : List Nat} {f : FuncId} {xs ys : List HV} (h : RenFL σ xs ys) : Ren σ (.func f xs) (.func f ys) := .func f xs ys h.get.1 h.get.2
/-! ### calls -/
def SubD (P : Program) (S : CallP) (f : FuncId) : Prop := ∀ as h R, DCalls P f as h R → S f as h R
def SubH (P : Program) (S : CallP) (f : FuncId) : Prop := ∀ as h R, HCalls P f as h R → S f as h R
theorem dh {f : FuncId} : SubD P (HCalls P) f := fun _ _ _ h => DCalls.sub h
theorem dd {f : FuncId} : SubD P (DCalls P) f := fun _ _ _ h => h
theorem dm {acts : List FuncId} {f : FuncId} : SubD P (MCalls P acts) f := fun as h R hd => by
  unfold MCalls
  split
  · exact DCalls.sub hd
  · exact hd
theorem hh {f : FuncId} : SubH P (HCalls P) f := fun _ _ _ h => h
theorem hm {acts : List FuncId} {f : FuncId} (hf : acts.contains f = true) : SubH P (MCalls P acts) f := fun as h R hd => by
  unfold MCalls
  rw [if_pos hf]
  exact hd
theorem k_call {f : FuncId} (hS : SubD P S f) {xs : List X} {vs as : List HV} {A : Type} {g : A → HV} {K : A → Prop} (hx : evs e xs = some vs) (ha : vs.map HV.strip1 = as) (hw : ∃ a, PCall P f as (g a) ∧ K a) (k : ∀ a, K a → HO S b r ((d, g a) :: e) h Q) : HO S b (⟨some d, .call f xs, none⟩ :: r) e h Q := by
  obtain ⟨a, h1, h2⟩ := hw
  subst ha
  refine ⟨?_⟩
  simp only [hops, hcall, hx]
  exact hS _ _ _ ⟨_, h1, (k a h2).out⟩
theorem k_call0 {f : FuncId} (hS : SubD P S f) {xs : List X} {vs as : List HV} {A : Type} {g : A → HV} {K : A → Prop} (hx : evs e xs = some vs) (ha : vs.map HV.strip1 = as) (hw : ∃ a, PCall P f as (g a) ∧ K a) (k : ∀ a, K a → HO S b r e h Q) : HO S b (⟨none, .call f xs, none⟩ :: r) e h Q := by
  obtain ⟨a, h1, h2⟩ := hw
  subst ha
  refine ⟨?_⟩
  simp only [hops, hcall, hx]
  exact hS _ _ _ ⟨_, h1, (k a h2).out⟩
theorem k_callv {f : FuncId} (hS : SubD P S f) {caps : List HV} (hf : x.ev e = some (.func f caps)) {xs : List X} {vs as : List HV} {A : Type} {g : A → HV} {K : A → Prop} (hx : evs e xs = some vs) (ha : vs.map HV.strip1 ++ caps = as) (hw : ∃ a, PCall P f as (g a) ∧ K a) (k : ∀ a, K a → HO S b r ((d, g a) :: e) h Q) : HO S b (⟨some d, .callv x xs, none⟩ :: r) e h Q := by
  obtain ⟨a, h1, h2⟩ := hw
  subst ha
  refine ⟨?_⟩
  simp only [hops, hcall, hf, hx]
  exact hS _ _ _ ⟨_, h1, (k a h2).out⟩
theorem k_callv0 {f : FuncId} (hS : SubD P S f) {caps : List HV} (hf : x.ev e = some (.func f caps)) {xs : List X} {vs as : List HV} {A : Type} {g : A → HV} {K : A → Prop} (hx : evs e xs = some vs) (ha : vs.map HV.strip1 ++ caps = as) (hw : ∃ a, PCall P f as (g a) ∧ K a) (k : ∀ a, K a → HO S b r e h Q) : HO S b (⟨none, .callv x xs, none⟩ :: r) e h Q := by
  obtain ⟨a, h1, h2⟩ := hw
  subst ha
  refine ⟨?_⟩
  simp only [hops, hcall, hf, hx]
  exact hS _ _ _ ⟨_, h1, (k a h2).out⟩
theorem mc_frame {f : FuncId} {vs as : List HV} {A : Type} {h0 : Heap} {g g2 : A → HV} {ho H2 : A → Heap} {K : A → Prop} {R : HV → Heap → Prop} (σ τ : List Nat) (n k : Nat) (hw : ∃ a, MC P f as h0 (g a) (ho a) ∧ K a) (hN : h.length = n) (hτ : tau σ n k = τ) (hnd : σ.Nodup) (hlt : ∀ j ∈ σ, j < n)
    (hin : RenH σ h σ h0) (hdead : HObj.dead ∉ h0) (hargs : RenA σ as vs)
    (l1 : ∀ a, (ho a).length = σ.length + k) (l2 : ∀ a, (H2 a).length = n + k) (hres : ∀ a, Ren τ (g a) (g2 a)) (hoff : ∀ a, SameOff σ 0 h (H2 a)) (hback : ∀ a, ROut τ (H2 a) τ (ho a))
    (kk : ∀ a, K a → R (g2 a) (H2 a)) : HCalls P f vs h R := by
  obtain ⟨a, h1, h2⟩ := hw
  subst hN
  have hk := kk a h2
  refine HCalls.frame (R := fun x h' => x = g a ∧ h' = ho a) σ h1 hnd (fun i j hij => hlt j (List.mem_of_getElem? hij)) hin.get.1 (fun i j o' hi hj => ?_) ?_ ?_
  · obtain ⟨o, g1, g2, g3⟩ := hin.get.2 i j o' hi hj
    exact ⟨o, g1, g2, g3, fun hd => hdead (hd ▸ List.mem_of_getElem? hi)⟩
  · obtain ⟨g1, g2⟩ := hargs.get
    exact ⟨g1, g2⟩
  · rintro x h' ⟨rfl, rfl⟩
    have hkk : (ho a).length - σ.length = k := by rw [l1 a]; omega
    refine ⟨g2 a, H2 a, hk, by rw [l1 a]; omega, ?_, by rw [hkk]; exact l2 a, fun j hj hn => ?_, fun i j o1 hi ho1 => ?_⟩
    · rw [hkk, hτ]; exact hres a
    · refine (hoff a).get j hj ?_
      rw [Nat.zero_add]
      intro hm
      obtain ⟨i, hi⟩ := List.getElem?_of_mem hm
      exact hn i hi
    · rw [hkk, hτ] at hi ⊢
      exact (hback a).get i j o1 hi ho1
theorem k_hcall {f : FuncId} (hS : SubH P S f) {xs : List X} {vs ws as : List HV} {A : Type} {h0 : Heap} {g g2 : A → HV} {ho H2 : A → Heap} {K : A → Prop} (σ τ : List Nat) (n k : Nat) (hx : evs e xs = some vs) (ha : vs.map HV.strip1 = ws) (hw : ∃ a, MC P f as h0 (g a) (ho a) ∧ K a) (hN : h.length = n) (hτ : tau σ n k = τ) (hnd : σ.Nodup) (hlt : ∀ j ∈ σ, j < n)
    (hin : RenH σ h σ h0) (hdead : HObj.dead ∉ h0) (hargs : RenA σ as ws)
    (l1 : ∀ a, (ho a).length = σ.length + k) (l2 : ∀ a, (H2 a).length = n + k) (hres : ∀ a, Ren τ (g a) (g2 a)) (hoff : ∀ a, SameOff σ 0 h (H2 a)) (hback : ∀ a, ROut τ (H2 a) τ (ho a))
    (kk : ∀ a, K a → HO S b r ((d, g2 a) :: e) (H2 a) Q) : HO S b (⟨some d, .call f xs, none⟩ :: r) e h Q := by
  subst ha
  refine ⟨?_⟩
  simp only [hops, hcall, hx]
  exact hS _ _ _ (mc_frame σ τ n k hw hN hτ hnd hlt hin hdead hargs l1 l2 hres hoff hback fun a ha => (kk a ha).out)
theorem k_hcall0 {f : FuncId} (hS : SubH P S f) {xs : List X} {vs ws as : List HV} {A : Type} {h0 : Heap} {g g2 : A → HV} {ho H2 : A → Heap} {K : A → Prop} (σ τ : List Nat) (n k : Nat) (hx : evs e xs = some vs) (ha : vs.map HV.strip1 = ws) (hw : ∃ a, MC P f as h0 (g a) (ho a) ∧ K a) (hN : h.length = n) (hτ : tau σ n k = τ) (hnd : σ.Nodup) (hlt : ∀ j ∈ σ, j < n)
    (hin : RenH σ h σ h0) (hdead : HObj.dead ∉ h0) (hargs : RenA σ as ws)
    (l1 : ∀ a, (ho a).length = σ.length + k) (l2 : ∀ a, (H2 a).length = n + k) (hres : ∀ a, Ren τ (g a) (g2 a)) (hoff : ∀ a, SameOff σ 0 h (H2 a)) (hback : ∀ a, ROut τ (H2 a) τ (ho a))
    (kk : ∀ a, K a → HO S b r e (H2 a) Q) : HO S b (⟨none, .call f xs, none⟩ :: r) e h Q := by
  subst ha
  refine ⟨?_⟩
  simp only [hops, hcall, hx]
  exact hS _ _ _ (mc_frame σ τ n k hw hN hτ hnd hlt hin hdead hargs l1 l2 hres hoff hback fun a ha => (kk a ha).out)
theorem k_hcallv {f : FuncId} (hS : SubH P S f) {caps : List HV} (hf : x.ev e = some (.func f caps)) {xs : List X} {vs ws as : List HV} {A : Type} {h0 : Heap} {g g2 : A → HV} {ho H2 : A → Heap} {K : A → Prop} (σ τ : List Nat) (n k : Nat) (hx : evs e xs = some vs) (ha : vs.map HV.strip1 ++ caps = ws) (hw : ∃ a, MC P f as h0 (g a) (ho a) ∧ K a) (hN : h.length = n) (hτ : tau σ n k = τ) (hnd : σ.Nodup) (hlt : ∀ j ∈ σ, j < n)
    (hin : RenH σ h σ h0) (hdead : HObj.dead ∉ h0) (hargs : RenA σ as ws)
    (l1 : ∀ a, (ho a).length = σ.length + k) (l2 : ∀ a, (H2 a).length = n + k) (hres : ∀ a, Ren τ (g a) (g2 a)) (hoff : ∀ a, SameOff σ 0 h (H2 a)) (hback : ∀ a, ROut τ (H2 a) τ (ho a))
    (kk : ∀ a, K a → HO S b r ((d, g2 a) :: e) (H2 a) Q) : HO S b (⟨some d, .callv x xs, none⟩ :: r) e h Q := by
  subst ha
  refine ⟨?_⟩
  simp only [hops, hcall, hf, hx]
  exact hS _ _ _ (mc_frame σ τ n k hw hN hτ hnd hlt hin hdead hargs l1 l2 hres hoff hback fun a ha => (kk a ha).out)
theorem k_hcallv0 {f : FuncId} (hS : SubH P S f) {caps : List HV} (hf : x.ev e = some (.func f caps)) {xs : List X} {vs ws as : List HV} {A : Type} {h0 : Heap} {g g2 : A → HV} {ho H2 : A → Heap} {K : A → Prop} (σ τ : List Nat) (n k : Nat) (hx : evs e xs = some vs) (ha : vs.map HV.strip1 ++ caps = ws) (hw : ∃ a, MC P f as h0 (g a) (ho a) ∧ K a) (hN : h.length = n) (hτ : tau σ n k = τ) (hnd : σ.Nodup) (hlt : ∀ j ∈ σ, j < n)
    (hin : RenH σ h σ h0) (hdead : HObj.dead ∉ h0) (hargs : RenA σ as ws)
    (l1 : ∀ a, (ho a).length = σ.length + k) (l2 : ∀ a, (H2 a).length = n + k) (hres : ∀ a, Ren τ (g a) (g2 a)) (hoff : ∀ a, SameOff σ 0 h (H2 a)) (hback : ∀ a, ROut τ (H2 a) τ (ho a))
    (kk : ∀ a, K a → HO S b r e (H2 a) Q) : HO S b (⟨none, .callv x xs, none⟩ :: r) e h Q := by
  subst ha
  refine ⟨?_⟩
  simp only [hops, hcall, hf, hx]
  exact hS _ _ _ (mc_frame σ τ n k hw hN hτ hnd hlt hin hdead hargs l1 l2 hres hoff hback fun a ha => (kk a ha).out)
/-! ### regions with places, and by a few orders -/
theorem g_alloc_r {zs : List HV} {j id : Nat} (hid : b + j = id) (hr : h[id]? = some .res) (hh : h.set id (.cells zs) = h') (k : HO S b r ((d, .ptr id 0) :: e) h' Q) : HO S b (⟨some d, .op (.alloc (some j) zs), none⟩ :: r) e h Q := by
  subst hid; subst hh
  refine ⟨?_⟩
  simp only [hops, hcall, hstep, hnew]
  exact ⟨hr, k.out⟩
theorem g_box_r {v : HV} {w j id : Nat} (hx : x.ev e = some v) (h1 : v.cells.length = w) (h2 : isTuple v = false) (hid : b + j = id) (hr : h[id]? = some .res) (hh : h.set id (.cells v.cells) = h') (k : HO S b r ((d, .ptr id 0) :: e) h' Q) : HO S b (⟨some d, .op (.box (some j) w x), none⟩ :: r) e h Q := by
  subst hid; subst hh
  refine ⟨?_⟩
  simp only [hops, hcall, hstep, hnew, hx]
  exact ⟨⟨h1, h2⟩, hr, k.out⟩
theorem g_mkmap_r {A B : Type} {fk : A → HV} {fv : B → HV} {j id : Nat} (hid : b + j = id) (hr : h[id]? = some .res) (hh : h.set id ((GM.nil : GM A B).obj fk fv) = h') (k : HO S b r ((d, .map id) :: e) h' Q) : HO S b (⟨some d, .op (.mkmap (some j)), none⟩ :: r) e h Q := by
  subst hid; subst hh
  refine ⟨?_⟩
  simp only [hops, hcall, hstep, hnew]
  exact ⟨hr, k.out⟩
def AllA (P : Program) (acts : List FuncId) (b : Nat) (e : Env) (h : Heap) (Q : Env → Heap → Prop) : List (List Op) → Prop
  | [] => True
  | l :: r => HO (MCalls P acts) b l e h Q ∧ AllA P acts b e h Q r
theorem s_dord (hmix : P.follows .mixedOrders = true) {acts : List FuncId} {alts : List (List Op)} {n b : Nat} {keep : List Nat} (hb : h.length = b) (hh : h ++ List.replicate n .res = h') (k : AllA P acts b e h' (Fin QQ keep) alts) : SC P N m (.dord acts alts n keep) QQ e h := by
  subst hh; subst hb
  refine sc_dord hmix ?_
  intro l hl
  induction alts with
  | nil => simp at hl
  | cons x r ih =>
    rcases List.mem_cons.1 hl with rfl | hl
    · exact k.1.out
    · exact ih k.2 hl
/-! ### strings behind bytes -/
theorem g_appfs {l : List UInt8} {ys : List UInt8} {by_ : Nat} {K : List UInt8 → Prop} (hx : x.ev e = some (.list (bytesOf l) .full)) (hy : y.ev e = some (.str ys)) {n : Nat} (hn : h.length = n) (hw : (l.length + ys.length) * by_ ≤ 140737488355328 ∧ ∀ t, t = l ++ ys → K t) (k : ∀ t, K t → HO S b r ((d, .list (bytesOf t) (.own n 1 1)) :: e) (h ++ [.tok (1 + t.length)]) Q) : HO S b (⟨some d, .op (.append 1 by_ x y), none⟩ :: r) e h Q := by
  subst hn
  refine ⟨?_⟩
  have := (k _ (hw.2 _ rfl)).out
  simp only [hops, hcall, hstep, hx, hy, happend, bytesOf_append, bytesOf_length, List.length_append] at this ⊢
  exact ⟨trivial, ⟨hw.1, bytesOf_cells ys⟩, bytesOf_cells l, this⟩
theorem g_appos {l : List UInt8} {ys : List UInt8} {by_ id : Nat} {K : List UInt8 → Prop} (hx : x.ev e = some (.list (bytesOf l) (.own id 1 1))) (hy : y.ev e = some (.str ys)) (h4 : Heap.tokAt h id = some (1 + l.length)) (hw : (l.length + ys.length) * by_ ≤ 140737488355328 ∧ ∀ t, t = l ++ ys → K t) (h' : List UInt8 → Heap) (hh : ∀ t : List UInt8, h.set id (.tok (1 + t.length)) = h' t) (k : ∀ t, K t → HO S b r ((d, .list (bytesOf t) (.own id 1 1)) :: e) (h' t) Q) : HO S b (⟨some d, .op (.append 1 by_ x y), none⟩ :: r) e h Q := by
  refine ⟨?_⟩
  have := (k _ (hw.2 _ rfl)).out
  rw [← hh] at this
  simp only [hops, hcall, hstep, hx, hy, happend, bytesOf_append, bytesOf_length, List.length_append] at this ⊢
  exact ⟨trivial, ⟨hw.1, bytesOf_cells ys⟩, trivial, h4, this⟩
end Go.Hw
