import Derived.Test.YtcenjonbenlfkaaDoorHwF2
set_option linter.unusedVariables false
set_option linter.unusedSimpArgs false
namespace Go.Hw
open Go

abbrev Lay := List (Nat × HObj)
structure Sep (h : Heap) (L : Lay) : Prop where
  nd : (L.map Prod.fst).Nodup
  all : ∀ q ∈ L, h[q.1]? = some q.2
theorem Sep.get {h : Heap} {L : Lay} {i : Nat} {o : HObj} (s : Sep h L) (hm : (i, o) ∈ L) : h[i]? = some o := s.all _ hm
theorem Sep.lt {h : Heap} {L : Lay} {i : Nat} {o : HObj} (s : Sep h L) (hm : (i, o) ∈ L) : i < h.length := lt_of_get (s.get hm)
theorem Sep.set {h : Heap} {A B : Lay} {i : Nat} {o : HObj} (s : Sep h (A ++ (i, o) :: B)) (o' : HObj) : Sep (h.set i o') (A ++ (i, o') :: B) := by
  have hi := s.lt (i := i) (o := o) (by simp)
  have hnd := s.nd
  simp only [List.map_append, List.map_cons] at hnd
  refine ⟨by simpa using hnd, fun q hq => ?_⟩
  rw [List.nodup_append] at hnd
  obtain ⟨h1, h2, h3⟩ := hnd
  rw [List.nodup_cons] at h2
  rcases List.mem_append.1 hq with hq | hq
  · have hne : i ≠ q.1 := fun e => h3 q.1 (List.mem_map.2 ⟨q, hq, rfl⟩) i (by simp) e.symm
    rw [List.getElem?_set_ne hne]
    exact s.all q (List.mem_append.2 (.inl hq))
  · rcases List.mem_cons.1 hq with rfl | hq
    · rw [List.getElem?_set_self hi]
    · have hne : i ≠ q.1 := fun e => h2.1 (e ▸ List.mem_map.2 ⟨q, hq, rfl⟩)
      rw [List.getElem?_set_ne hne]
      exact s.all q (List.mem_append.2 (.inr (List.mem_cons_of_mem _ hq)))
theorem Sep.sub {h : Heap} {L M : Lay} (s : Sep h L) (p : M.Sublist L) : Sep h M := ⟨(p.map _).nodup s.nd, fun q hq => s.all q (p.subset hq)⟩
theorem Sep.nil {h : Heap} : Sep h [] := ⟨by simp, by simp⟩
structure RW (A : Type) where
  l : List A
  tok : Tok
variable {A : Type}
def RW.ok (sz : Nat) (r : RW A) : Prop := match r.tok with
  | .full => True
  | .own _ _ z => z = sz
  | .none => False
def RW.nil : RW A := ⟨[], .full⟩
structure EncW (f : A → HV) (sz : Nat) : Prop where
  wid : ∀ a, (f a).cells.length = sz
  tup : ∀ a, isTuple (f a) = false
  str : ∀ a, (f a).strip1 = f a
section
variable {P : Program} {N m : Nat} {e : Env} {h : Heap} {QQ : Ex → Env → Heap → Prop}
theorem x_ret {rs : List RS} {R : HV → Heap → Prop} {q : Ex} (vs : List HV) (hv : resVals2 e h rs = some vs) (k : R (retV vs) h) (hq : q = .normal ∨ q = .ret := by first | exact .inr rfl | exact .inl rfl) : RetS2 rs m R q e h := ⟨hq, vs, hv, vs, h, rfl, WeakF.refl _ _, k⟩
end
section
variable {P : Program} {N m : Nat} {S D : CallP} {b : Nat} {r : List Op} {e e' : Env} {h h' : Heap} {Q : Env → Heap → Prop} {QQ : Ex → Env → Heap → Prop} {d : Nat} {x y z : X}
theorem a_op {o : O} {v : HV} (hs : ∀ k : HV → Heap → Prop, hstep b o e h k = k v h) (k : HO S b r ((d, v) :: e) h Q) : HO S b (⟨some d, .op o, none⟩ :: r) e h Q := by
  refine ⟨?_⟩
  simp only [hops, hcall, hs]
  exact k.out
theorem a_load {n : Option Nat} {id off : Nat} {cs : List HV} {v : HV} (hx : x.ev e = some (.ptr id off)) (hc : h[id]? = some (.cells cs)) (h1 : atCells n (cs.drop off) = some v) (k : HO S b r ((d, v) :: e) h Q) : HO S b (⟨some d, .op (.load n x), none⟩ :: r) e h Q := g_load_p hx hc h1 k
theorem a_load_at {B : Type} {f : B → HV} {l : List B} {a : B} {id i : Nat} (hx : x.ev e = some (.ptr id i)) (hc : h[id]? = some (.cells (l.map f))) (hl : l[i]? = some a) (k : HO S b r ((d, f a) :: e) h Q) : HO S b (⟨some d, .op (.load none x), none⟩ :: r) e h Q := by
  refine g_load_p hx hc ?_ k
  simp only [atCells, List.head?_drop, List.getElem?_map, hl, Option.map_some]
theorem a_iaddr_at {id n i : Nat} {ik : IntKind} (hx : x.ev e = some (.arr id 0 n 1)) (hy : y.ev e = some (.int ik (i : Int))) (hi : i < n) (k : HO S b r ((d, .ptr id i) :: e) h Q) : HO S b (⟨some d, .op (.iaddr 1 x y), none⟩ :: r) e h Q := by
  refine ⟨?_⟩
  simp only [hops, hcall, hstep, hx, hy, Int.toNat_natCast, Nat.zero_add, Nat.mul_one]
  exact ⟨⟨by omega, by omega, trivial⟩, k.out⟩
theorem a_cmp {op : BinOp} {i : IntKind} {m n : Int} {t : Bool} (hx : x.ev e = some (.int i m)) (hy : y.ev e = some (.int i n)) (h2 : ibin op i m n = some (.bool t)) (k : HO S b r ((d, .bool t) :: e) h Q) : HO S b (⟨some d, .op (.bin op x y), none⟩ :: r) e h Q := by
  refine st_bin hx hy (.inl rfl) ?_ h2 k
  cases op <;> first | trivial | (simp [ibin] at h2)
theorem a_eqi {neg : Bool} {i : IntKind} {m n : Int} (hx : x.ev e = some (.int i m)) (hy : y.ev e = some (.int i n)) (k : HO S b r ((d, .bool (if neg then !(m == n) else m == n)) :: e) h Q) : HO S b (⟨some d, .op (.eqv neg .int x y), none⟩ :: r) e h Q :=
  gb_eqi hx hy (K := fun t => t = (if neg then !(m == n) else m == n)) (fun _ h => h) (fun t ht => by subst ht; exact k)
theorem a_call {f : FuncId} {xs : List X} {vs : List HV} (hx : evs e xs = some vs) (k : HCalls P f (vs.map HV.strip1) h fun v h' => HO (HCalls P) b r ((d, v) :: e) h' Q) : HO (HCalls P) b (⟨some d, .call f xs, none⟩ :: r) e h Q := by
  refine ⟨?_⟩
  simp only [hops, hcall, hx]
  exact k.mono fun v h' hk => hk.out
theorem a_dcall {f : FuncId} {xs : List X} {vs as : List HV} {v : HV} (hx : evs e xs = some vs) (hp : PCall P f as v) (ha : vs.map HV.strip1 = as) (k : HO (DCalls P) b r ((d, v) :: e) h Q) : HO (DCalls P) b (⟨some d, .call f xs, none⟩ :: r) e h Q := st_dcall hx ha hp k
theorem a_mklist {sz : Nat} {xs : List X} {vs : List HV} (hx : evs e xs = some vs) (hv : ∀ v ∈ vs, v.cells.length = sz ∧ isTuple v = false) (k : HO S b r ((d, .list (vs.map HV.strip1) .full) :: e) h Q) : HO S b (⟨some d, .op (.mklist sz xs), none⟩ :: r) e h Q := st_mklist hx hv rfl k
theorem a_endq {keep : List Nat} {q : C} {e' : Env} (hp : prune e keep = e') (k : SC P N m q QQ e' h) : HO S b [] e h (Fin (SeqS P N m q QQ) keep) := g_end e' hp k
theorem a_end {keep : List Nat} {e' : Env} (hp : prune e keep = e') (k : QQ .normal e' h) : HO S b [] e h (Fin QQ keep) := g_end e' hp k
theorem a_mid {tail : List Op} {S' : CallP} (k : HO S 0 tail e h Q) : HO S' b [] e h (Mid S tail Q) := ⟨k.out⟩
theorem a_dreg0 (hmix : P.follows .mixedOrders = true) {pre tail : List Op} {keep : List Nat} {q : C} (k : HO (DCalls P) h.length pre e h (Mid (HCalls P) tail (Fin (SeqS P N m q QQ) keep))) : SC P N m (.seq (.dreg pre tail 0 keep) q) QQ e h := sc_seq (s_dreg hmix (by simp) k)
theorem a_gtf {t : Nat} {o : OC} (hg : e.get t = some (.bool true)) (k : HO S b r ((d, .tuple []) :: e) h Q) : HO S b (⟨some d, o, some (t, false)⟩ :: r) e h Q := st_gtf hg (st_skip k)
theorem a_gft {t : Nat} {o : OC} (hg : e.get t = some (.bool false)) (k : HO S b r ((d, .tuple []) :: e) h Q) : HO S b (⟨some d, o, some (t, true)⟩ :: r) e h Q := st_gft hg (st_skip k)
theorem a_gu {t : Nat} {o : OC} {c : Bool} (hg : e.get t = some (.tuple [])) (k : HO S b r ((d, .tuple []) :: e) h Q) : HO S b (⟨some d, o, some (t, c)⟩ :: r) e h Q := st_gu hg (st_skip k)
theorem a_box {v : HV} {w : Nat} (hx : x.ev e = some v) (h1 : v.cells.length = w) (h2 : isTuple v = false) (k : HO S b r ((d, .ptr h.length 0) :: e) (h ++ [.cells v.cells]) Q) : HO S b (⟨some d, .op (.box none w x), none⟩ :: r) e h Q := g_box hx h1 h2 rfl rfl k
theorem a_alloc {zs : List HV} (k : HO S b r ((d, .ptr h.length 0) :: e) (h ++ [.cells zs]) Q) : HO S b (⟨some d, .op (.alloc none zs), none⟩ :: r) e h Q := g_alloc rfl rfl k
theorem a_iaddr_l {B : Type} {f : B → HV} {l : List B} {tok : Tok} {a : B} {sz i : Nat} {ik : IntKind} (hx : x.ev e = some (.list (l.map f) tok)) (hy : y.ev e = some (.int ik (i : Int))) (hl : l[i]? = some a) (hw : (f a).cells.length = sz) (k : HO S b r ((d, .rptr (f a).cells) :: e) h Q) : HO S b (⟨some d, .op (.iaddr sz x y), none⟩ :: r) e h Q := by
  have hi := lt_of_get hl
  refine ⟨?_⟩
  simp only [hops, hcall, hstep, hx, hy, Int.toNat_natCast, List.length_map, List.getElem?_map, hl, Option.map_some]
  exact ⟨⟨by omega, by omega⟩, hw, k.out⟩
end
end Go.Hw

