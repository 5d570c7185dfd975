/- Steps through the small code, one operation at a time. -/
import Derived.Test.YthikpbaphpdpfaaHwLib
set_option linter.unusedVariables false
set_option linter.unusedSimpArgs false
namespace Go.Hw
open Go

variable {S D : CallP} {L : C → (Ex → Env → Heap → Prop) → Env → Heap → Prop} {b : Nat} {r : List Op} {e : Env} {h : Heap} {Q : Env → Heap → Prop} {QQ : Ex → Env → Heap → Prop} {d : Nat} {x y z : X}

/-- The same, kept shut. -/
structure HO (S : CallP) (b : Nat) (ops : List Op) (e : Env) (h : Heap) (Q : Env → Heap → Prop) : Prop where
  of ::
  out : hops S b ops e h Q
structure HC (S D : CallP) (L : C → (Ex → Env → Heap → Prop) → Env → Heap → Prop) (c : C) (Q : Ex → Env → Heap → Prop) (e : Env) (h : Heap) : Prop where
  of ::
  out : hwp S D L c Q e h

/-! ### what comes behind -/

def Fin (Q : Ex → Env → Heap → Prop) (keep : List Nat) : Env → Heap → Prop := fun e h => Q .normal (prune e keep) h
def Mid (S : CallP) (tail : List Op) (Q : Env → Heap → Prop) : Env → Heap → Prop := fun e h => hops S 0 tail e h Q
def SeqK (S D : CallP) (L : C → (Ex → Env → Heap → Prop) → Env → Heap → Prop) (c : C) (Q : Ex → Env → Heap → Prop) : Ex → Env → Heap → Prop := fun x e h => match x with
  | .normal => hwp S D L c Q e h
  | x => Q x e h
def BlkK (id : Nat) (Q : Ex → Env → Heap → Prop) : Ex → Env → Heap → Prop := fun x e h => match x with
  | .exit i => if i = id then Q .normal e h else Q (.exit i) e h
  | x => Q x e h
/-- Behind the body of a loop. -/
def LoopK {X : Type} (st : X → Env × Heap) (μ : X → Nat) (x : X) (Q : Ex → Env → Heap → Prop) : Ex → Env → Heap → Prop := fun q e h => match q with
  | .normal => ∃ x', μ x' < μ x ∧ Weak e h (st x').1 (st x').2
  | q => Q q e h
/-- Behind the whole body: the results. -/
def RetK (ts : List Nat) (R : HV → Heap → Prop) : Ex → Env → Heap → Prop := fun q e h => (q = .normal ∨ q = .ret) ∧ ∃ vs, resVals e ts = some vs ∧ R (retV vs) h

abbrev HCp (P : Program) (N : Nat) := HC (HCalls P) (DCalls P) (HLoop P N)

/-! ### code -/
theorem w_skip (k : QQ .normal e h) : HC S D L .skip QQ e h := ⟨k⟩
theorem w_seq {p q : C} (k : HC S D L p (SeqK S D L q QQ) e h) : HC S D L (.seq p q) QQ e h := ⟨k.out⟩
theorem w_block {id : Nat} {p : C} (k : HC S D L p (BlkK id QQ) e h) : HC S D L (.block id p) QQ e h := ⟨k.out⟩
theorem w_reg {ops : List Op} {keep : List Nat} (k : HO S 0 ops e h (Fin QQ keep)) : HC S D L (.reg ops keep) QQ e h := ⟨k.out⟩
theorem w_dreg {pre tail : List Op} {keep : List Nat} (k : HO D h.length pre e h (Mid S tail (Fin QQ keep))) : HC S D L (.dreg pre tail 0 keep) QQ e h := by
  refine ⟨?_⟩
  simp only [hwp, List.replicate_zero, List.append_nil]
  exact k.out
theorem w_dregn {pre tail : List Op} {n : Nat} {keep : List Nat} {h' : Heap} (hh : h ++ List.replicate n .res = h') (k : HO D h.length pre e h' (Mid S tail (Fin QQ keep))) : HC S D L (.dreg pre tail n keep) QQ e h := by
  refine ⟨?_⟩
  subst hh
  exact k.out
theorem w_cond_t {p q : C} (hx : x.ev e = some (.bool true)) (k : HC S D L p QQ e h) : HC S D L (.cond x p q) QQ e h := by
  refine ⟨?_⟩
  simp only [hwp, hx]
  exact ⟨fun _ => k.out, nofun⟩
theorem w_cond_f {p q : C} (hx : x.ev e = some (.bool false)) (k : HC S D L q QQ e h) : HC S D L (.cond x p q) QQ e h := by
  refine ⟨?_⟩
  simp only [hwp, hx]
  exact ⟨nofun, fun _ => k.out⟩
theorem w_cond {p q : C} {t : Bool} (hx : x.ev e = some (.bool t)) (k1 : t = true → HC S D L p QQ e h) (k2 : t = false → HC S D L q QQ e h) : HC S D L (.cond x p q) QQ e h := by
  refine ⟨?_⟩
  simp only [hwp, hx]
  exact ⟨fun h => (k1 h).out, fun h => (k2 h).out⟩
theorem w_exit {id : Nat} (k : QQ (.exit id) e h) : HC S D L (.exit id) QQ e h := ⟨k⟩
theorem w_ret (k : QQ .ret e h) : HC S D L .ret QQ e h := ⟨k⟩
theorem k_seq_n {c : C} (k : HC S D L c QQ e h) : SeqK S D L c QQ .normal e h := k.out
theorem k_seq_x {c : C} {i : Nat} (k : QQ (.exit i) e h) : SeqK S D L c QQ (.exit i) e h := k
theorem k_seq_r {c : C} (k : QQ .ret e h) : SeqK S D L c QQ .ret e h := k
theorem k_blk_n {id : Nat} (k : QQ .normal e h) : BlkK id QQ .normal e h := k
theorem k_blk_r {id : Nat} (k : QQ .ret e h) : BlkK id QQ .ret e h := k
theorem k_blk_x {id : Nat} (k : QQ .normal e h) : BlkK id QQ (.exit id) e h := by
  simp only [BlkK, if_true]
  exact k
theorem k_blk_p {id i : Nat} (hi : i ≠ id) (k : QQ (.exit i) e h) : BlkK id QQ (.exit i) e h := by
  simp only [BlkK, if_neg hi]
  exact k
theorem k_loop_x {X : Type} {st : X → Env × Heap} {μ : X → Nat} {x : X} {i : Nat} (k : QQ (.exit i) e h) : LoopK st μ x QQ (.exit i) e h := k
theorem k_loop_r {X : Type} {st : X → Env × Heap} {μ : X → Nat} {x : X} (k : QQ .ret e h) : LoopK st μ x QQ .ret e h := k
theorem k_loop_n {X : Type} {st : X → Env × Heap} {μ : X → Nat} {x : X} (x' : X) (hm : μ x' < μ x) (hw : Weak e h (st x').1 (st x').2) : LoopK st μ x QQ .normal e h := ⟨x', hm, hw⟩
theorem k_ret {ts : List Nat} {R : HV → Heap → Prop} {q : Ex} (hq : q = .normal ∨ q = .ret) {vs : List HV} (hv : resVals e ts = some vs) (k : R (retV vs) h) : RetK ts R q e h := ⟨hq, vs, hv, k⟩
theorem rv_nil : resVals e [] = some [] := rfl
theorem rv_cons {t : Nat} {ts : List Nat} {v : HV} {vs : List HV} (h1 : e.get t = some v) (h2 : resVals e ts = some vs) : resVals e (t :: ts) = some (v :: vs) := by simp only [resVals, h1, h2]
theorem w_loop {P : Program} (hmix : P.follows .mixedOrders = true) {N : Nat} {c : C} {X : Type} (st : X → Env × Heap) (μ : X → Nat) (x0 : X) (h0 : Weak e h (st x0).1 (st x0).2)
    (round : ∀ x, HCp P N c (LoopK st μ x QQ) (st x).1 (st x).2) : HCp P N (.loop c) QQ e h := ⟨HLoop.intro hmix st μ x0 h0 fun x => (round x).out⟩

/-! ### slots -/
theorem e_here {v : HV} : X.ev ((d, v) :: e) (.t d) = some v := by simp [X.ev, Env.get]
theorem pr_nil : prune e [] = [] := rfl
theorem pr_cons {t : Nat} {ts : List Nat} {v : HV} {e' : Env} (h1 : e.get t = some v) (h2 : prune e ts = e') : prune e (t :: ts) = (t, v) :: e' := by simp only [prune, h1, h2]
theorem ev_nil : evs e [] = some [] := rfl
theorem ev_cons {xs : List X} {v : HV} {vs : List HV} (h1 : x.ev e = some v) (h2 : evs e xs = some vs) : evs e (x :: xs) = some (v :: vs) := by simp only [evs, h1, h2]
theorem ep_nil : evParts e [] = some [] := rfl
theorem ep_cons {a n : Nat} {xs : List (Nat × Nat × X)} {v : HV} {vs : List (Nat × Nat × HV)} (h1 : x.ev e = some v) (h2 : evParts e xs = some vs) : evParts e ((a, n, x) :: xs) = some ((a, n, v) :: vs) := by simp only [evParts, h1, h2]
theorem sub_nil : Env.sub [] e := trivial
theorem sub_cons {t : Nat} {v u : HV} {s : Env} (h1 : e.get t = some u) (h2 : u = v ∨ u.strip1 = v) (h3 : Env.sub s e) : Env.sub ((t, v) :: s) e := by
  simp only [Env.sub, h1]
  exact ⟨h2, h3⟩

/-! ### regions -/
theorem st_end {keep : List Nat} {e' : Env} (hp : prune e keep = e') (k : QQ .normal e' h) : HO S b [] e h (Fin QQ keep) := by
  refine ⟨?_⟩
  subst hp
  exact k
theorem st_mid {tail : List Op} {S' : CallP} (k : HO S 0 tail e h Q) : HO S' b [] e h (Mid S tail Q) := ⟨k.out⟩
theorem st_g {t : Nat} {c : Bool} {o : OC} {dst : Option Nat} (hg : e.get t = some (.bool c)) (k : HO S b (⟨dst, o, none⟩ :: r) e h Q) : HO S b (⟨dst, o, some (t, c)⟩ :: r) e h Q := by
  refine ⟨?_⟩
  simp only [hops, hg]
  exact ⟨fun _ => k.out, fun h => absurd rfl h⟩
theorem st_gtf {t : Nat} {o : OC} {dst : Option Nat} (hg : e.get t = some (.bool true)) (k : HO S b r (e.put dst (.tuple [])) h Q) : HO S b (⟨dst, o, some (t, false)⟩ :: r) e h Q := by
  refine ⟨?_⟩
  simp only [hops, hg]
  exact ⟨nofun, fun _ => k.out⟩
theorem st_gft {t : Nat} {o : OC} {dst : Option Nat} (hg : e.get t = some (.bool false)) (k : HO S b r (e.put dst (.tuple [])) h Q) : HO S b (⟨dst, o, some (t, true)⟩ :: r) e h Q := by
  refine ⟨?_⟩
  simp only [hops, hg]
  exact ⟨nofun, fun _ => k.out⟩
theorem st_gu {t : Nat} {o : OC} {dst : Option Nat} {c : Bool} (hg : e.get t = some (.tuple [])) (k : HO S b r (e.put dst (.tuple [])) h Q) : HO S b (⟨dst, o, some (t, c)⟩ :: r) e h Q := by
  refine ⟨?_⟩
  simp only [hops, hg]
  exact k.out
theorem st_skip (k : HO S b r ((d, .tuple []) :: e) h Q) : HO S b r (e.put (some d) (.tuple [])) h Q := ⟨k.out⟩
theorem st_skip' (k : HO S b r e h Q) : HO S b r (e.put none (.tuple [])) h Q := ⟨k.out⟩
/-! ### operations -/
theorem st_mv {v : HV} (hx : x.ev e = some v) (k : HO S b r ((d, v) :: e) h Q) : HO S b (⟨some d, .op (.mv x), none⟩ :: r) e h Q := by
  refine ⟨?_⟩
  simp only [hops, hcall, hstep, hx]
  exact k.out
theorem st_pick_t {v w : HV} (hz : z.ev e = some (.bool true)) (hx : x.ev e = some v) (hy : y.ev e = some w) (k : HO S b r ((d, v) :: e) h Q) : HO S b (⟨some d, .op (.pick z x y), none⟩ :: r) e h Q := by
  refine ⟨?_⟩
  simp only [hops, hcall, hstep, hx, hy, hz]
  exact ⟨fun _ => k.out, nofun⟩
theorem st_pick_f {v w : HV} (hz : z.ev e = some (.bool false)) (hx : x.ev e = some v) (hy : y.ev e = some w) (k : HO S b r ((d, w) :: e) h Q) : HO S b (⟨some d, .op (.pick z x y), none⟩ :: r) e h Q := by
  refine ⟨?_⟩
  simp only [hops, hcall, hstep, hx, hy, hz]
  exact ⟨nofun, fun _ => k.out⟩
/-- Sums, where nothing wraps. -/
theorem st_add {m n : Int} (hx : x.ev e = some (.int .i64 m)) (hy : y.ev e = some (.int .i64 n)) (h1 : -9223372036854775808 ≤ m + n ∧ m + n ≤ 9223372036854775807) (k : HO S b r ((d, .int .i64 (m + n)) :: e) h Q) : HO S b (⟨some d, .op (.bin .add x y), none⟩ :: r) e h Q := by
  refine ⟨?_⟩
  simp only [hops, hcall, hstep, hx, hy, ibin, ibinOk, wrap64_of h1.1 h1.2]
  exact ⟨.inl trivial, trivial, k.out⟩
theorem st_sub {m n : Int} (hx : x.ev e = some (.int .i64 m)) (hy : y.ev e = some (.int .i64 n)) (h1 : -9223372036854775808 ≤ m - n ∧ m - n ≤ 9223372036854775807) (k : HO S b r ((d, .int .i64 (m - n)) :: e) h Q) : HO S b (⟨some d, .op (.bin .sub x y), none⟩ :: r) e h Q := by
  refine ⟨?_⟩
  simp only [hops, hcall, hstep, hx, hy, ibin, ibinOk, wrap64_of h1.1 h1.2]
  exact ⟨.inl trivial, trivial, k.out⟩
theorem st_mul {m n : Int} (hx : x.ev e = some (.int .i64 m)) (hy : y.ev e = some (.int .i64 n)) (h1 : -9223372036854775808 ≤ m * n ∧ m * n ≤ 9223372036854775807) (k : HO S b r ((d, .int .i64 (m * n)) :: e) h Q) : HO S b (⟨some d, .op (.bin .mul x y), none⟩ :: r) e h Q := by
  refine ⟨?_⟩
  simp only [hops, hcall, hstep, hx, hy, ibin, ibinOk, wrap64_of h1.1 h1.2]
  exact ⟨.inl trivial, trivial, k.out⟩
theorem st_rem {i : IntKind} {m n : Int} (hx : x.ev e = some (.int i m)) (hy : y.ev e = some (.int i n)) (h1 : n ≠ 0) (k : HO S b r ((d, .int i (m.tmod n)) :: e) h Q) : HO S b (⟨some d, .op (.bin .rem x y), none⟩ :: r) e h Q := by
  refine ⟨?_⟩
  simp only [hops, hcall, hstep, hx, hy, ibin, ibinOk]
  exact ⟨.inl trivial, h1, k.out⟩
theorem st_quo {m n : Int} (hx : x.ev e = some (.int .i64 m)) (hy : y.ev e = some (.int .i64 n)) (h1 : n ≠ 0) (h2 : -9223372036854775808 ≤ m.tdiv n ∧ m.tdiv n ≤ 9223372036854775807) (k : HO S b r ((d, .int .i64 (m.tdiv n)) :: e) h Q) : HO S b (⟨some d, .op (.bin .quo x y), none⟩ :: r) e h Q := by
  refine ⟨?_⟩
  simp only [hops, hcall, hstep, hx, hy, ibin, ibinOk, wrap64_of h2.1 h2.2]
  exact ⟨.inl trivial, h1, k.out⟩
/-- Any binary operation on whole numbers. -/
theorem st_bin {op : BinOp} {i j : IntKind} {m n : Int} {v : HV} (hx : x.ev e = some (.int i m)) (hy : y.ev e = some (.int j n)) (h0 : i = j ∨ op = .shl ∨ op = .shr) (h1 : ibinOk op n) (h2 : ibin op i m n = some v) (k : HO S b r ((d, v) :: e) h Q) : HO S b (⟨some d, .op (.bin op x y), none⟩ :: r) e h Q := by
  refine ⟨?_⟩
  simp only [hops, hcall, hstep, hx, hy, h2]
  exact ⟨h0, h1, k.out⟩
theorem st_sbin {op : BinOp} {m n : List UInt8} {v : HV} (hx : x.ev e = some (.str m)) (hy : y.ev e = some (.str n)) (h1 : sbinOk op m n) (h2 : sbin op m n = some v) (k : HO S b r ((d, v) :: e) h Q) : HO S b (⟨some d, .op (.bin op x y), none⟩ :: r) e h Q := by
  refine ⟨?_⟩
  simp only [hops, hcall, hstep, hx, hy, h2]
  exact ⟨h1, k.out⟩
theorem st_lss {i : IntKind} {m n : Int} (hx : x.ev e = some (.int i m)) (hy : y.ev e = some (.int i n)) (k1 : m < n → HO S b r ((d, .bool true) :: e) h Q) (k2 : n ≤ m → HO S b r ((d, .bool false) :: e) h Q) : HO S b (⟨some d, .op (.bin .lss x y), none⟩ :: r) e h Q := by
  refine ⟨?_⟩
  simp only [hops, hcall, hstep, hx, hy, ibin, ibinOk]
  refine ⟨.inl trivial, trivial, ?_⟩
  by_cases hc : m < n
  · rw [decide_eq_true hc]; exact (k1 hc).out
  · rw [decide_eq_false hc]; exact (k2 (by omega)).out
theorem st_leq {i : IntKind} {m n : Int} (hx : x.ev e = some (.int i m)) (hy : y.ev e = some (.int i n)) (k1 : m ≤ n → HO S b r ((d, .bool true) :: e) h Q) (k2 : n < m → HO S b r ((d, .bool false) :: e) h Q) : HO S b (⟨some d, .op (.bin .leq x y), none⟩ :: r) e h Q := by
  refine ⟨?_⟩
  simp only [hops, hcall, hstep, hx, hy, ibin, ibinOk]
  refine ⟨.inl trivial, trivial, ?_⟩
  by_cases hc : m ≤ n
  · rw [decide_eq_true hc]; exact (k1 hc).out
  · rw [decide_eq_false hc]; exact (k2 (by omega)).out
theorem st_gtr {i : IntKind} {m n : Int} (hx : x.ev e = some (.int i m)) (hy : y.ev e = some (.int i n)) (k1 : n < m → HO S b r ((d, .bool true) :: e) h Q) (k2 : m ≤ n → HO S b r ((d, .bool false) :: e) h Q) : HO S b (⟨some d, .op (.bin .gtr x y), none⟩ :: r) e h Q := by
  refine ⟨?_⟩
  simp only [hops, hcall, hstep, hx, hy, ibin, ibinOk]
  refine ⟨.inl trivial, trivial, ?_⟩
  by_cases hc : m > n
  · rw [decide_eq_true hc]; exact (k1 hc).out
  · rw [decide_eq_false hc]; exact (k2 (by omega)).out
theorem st_geq {i : IntKind} {m n : Int} (hx : x.ev e = some (.int i m)) (hy : y.ev e = some (.int i n)) (k1 : n ≤ m → HO S b r ((d, .bool true) :: e) h Q) (k2 : m < n → HO S b r ((d, .bool false) :: e) h Q) : HO S b (⟨some d, .op (.bin .geq x y), none⟩ :: r) e h Q := by
  refine ⟨?_⟩
  simp only [hops, hcall, hstep, hx, hy, ibin, ibinOk]
  refine ⟨.inl trivial, trivial, ?_⟩
  by_cases hc : m ≥ n
  · rw [decide_eq_true hc]; exact (k1 hc).out
  · rw [decide_eq_false hc]; exact (k2 (by omega)).out
theorem st_eqi {i : IntKind} {m n : Int} (hx : x.ev e = some (.int i m)) (hy : y.ev e = some (.int i n)) (k1 : m = n → HO S b r ((d, .bool true) :: e) h Q) (k2 : m ≠ n → HO S b r ((d, .bool false) :: e) h Q) : HO S b (⟨some d, .op (.eqv false .int x y), none⟩ :: r) e h Q := by
  refine ⟨?_⟩
  simp only [hops, hcall, hstep, hx, hy]
  refine ⟨rfl, fun t ht => ?_⟩
  simp only [HV.eqs] at ht
  subst ht
  by_cases hc : m = n
  · rw [show (m == n) = true by simp [hc]]; exact (k1 hc).out
  · rw [show (m == n) = false by simp [hc]]; exact (k2 hc).out
theorem st_nei {i : IntKind} {m n : Int} (hx : x.ev e = some (.int i m)) (hy : y.ev e = some (.int i n)) (k1 : m ≠ n → HO S b r ((d, .bool true) :: e) h Q) (k2 : m = n → HO S b r ((d, .bool false) :: e) h Q) : HO S b (⟨some d, .op (.eqv true .int x y), none⟩ :: r) e h Q := by
  refine ⟨?_⟩
  simp only [hops, hcall, hstep, hx, hy]
  refine ⟨rfl, fun t ht => ?_⟩
  simp only [HV.eqs] at ht
  subst ht
  by_cases hc : m = n
  · rw [show (m == n) = true by simp [hc]]; exact (k2 hc).out
  · rw [show (m == n) = false by simp [hc]]; exact (k1 hc).out
theorem st_eqs {m n : List UInt8} (hx : x.ev e = some (.str m)) (hy : y.ev e = some (.str n)) (k1 : m = n → HO S b r ((d, .bool true) :: e) h Q) (k2 : m ≠ n → HO S b r ((d, .bool false) :: e) h Q) : HO S b (⟨some d, .op (.eqv false .str x y), none⟩ :: r) e h Q := by
  refine ⟨?_⟩
  simp only [hops, hcall, hstep, hx, hy]
  refine ⟨trivial, fun t ht => ?_⟩
  simp only [HV.eqs] at ht
  subst ht
  by_cases hc : m = n
  · rw [show (m == n) = true by simp [hc]]; exact (k1 hc).out
  · rw [show (m == n) = false by simp [hc]]; exact (k2 hc).out
theorem st_nes {m n : List UInt8} (hx : x.ev e = some (.str m)) (hy : y.ev e = some (.str n)) (k1 : m ≠ n → HO S b r ((d, .bool true) :: e) h Q) (k2 : m = n → HO S b r ((d, .bool false) :: e) h Q) : HO S b (⟨some d, .op (.eqv true .str x y), none⟩ :: r) e h Q := by
  refine ⟨?_⟩
  simp only [hops, hcall, hstep, hx, hy]
  refine ⟨trivial, fun t ht => ?_⟩
  simp only [HV.eqs] at ht
  subst ht
  by_cases hc : m = n
  · rw [show (m == n) = true by simp [hc]]; exact (k2 hc).out
  · rw [show (m == n) = false by simp [hc]]; exact (k1 hc).out
/-- Any comparison whose outcome is left as it is. -/
theorem st_eqv {neg : Bool} {kd : EqK} {u v : HV} (hx : x.ev e = some u) (hy : y.ev e = some v) (h1 : ∀ n, kd ≠ .agg n) (h2 : eqsOk kd u v) (k : ∀ t, HV.eqs u v t → HO S b r ((d, .bool (if neg then !t else t)) :: e) h Q) : HO S b (⟨some d, .op (.eqv neg kd x y), none⟩ :: r) e h Q := by
  refine ⟨?_⟩
  simp only [hops, hcall, hstep, hx, hy]
  cases kd with
  | agg n => exact absurd rfl (h1 n)
  | _ => exact ⟨h2, fun t ht => (k t ht).out⟩
theorem st_eqn {hs : List HV} {tok : Tok} (hx : x.ev e = some (.list hs tok)) (hy : y.ev e = some .nilslice) (k1 : hs = [] → HO S b r ((d, .bool true) :: e) h Q) (k2 : HO S b r ((d, .bool false) :: e) h Q) : HO S b (⟨some d, .op (.eqv false .slice x y), none⟩ :: r) e h Q := by
  refine ⟨?_⟩
  simp only [hops, hcall, hstep, hx, hy]
  refine ⟨trivial, fun t ht => ?_⟩
  cases t with
  | false => exact k2.out
  | true => exact (k1 (Classical.byContradiction fun hn => by simpa using ht hn)).out
theorem st_nen {hs : List HV} {tok : Tok} (hx : x.ev e = some (.list hs tok)) (hy : y.ev e = some .nilslice) (k1 : hs = [] → HO S b r ((d, .bool false) :: e) h Q) (k2 : HO S b r ((d, .bool true) :: e) h Q) : HO S b (⟨some d, .op (.eqv true .slice x y), none⟩ :: r) e h Q := by
  refine ⟨?_⟩
  simp only [hops, hcall, hstep, hx, hy]
  refine ⟨trivial, fun t ht => ?_⟩
  cases t with
  | false => exact k2.out
  | true => exact (k1 (Classical.byContradiction fun hn => by simpa using ht hn)).out
theorem st_not {t : Bool} (hx : x.ev e = some (.bool t)) (k : HO S b r ((d, .bool (!t)) :: e) h Q) : HO S b (⟨some d, .op (.un .not x), none⟩ :: r) e h Q := by
  refine ⟨?_⟩
  simp only [hops, hcall, hstep, hx]
  exact ⟨trivial, k.out⟩
theorem st_neg {m : Int} (hx : x.ev e = some (.int .i64 m)) (h1 : -9223372036854775807 ≤ m ∧ m ≤ 9223372036854775807) (k : HO S b r ((d, .int .i64 (-m)) :: e) h Q) : HO S b (⟨some d, .op (.un .neg x), none⟩ :: r) e h Q := by
  refine ⟨?_⟩
  simp only [hops, hcall, hstep, hx, iun, wrap64_of (n := -m) (by omega) (by omega)]
  exact k.out
theorem st_conv {i j : IntKind} {m : Int} (hx : x.ev e = some (.int j m)) (h1 : i.wrap m = m) (k : HO S b r ((d, .int i m) :: e) h Q) : HO S b (⟨some d, .op (.conv (.int i) x), none⟩ :: r) e h Q := by
  refine ⟨?_⟩
  simp only [hops, hcall, hstep, hx, h1]
  exact k.out
theorem st_convw {i j : IntKind} {m : Int} (hx : x.ev e = some (.int j m)) (k : HO S b r ((d, .int i (i.wrap m)) :: e) h Q) : HO S b (⟨some d, .op (.conv (.int i) x), none⟩ :: r) e h Q := by
  refine ⟨?_⟩
  simp only [hops, hcall, hstep, hx]
  exact k.out
theorem st_same {m : List UInt8} (hx : x.ev e = some (.str m)) (k : HO S b r ((d, .str m) :: e) h Q) : HO S b (⟨some d, .op (.conv .same x), none⟩ :: r) e h Q := by
  refine ⟨?_⟩
  simp only [hops, hcall, hstep, hx]
  exact k.out
theorem st_tobytes {s : List UInt8} (hx : x.ev e = some (.str s)) {n : Nat} {h' : Heap} (hn : h.length = n) (hh : h ++ [.tok (1 + s.length)] = h') (k : HO S b r ((d, .list (bytesOf s) (.own n 1 1)) :: e) h' Q) : HO S b (⟨some d, .op (.conv .toBytes x), none⟩ :: r) e h Q := by
  refine ⟨?_⟩
  subst hn
  subst hh
  simp only [hops, hcall, hstep, hx]
  exact k.out
theorem st_ofbytes {s : List UInt8} {tok : Tok} (hx : x.ev e = some (.list (bytesOf s) tok)) (k : HO S b r ((d, .str s) :: e) h Q) : HO S b (⟨some d, .op (.conv .ofBytes x), none⟩ :: r) e h Q := by
  refine ⟨?_⟩
  simp only [hops, hcall, hstep, hx, strOf_bytesOf]
  exact ⟨bytesOf_is s, k.out⟩

/-! ### slices -/
theorem st_len {hs : List HV} {tok : Tok} {n : Nat} (hx : x.ev e = some (.list hs tok)) (hn : hs.length = n) (k : HO S b r ((d, .int .i64 n) :: e) h Q) : HO S b (⟨some d, .op (.len false x), none⟩ :: r) e h Q := by
  refine ⟨?_⟩
  subst hn
  simp only [hops, hcall, hstep, hx]
  exact k.out
theorem st_slen {s : List UInt8} (hx : x.ev e = some (.str s)) (k : HO S b r ((d, .int .i64 s.length) :: e) h Q) : HO S b (⟨some d, .op (.len true x), none⟩ :: r) e h Q := by
  refine ⟨?_⟩
  simp only [hops, hcall, hstep, hx]
  exact k.out
theorem st_lenc {n : Nat} (k : HO S b r ((d, .int .i64 n) :: e) h Q) : HO S b (⟨some d, .op (.lenc n), none⟩ :: r) e h Q := ⟨k.out⟩
theorem st_mklist {sz : Nat} {xs : List X} {vs ws : List HV} (hx : evs e xs = some vs) (h1 : ∀ v ∈ vs, v.cells.length = sz ∧ isTuple v = false) (h2 : vs.map HV.strip1 = ws) (k : HO S b r ((d, .list ws .full) :: e) h Q) : HO S b (⟨some d, .op (.mklist sz xs), none⟩ :: r) e h Q := by
  refine ⟨?_⟩
  subst h2
  simp only [hops, hcall, hstep, hx]
  exact ⟨h1, k.out⟩
/-- The i-th of a slice whose elements are f of something. -/
theorem st_iaddr {A : Type} {l : List A} {f : A → HV} {sz : Nat} {tok : Tok} {n : Int} {i : IntKind} (hx : x.ev e = some (.list (l.map f) tok)) (hy : y.ev e = some (.int i n)) (h1 : 0 ≤ n ∧ n < l.length) (h2 : ∀ a, (f a).cells.length = sz) (k : ∀ a, l[n.toNat]? = some a → HO S b r ((d, .rptr (f a).cells) :: e) h Q) : HO S b (⟨some d, .op (.iaddr sz x y), none⟩ :: r) e h Q := by
  refine ⟨?_⟩
  simp only [hops, hcall, hstep, hx, hy, List.length_map, List.getElem?_map]
  refine ⟨h1, ?_⟩
  have hlt : n.toNat < l.length := by omega
  rw [List.getElem?_eq_getElem hlt]
  exact ⟨h2 _, (k _ (List.getElem?_eq_getElem hlt)).out⟩
theorem st_iaddr_b {s : List UInt8} {tok : Tok} {n : Int} {i : IntKind} (hx : x.ev e = some (.list (bytesOf s) tok)) (hy : y.ev e = some (.int i n)) (h1 : 0 ≤ n ∧ n < s.length) (k : ∀ c, s[n.toNat]? = some c → (c.toNat : Int) < 256 → HO S b r ((d, .rptr [.int .u8 c.toNat]) :: e) h Q) : HO S b (⟨some d, .op (.iaddr 1 x y), none⟩ :: r) e h Q :=
  st_iaddr (f := fun c : UInt8 => .int .u8 c.toNat) hx hy h1 (fun _ => rfl) fun c hc => k c hc (by have := c.toNat_lt; omega)
theorem st_load_r {n : Option Nat} {cs : List HV} {v : HV} (hx : x.ev e = some (.rptr cs)) (h1 : atCells n cs = some v) (k : HO S b r ((d, v) :: e) h Q) : HO S b (⟨some d, .op (.load n x), none⟩ :: r) e h Q := by
  refine ⟨?_⟩
  simp only [hops, hcall, hstep, hx, h1]
  exact k.out
theorem st_load {n : Option Nat} {id off : Nat} {cs : List HV} {v : HV} (hx : x.ev e = some (.ptr id off)) (h0 : Heap.cells h id = some cs) (h1 : atCells n (cs.drop off) = some v) (k : HO S b r ((d, v) :: e) h Q) : HO S b (⟨some d, .op (.load n x), none⟩ :: r) e h Q := by
  refine ⟨?_⟩
  simp only [hops, hcall, hstep, hx, h0, h1]
  exact k.out
def bndV (e : Env) (d : Int) (o : Option X) (v : Int) : Prop := bnd e d o = some v
theorem bnd_none {dd : Int} : bnd e dd none = some dd := rfl
theorem bnd_some {dd : Int} {i : IntKind} {n : Int} (hx : x.ev e = some (.int i n)) : bnd e dd (some x) = some n := by simp only [bnd, hx]
theorem st_slice_b {s : List UInt8} {tok : Tok} {lo hi : Option X} {p q : Int} (hx : x.ev e = some (.list (bytesOf s) tok)) (hl : bnd e 0 lo = some p) (hh : bnd e s.length hi = some q) (h1 : 0 ≤ p ∧ p ≤ q ∧ q ≤ s.length) (k : HO S b r ((d, .list (bytesOf ((s.take q.toNat).drop p.toNat)) (cutTok hi.isNone p.toNat tok)) :: e) h Q) : HO S b (⟨some d, .op (.slice 1 x lo hi none), none⟩ :: r) e h Q := by
  refine ⟨?_⟩
  rw [← bytesOf_length s] at hh
  simp only [hops, hcall, hstep, hx, hl, hh]
  rw [bytesOf_take, bytesOf_drop, bytesOf_length]
  exact ⟨⟨h1.1, h1.2.1, h1.2.2, bytesOf_cells s⟩, k.out⟩
theorem st_slice {A : Type} {l : List A} {f : A → HV} {sz : Nat} {tok : Tok} {lo hi : Option X} {p q : Int} (hx : x.ev e = some (.list (l.map f) tok)) (hl : bnd e 0 lo = some p) (hh : bnd e l.length hi = some q) (h1 : 0 ≤ p ∧ p ≤ q ∧ q ≤ l.length) (h2 : ∀ a, (f a).cells.length = sz) (k : HO S b r ((d, .list (((l.take q.toNat).drop p.toNat).map f) (cutTok hi.isNone p.toNat tok)) :: e) h Q) : HO S b (⟨some d, .op (.slice sz x lo hi none), none⟩ :: r) e h Q := by
  refine ⟨?_⟩
  rw [← List.length_map (f := f) (as := l)] at hh
  simp only [hops, hcall, hstep, hx, hl, hh]
  rw [← List.map_take, ← List.map_drop, List.length_map]
  refine ⟨⟨h1.1, h1.2.1, h1.2.2, fun y hy => ?_⟩, k.out⟩
  obtain ⟨a, _, rfl⟩ := List.mem_map.1 hy
  exact h2 a

/-! ### append -/
theorem st_app_full {hs ys zs : List HV} {t : Tok} {sz by_ : Nat} (hx : x.ev e = some (.list hs .full)) (hy : y.ev e = some (.list ys t)) (h1 : ys.map HV.strip1 = ys) (h2 : (hs.length + ys.length) * by_ ≤ 140737488355328) (h3 : ∀ v ∈ ys, v.cells.length = sz ∧ isTuple v = false) (h4 : ∀ v ∈ hs, v.cells.length = sz) (hz : hs ++ ys = zs)
    {n m : Nat} {h' : Heap} (hm : 1 + (hs.length + ys.length) = m) (hn : h.length = n) (hh : h ++ [.tok m] = h') (k : HO S b r ((d, .list zs (.own n 1 sz)) :: e) h' Q) : HO S b (⟨some d, .op (.append sz by_ x y), none⟩ :: r) e h Q := by
  refine ⟨?_⟩
  subst hn
  subst hm
  subst hh
  subst hz
  simp only [hops, hcall, hstep, hx, hy, happend, h1]
  exact ⟨⟨⟨h2, fun v hv => (h3 v hv).1⟩, h4, k.out⟩, fun v hv => (h3 v hv).2⟩
theorem st_app_own {hs ys zs : List HV} {t : Tok} {sz by_ id off : Nat} (hx : x.ev e = some (.list hs (.own id off sz))) (hy : y.ev e = some (.list ys t)) (h1 : ys.map HV.strip1 = ys) (h2 : (hs.length + ys.length) * by_ ≤ 140737488355328) (h3 : ∀ v ∈ ys, v.cells.length = sz ∧ isTuple v = false) (h4 : Heap.tokAt h id = some (off + hs.length)) (hz : hs ++ ys = zs)
    {m : Nat} {h' : Heap} (hm : off + (hs.length + ys.length) = m) (hh : h.set id (.tok m) = h') (k : HO S b r ((d, .list zs (.own id off sz)) :: e) h' Q) : HO S b (⟨some d, .op (.append sz by_ x y), none⟩ :: r) e h Q := by
  refine ⟨?_⟩
  subst hm
  subst hh
  subst hz
  simp only [hops, hcall, hstep, hx, hy, happend, h1]
  exact ⟨⟨⟨h2, fun v hv => (h3 v hv).1⟩, trivial, h4, k.out⟩, fun v hv => (h3 v hv).2⟩
theorem st_app_nil {hs ys : List HV} {t : Tok} {sz by_ : Nat} (hx : x.ev e = some (.list hs .none)) (hy : y.ev e = some (.list ys t)) (h1 : ys = []) (h2 : hs.length * by_ ≤ 140737488355328) (k : HO S b r ((d, .list hs .none) :: e) h Q) : HO S b (⟨some d, .op (.append sz by_ x y), none⟩ :: r) e h Q := by
  refine ⟨?_⟩
  subst h1
  simp only [hops, hcall, hstep, hx, hy, happend, List.map_nil, List.length_nil, Nat.add_zero]
  exact ⟨⟨⟨h2, nofun⟩, trivial, k.out⟩, nofun⟩

/-! ### calls -/
theorem st_call {P : Program} {f : FuncId} {xs : List X} {vs as : List HV} {v : HV} (hx : evs e xs = some vs) (ha : vs.map HV.strip1 = as) (hp : PCall P f as v) (k : HO (HCalls P) b r ((d, v) :: e) h Q) : HO (HCalls P) b (⟨some d, .call f xs, none⟩ :: r) e h Q := by
  refine ⟨?_⟩
  subst ha
  simp only [hops, hcall, hx]
  exact hp.use k.out
theorem st_dcall {P : Program} {f : FuncId} {xs : List X} {vs as : List HV} {v : HV} (hx : evs e xs = some vs) (ha : vs.map HV.strip1 = as) (hp : PCall P f as v) (k : HO (DCalls P) b r ((d, v) :: e) h Q) : HO (DCalls P) b (⟨some d, .call f xs, none⟩ :: r) e h Q := by
  refine ⟨?_⟩
  subst ha
  simp only [hops, hcall, hx]
  exact ⟨v, hp, k.out⟩
theorem st_extract {vs : List HV} {i : Nat} {v : HV} (hx : x.ev e = some (.tuple vs)) (h1 : vs[i]? = some v) (k : HO S b r ((d, v) :: e) h Q) : HO S b (⟨some d, .op (.extract x i), none⟩ :: r) e h Q := by
  refine ⟨?_⟩
  simp only [hops, hcall, hstep, hx, h1]
  exact k.out
theorem minInt_eq (m n : Int) : minInt m n = min m n := by
  unfold minInt
  split <;> omega
theorem maxInt_eq (m n : Int) : maxInt m n = max m n := by
  unfold maxInt
  split <;> omega
theorem st_min2 {i : IntKind} {m n : Int} {v : Int} (hx : x.ev e = some (.int i m)) (hy : y.ev e = some (.int i n)) (hv : min m n = v) (k : HO S b r ((d, .int i v) :: e) h Q) : HO S b (⟨some d, .op (.min [x, y]), none⟩ :: r) e h Q := by
  refine ⟨?_⟩
  subst hv
  simp only [hops, hcall, hstep, evs, hx, hy]
  refine ⟨fun v hv => ?_, ?_⟩
  · simp at hv; exact ⟨n, hv⟩
  · rw [show foldInt minInt m [.int i n] = minInt m n from rfl, minInt_eq]; exact k.out
theorem st_max2 {i : IntKind} {m n : Int} {v : Int} (hx : x.ev e = some (.int i m)) (hy : y.ev e = some (.int i n)) (hv : max m n = v) (k : HO S b r ((d, .int i v) :: e) h Q) : HO S b (⟨some d, .op (.max [x, y]), none⟩ :: r) e h Q := by
  refine ⟨?_⟩
  subst hv
  simp only [hops, hcall, hstep, evs, hx, hy]
  refine ⟨fun v hv => ?_, ?_⟩
  · simp at hv; exact ⟨n, hv⟩
  · rw [show foldInt maxInt m [.int i n] = maxInt m n from rfl, maxInt_eq]; exact k.out

/-! ### lists of values of one make -/
theorem flat_map1 {A : Type} {f : A → HV} (hf : ∀ a, (f a).cells = [f a]) (l : List A) : flat (l.map f) = l.map f := by
  induction l with
  | nil => rfl
  | cons a r ih =>
    simp only [flat, List.map_cons, List.flatMap_cons] at ih ⊢
    rw [ih, hf]
    rfl
theorem pv_map {A : Type} {f : A → HV} (hf : ∀ a, ∀ x ∈ (f a).cells, PV x) (l : List A) (tok : Tok) (ht : ∀ k o s, tok ≠ .own k o s) : PV (.list (l.map f) tok) := by
  refine .list _ _ ht fun x hx => ?_
  simp only [flat, List.mem_flatMap, List.mem_map] at hx
  obtain ⟨y, ⟨a, _, rfl⟩, hy⟩ := hx
  exact hf a x hy
/-- Slices of byte strings. -/
abbrev eL (l : List (List UInt8)) : HV := .list (l.map eB) .none
theorem pv_eL (l : List (List UInt8)) : PV (eL l) := pv_map (fun a x hx => by simp [HV.cells] at hx; subst hx; exact pv_eB a) l .none (by simp)
theorem hs_zero {a o : HObj} {l : Heap} : List.set (a :: l) 0 o = o :: l := rfl
theorem hs_succ {a o : HObj} {l l' : Heap} {n : Nat} (hl : l.set n o = l') : List.set (a :: l) (n + 1) o = a :: l' := by subst hl; rfl
theorem ha_nil {o : HObj} : ([] : Heap) ++ [o] = [o] := rfl
theorem ha_cons {a o : HObj} {l l' : Heap} (hl : l ++ [o] = l') : (a :: l) ++ [o] = a :: l' := by subst hl; rfl
theorem hl_0 : ([] : Heap).length = 0 := rfl
theorem hl_1 {a : HObj} : [a].length = 1 := rfl
theorem hl_2 {a b : HObj} : [a, b].length = 2 := rfl
theorem hl_3 {a b c : HObj} : [a, b, c].length = 3 := rfl
theorem hl_4 {a b c d : HObj} : [a, b, c, d].length = 4 := rfl
theorem hl_5 {a b c d e : HObj} : [a, b, c, d, e].length = 5 := rfl
theorem hl_6 {a b c d e f : HObj} : [a, b, c, d, e, f].length = 6 := rfl
/-- One more, where the slice has a token. -/
theorem st_app1 {A : Type} {l : List A} {a : A} {f : A → HV} {t : Tok} {sz by_ id off : Nat} (hx : x.ev e = some (.list (l.map f) (.own id off sz))) (hy : y.ev e = some (.list [f a] t)) (h1 : (f a).strip1 = f a) (h2 : (l.length + 1) * by_ ≤ 140737488355328) (h3 : (f a).cells.length = sz ∧ isTuple (f a) = false) (h4 : Heap.tokAt h id = some (off + l.length))
    {h' : Heap} (hh : h.set id (.tok (off + (l ++ [a]).length)) = h') (k : HO S b r ((d, .list ((l ++ [a]).map f) (.own id off sz)) :: e) h' Q) : HO S b (⟨some d, .op (.append sz by_ x y), none⟩ :: r) e h Q := by
  refine st_app_own (zs := (l ++ [a]).map f) (m := off + (l ++ [a]).length) hx hy (by simp [h1]) (by simpa using h2) (by simpa using h3) (by simpa using h4) (by simp) (by simp) hh k
theorem st_app1_full {A : Type} {l : List A} {a : A} {f : A → HV} {t : Tok} {sz by_ : Nat} (hx : x.ev e = some (.list (l.map f) .full)) (hy : y.ev e = some (.list [f a] t)) (h1 : (f a).strip1 = f a) (h2 : (l.length + 1) * by_ ≤ 140737488355328) (h3 : ∀ a, (f a).cells.length = sz) (h4 : isTuple (f a) = false)
    {n : Nat} {h' : Heap} (hn : h.length = n) (hh : h ++ [.tok (1 + (l ++ [a]).length)] = h') (k : HO S b r ((d, .list ((l ++ [a]).map f) (.own n 1 sz)) :: e) h' Q) : HO S b (⟨some d, .op (.append sz by_ x y), none⟩ :: r) e h Q := by
  refine st_app_full (zs := (l ++ [a]).map f) (m := 1 + (l ++ [a]).length) hx hy (by simp [h1]) (by simpa using h2) (by simpa using ⟨h3 a, h4⟩) (fun v hv => ?_) (by simp) (by simp) hn hh k
  obtain ⟨u, _, rfl⟩ := List.mem_map.1 hv
  exact h3 u
/-- Bytes behind bytes. -/
theorem st_appb {m n : List UInt8} {t : Tok} {by_ id off : Nat} (hx : x.ev e = some (.list (bytesOf m) (.own id off 1))) (hy : y.ev e = some (.list (bytesOf n) t)) (h2 : (m.length + n.length) * by_ ≤ 140737488355328) (h4 : Heap.tokAt h id = some (off + m.length))
    {h' : Heap} (hh : h.set id (.tok (off + (m ++ n).length)) = h') (k : HO S b r ((d, .list (bytesOf (m ++ n)) (.own id off 1)) :: e) h' Q) : HO S b (⟨some d, .op (.append 1 by_ x y), none⟩ :: r) e h Q :=
  st_app_own (zs := bytesOf (m ++ n)) (m := off + (m ++ n).length) hx hy (bytesOf_strip n) (by simpa [bytesOf_length] using h2) (fun v hv => ⟨bytesOf_cells n v hv, bytesOf_tuple n v hv⟩) (by simpa [bytesOf_length] using h4) (bytesOf_append m n) (by simp [bytesOf_length]) hh k
theorem st_appb_full {m n : List UInt8} {t : Tok} {by_ : Nat} (hx : x.ev e = some (.list (bytesOf m) .full)) (hy : y.ev e = some (.list (bytesOf n) t)) (h2 : (m.length + n.length) * by_ ≤ 140737488355328)
    {i : Nat} {h' : Heap} (hn : h.length = i) (hh : h ++ [.tok (1 + (m ++ n).length)] = h') (k : HO S b r ((d, .list (bytesOf (m ++ n)) (.own i 1 1)) :: e) h' Q) : HO S b (⟨some d, .op (.append 1 by_ x y), none⟩ :: r) e h Q :=
  st_app_full (zs := bytesOf (m ++ n)) (m := 1 + (m ++ n).length) hx hy (bytesOf_strip n) (by simpa [bytesOf_length] using h2) (fun v hv => ⟨bytesOf_cells n v hv, bytesOf_tuple n v hv⟩) (bytesOf_cells m) (bytesOf_append m n) (by simp [bytesOf_length]) hn hh k
theorem Weak.subh {e e' : Env} {h h' : Heap} (hh : h = h') (hs : Env.sub e' e) : Weak e h e' h' := hh ▸ Weak.sub hs

/-! ### bits -/
theorem st_shl {i j : IntKind} {m n v : Int} (hx : x.ev e = some (.int i m)) (hy : y.ev e = some (.int j n)) (h1 : 0 ≤ n) (h2 : m * 2 ^ (min n.toNat i.bits) = v) (h3 : i.wrap v = v) (k : HO S b r ((d, .int i v) :: e) h Q) : HO S b (⟨some d, .op (.bin .shl x y), none⟩ :: r) e h Q := by
  refine st_bin hx hy (.inr (.inl rfl)) h1 ?_ k
  simp only [ibin, h2, h3]
theorem st_shr {i j : IntKind} {m n : Int} (hx : x.ev e = some (.int i m)) (hy : y.ev e = some (.int j n)) (h1 : 0 ≤ n) (k : HO S b r ((d, .int i (m.fdiv (2 ^ (min n.toNat i.bits)))) :: e) h Q) : HO S b (⟨some d, .op (.bin .shr x y), none⟩ :: r) e h Q :=
  st_bin hx hy (.inr (.inr rfl)) h1 rfl k
theorem or_add {m n : Int} (h0 : 0 ≤ m) (h1 : m < 9007199254740992) (h2 : 0 ≤ n) (h3 : n < 256) : IntKind.i64.wrap (BitVec.ofInt IntKind.i64.bits (m * 256) ||| BitVec.ofInt IntKind.i64.bits n).toNat = m * 256 + n := by
  obtain ⟨a, rfl⟩ := Int.eq_ofNat_of_zero_le h0
  obtain ⟨c, rfl⟩ := Int.eq_ofNat_of_zero_le h2
  have e1 : (BitVec.ofInt 64 ((a : Int) * 256)).toNat = a * 256 := by
    rw [BitVec.toNat_ofInt]
    omega
  have e2 : (BitVec.ofInt 64 (c : Int)).toNat = c := by
    rw [BitVec.toNat_ofInt]
    omega
  have e3 : (BitVec.ofInt IntKind.i64.bits ((a : Int) * 256) ||| BitVec.ofInt IntKind.i64.bits (c : Int)).toNat = a * 256 + c := by
    show (BitVec.ofInt 64 ((a : Int) * 256) ||| BitVec.ofInt 64 (c : Int)).toNat = a * 256 + c
    rw [BitVec.toNat_or, e1, e2, Nat.mul_comm a 256]
    exact (Nat.two_pow_add_eq_or_of_lt (i := 8) (by omega) a).symm
  rw [e3, wrap64_of (by omega) (by omega)]
  omega
theorem st_or8 {m n : Int} (hx : x.ev e = some (.int .i64 (m * 256))) (hy : y.ev e = some (.int .i64 n)) (h0 : 0 ≤ m ∧ m < 9007199254740992 ∧ 0 ≤ n ∧ n < 256) (k : HO S b r ((d, .int .i64 (m * 256 + n)) :: e) h Q) : HO S b (⟨some d, .op (.bin .or x y), none⟩ :: r) e h Q := by
  refine st_bin hx hy (.inl rfl) trivial ?_ k
  simp only [ibin, or_add h0.1 h0.2.1 h0.2.2.1 h0.2.2.2]
theorem wrap8_of {n : Int} (h0 : 0 ≤ n) (h1 : n < 256) : IntKind.u8.wrap n = n := by
  simp only [IntKind.wrap, IntKind.bits, IntKind.signed, Bool.false_and, Bool.false_eq_true, if_false, Nat.reduceSub, Int.reducePow]
  omega
theorem wrap8_mod (n : Int) : IntKind.u8.wrap n = n % 256 := by
  simp only [IntKind.wrap, IntKind.bits, IntKind.signed, Bool.false_and, Bool.false_eq_true, if_false, Nat.reduceSub, Int.reducePow]
theorem st_shl8 {j : IntKind} {m : Int} (hx : x.ev e = some (.int .i64 m)) (hy : y.ev e = some (.int j 8)) (h3 : 0 ≤ m ∧ m < 9007199254740992) (k : HO S b r ((d, .int .i64 (m * 256)) :: e) h Q) : HO S b (⟨some d, .op (.bin .shl x y), none⟩ :: r) e h Q :=
  st_shl hx hy (by omega) rfl (wrap64_of (by show _ ≤ m * 256; omega) (by show m * 256 ≤ _; omega)) k
theorem st_shr8 {j : IntKind} {m : Int} (hx : x.ev e = some (.int .i64 m)) (hy : y.ev e = some (.int j 8)) (h3 : 0 ≤ m) (k : HO S b r ((d, .int .i64 (m / 256)) :: e) h Q) : HO S b (⟨some d, .op (.bin .shr x y), none⟩ :: r) e h Q := by
  refine st_shr hx hy (by omega) ?_
  rw [show m.fdiv (2 ^ (min (8 : Int).toNat IntKind.i64.bits)) = m / 256 from by rw [Int.fdiv_eq_ediv_of_nonneg _ (by decide)]; rfl]
  exact k
theorem st_app_nilb {n : List UInt8} {t : Tok} {by_ : Nat} (hx : x.ev e = some (.list [] .full)) (hy : y.ev e = some (.list (bytesOf n) t)) (h2 : n.length * by_ ≤ 140737488355328)
    {i : Nat} {h' : Heap} (hn : h.length = i) (hh : h ++ [.tok (1 + n.length)] = h') (k : HO S b r ((d, .list (bytesOf n) (.own i 1 1)) :: e) h' Q) : HO S b (⟨some d, .op (.append 1 by_ x y), none⟩ :: r) e h Q :=
  st_app_full (hs := []) (zs := bytesOf n) (m := 1 + n.length) hx hy (bytesOf_strip n) (by simpa [bytesOf_length] using h2) (fun v hv => ⟨bytesOf_cells n v hv, bytesOf_tuple n v hv⟩) (by simp) rfl (by simp [bytesOf_length]) hn hh k
theorem st_app_nil1 {v : HV} {t : Tok} {sz by_ : Nat} (hx : x.ev e = some (.list [] .full)) (hy : y.ev e = some (.list [v] t)) (h1 : v.strip1 = v) (h2 : by_ ≤ 140737488355328) (h3 : v.cells.length = sz ∧ isTuple v = false)
    {n : Nat} {h' : Heap} (hn : h.length = n) (hh : h ++ [.tok 2] = h') (k : HO S b r ((d, .list [v] (.own n 1 sz)) :: e) h' Q) : HO S b (⟨some d, .op (.append sz by_ x y), none⟩ :: r) e h Q :=
  st_app_full (hs := []) (zs := [v]) (m := 2) hx hy (by simp [h1]) (by simpa using h2) (by simpa using h3) (by simp) rfl rfl hn hh k
theorem st_conv8 {i : IntKind} {m : Int} (hx : x.ev e = some (.int i m)) (k : HO S b r ((d, .int .u8 (m % 256)) :: e) h Q) : HO S b (⟨some d, .op (.conv (.int .u8) x), none⟩ :: r) e h Q := by
  refine st_convw hx ?_
  rw [wrap8_mod]
  exact k
theorem byte_of {m : Int} (h : 0 ≤ m ∧ m < 256) : HV.int .u8 m = .int .u8 (UInt8.ofNat m.toNat).toNat := by
  congr 1
  simp
  omega
theorem st_mkb1 {xs : List X} {m : Int} (hx : evs e xs = some [.int .u8 m]) (h1 : 0 ≤ m ∧ m < 256) (k : HO S b r ((d, .list (bytesOf [UInt8.ofNat m.toNat]) .full) :: e) h Q) : HO S b (⟨some d, .op (.mklist 1 xs), none⟩ :: r) e h Q :=
  st_mklist hx (by simp [HV.cells, isTuple]) (by simp only [List.map, HV.strip1, bytesOf]; rw [byte_of h1]) k
theorem st_mkb2 {xs : List X} {m n : Int} (hx : evs e xs = some [.int .u8 m, .int .u8 n]) (h1 : 0 ≤ m ∧ m < 256) (h2 : 0 ≤ n ∧ n < 256) (k : HO S b r ((d, .list (bytesOf [UInt8.ofNat m.toNat, UInt8.ofNat n.toNat]) .full) :: e) h Q) : HO S b (⟨some d, .op (.mklist 1 xs), none⟩ :: r) e h Q :=
  st_mklist hx (by simp [HV.cells, isTuple]) (by simp only [List.map, HV.strip1, bytesOf]; rw [byte_of h1, byte_of h2]) k
theorem st_mkl1 {xs : List X} {hs : List HV} {t : Tok} (hx : evs e xs = some [.list hs t]) (k : HO S b r ((d, .list [.list hs .none] .full) :: e) h Q) : HO S b (⟨some d, .op (.mklist 1 xs), none⟩ :: r) e h Q :=
  st_mklist hx (by simp [HV.cells, isTuple]) rfl k
theorem st_mknil {sz : Nat} (k : HO S b r ((d, .list [] .full) :: e) h Q) : HO S b (⟨some d, .op (.mklist sz []), none⟩ :: r) e h Q :=
  st_mklist rfl (by simp) rfl k
theorem bnd_somen {dd : Int} {i : IntKind} {n : Nat} (hx : x.ev e = some (.int i n)) : bnd e dd (some x) = some (n : Int) := bnd_some hx
theorem st_slice_b0 {s : List UInt8} {tok : Tok} {q : Nat} (hx : x.ev e = some (.list (bytesOf s) tok)) {i : IntKind} (hh : y.ev e = some (.int i q)) (h1 : q ≤ s.length) (k : HO S b r ((d, .list (bytesOf (s.take q)) .none) :: e) h Q) : HO S b (⟨some d, .op (.slice 1 x none (some y) none), none⟩ :: r) e h Q := by
  refine st_slice_b hx bnd_none (bnd_some hh) ⟨by omega, by omega, by omega⟩ ?_
  have : cutTok (some y).isNone (0 : Int).toNat tok = .none := by cases tok <;> rfl
  rw [this]
  exact k
theorem st_slice_bd {s : List UInt8} {tok : Tok} {q : Nat} (hx : x.ev e = some (.list (bytesOf s) tok)) {i : IntKind} (hh : y.ev e = some (.int i q)) (h1 : q ≤ s.length) (k : HO S b r ((d, .list (bytesOf (s.drop q)) (cutTok true q tok)) :: e) h Q) : HO S b (⟨some d, .op (.slice 1 x (some y) none none), none⟩ :: r) e h Q := by
  refine st_slice_b hx (bnd_some hh) bnd_none ⟨by omega, by omega, by omega⟩ ?_
  rw [show ((s.length : Int)).toNat = s.length by omega, List.take_length]
  exact k
theorem st_slice0 {A : Type} {l : List A} {f : A → HV} {sz : Nat} {tok : Tok} {q : Nat} (hx : x.ev e = some (.list (l.map f) tok)) {i : IntKind} (hh : y.ev e = some (.int i q)) (h1 : q ≤ l.length) (h2 : ∀ a, (f a).cells.length = sz) (k : HO S b r ((d, .list ((l.take q).map f) .none) :: e) h Q) : HO S b (⟨some d, .op (.slice sz x none (some y) none), none⟩ :: r) e h Q := by
  refine st_slice hx bnd_none (bnd_some hh) ⟨by omega, by omega, by omega⟩ h2 ?_
  have : cutTok (some y).isNone (0 : Int).toNat tok = .none := by cases tok <;> rfl
  rw [this]
  exact k
theorem st_sliced {A : Type} {l : List A} {f : A → HV} {sz : Nat} {tok : Tok} {q : Nat} (hx : x.ev e = some (.list (l.map f) tok)) {i : IntKind} (hh : y.ev e = some (.int i q)) (h1 : q ≤ l.length) (h2 : ∀ a, (f a).cells.length = sz) (k : HO S b r ((d, .list ((l.drop q).map f) (cutTok true q tok)) :: e) h Q) : HO S b (⟨some d, .op (.slice sz x (some y) none none), none⟩ :: r) e h Q := by
  refine st_slice hx (bnd_some hh) bnd_none ⟨by omega, by omega, by omega⟩ h2 ?_
  rw [show ((l.length : Int)).toNat = l.length by omega, List.take_length]
  exact k
theorem st_nei_same {i : IntKind} {m : Int} (hx : x.ev e = some (.int i m)) (hy : y.ev e = some (.int i m)) (k : HO S b r ((d, .bool false) :: e) h Q) : HO S b (⟨some d, .op (.eqv true .int x y), none⟩ :: r) e h Q :=
  st_nei hx hy (fun hn => absurd rfl hn) fun _ => k
theorem st_eqi_same {i : IntKind} {m : Int} (hx : x.ev e = some (.int i m)) (hy : y.ev e = some (.int i m)) (k : HO S b r ((d, .bool true) :: e) h Q) : HO S b (⟨some d, .op (.eqv false .int x y), none⟩ :: r) e h Q :=
  st_eqi hx hy (fun _ => k) fun hn => absurd rfl hn
end Go.Hw
