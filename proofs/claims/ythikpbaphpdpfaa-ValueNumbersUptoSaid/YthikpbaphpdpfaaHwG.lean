/- Steps whose conditions are spoken of as plain lists and numbers. -/
import Derived.Test.YthikpbaphpdpfaaHwStep
import Derived.Test.YthikpbaphpdpfaaHwFunc
set_option linter.unusedVariables false
set_option linter.unusedSimpArgs false
namespace Go.Hw
open Go

variable {P : Program} {N m : Nat} {S D : CallP} {b : Nat} {r : List Op} {e e' : Env} {h h' : Heap} {Q : Env → Heap → Prop} {QQ : Ex → Env → Heap → Prop} {d : Nat} {x y z : X}

/-! ### encodings -/
abbrev eInt (k : IntKind) (n : Int) : HV := .int k n
abbrev eBool (b : Bool) : HV := .bool b
abbrev eStr (s : List UInt8) : HV := .str s
abbrev eLst {A : Type} (f : A → HV) (l : List A) : HV := .list (l.map f) .none
/-- What is inside is pure, and of that width. -/
structure Enc {A : Type} (f : A → HV) (sz : Nat) : Prop where
  pv : ∀ a, ∀ x ∈ (f a).cells, PV x
  wid : ∀ a, (f a).cells.length = sz
  tup : ∀ a, isTuple (f a) = false
  str : ∀ a, (f a).strip1 = f a
theorem enc_int (k : IntKind) : Enc (eInt k) 1 := ⟨fun a x hx => by simp [HV.cells] at hx; subst hx; exact .int _ _, fun _ => rfl, fun _ => rfl, fun _ => rfl⟩
theorem enc_bool : Enc eBool 1 := ⟨fun a x hx => by simp [HV.cells] at hx; subst hx; exact .bool _, fun _ => rfl, fun _ => rfl, fun _ => rfl⟩
theorem enc_str : Enc eStr 1 := ⟨fun a x hx => by simp [HV.cells] at hx; subst hx; exact .str _, fun _ => rfl, fun _ => rfl, fun _ => rfl⟩
theorem enc_byte : Enc (fun c : UInt8 => HV.int .u8 c.toNat) 1 := ⟨fun a x hx => by simp [HV.cells] at hx; subst hx; exact .int _ _, fun _ => rfl, fun _ => rfl, fun _ => rfl⟩
theorem pv_lst {A : Type} {f : A → HV} {sz : Nat} (hf : Enc f sz) (l : List A) (tok : Tok) (ht : ∀ k o s, tok ≠ .own k o s) : PV (.list (l.map f) tok) := pv_map hf.pv l tok ht
theorem enc_lst {A : Type} {f : A → HV} {sz : Nat} (hf : Enc f sz) : Enc (eLst f) 1 := ⟨fun a x hx => by simp [HV.cells] at hx; subst hx; exact pv_lst hf a .none (by simp), fun _ => rfl, fun _ => rfl, fun _ => rfl⟩
theorem enc_bytes : Enc eB 1 := ⟨fun a x hx => by simp [HV.cells] at hx; subst hx; exact pv_eB a, fun _ => rfl, fun _ => rfl, fun _ => rfl⟩
theorem pv_cells {x : HV} (h : ∀ y ∈ x.cells, PV y) (ht : isTuple x = false) : PV x := by
  cases x with
  | agg cs => exact .agg cs h
  | tuple vs => simp [isTuple] at ht
  | _ => exact h _ (by simp [HV.cells])
theorem Enc.all {A : Type} {f : A → HV} {sz : Nat} (hf : Enc f sz) (a : A) : PV (f a) := pv_cells (hf.pv a) (hf.tup a)
theorem wid_map {A : Type} {f : A → HV} {sz : Nat} (hf : Enc f sz) (l : List A) : ∀ v ∈ l.map f, v.cells.length = sz := fun v hv => by
  obtain ⟨a, _, rfl⟩ := List.mem_map.1 hv
  exact hf.wid a

/-! ### code -/
/-- Behind a piece whose ends meet. -/
def JoinS {A : Type} (m : Nat) (J : A → Prop) (st : A → Env × Heap) (QQ : Ex → Env → Heap → Prop) : Ex → Env → Heap → Prop
  | .normal, e, h => ∃ x, J x ∧ WeakF m e h (st x).1 (st x).2
  | q, e, h => QQ q e h
theorem sc_join {A : Type} (J : A → Prop) (st : A → Env × Heap) {p q : C} (kb : ∀ x, J x → SC P N m q QQ (st x).1 (st x).2) (ka : SC P N m p (JoinS m J st QQ) e h) : SC P N m (.seq p q) QQ e h := by
  refine sc_seq (ka.mono fun x e h hx => ?_)
  cases x with
  | normal => obtain ⟨x, h1, h2⟩ := hx; exact (kb x h1).weak h2
  | exit i => exact hx
  | ret => exact hx
theorem sq_n {c : C} (k : SC P N m c QQ e h) : SeqS P N m c QQ .normal e h := k
theorem sq_x {c : C} {i : Nat} (k : QQ (.exit i) e h) : SeqS P N m c QQ (.exit i) e h := k
theorem sq_r {c : C} (k : QQ .ret e h) : SeqS P N m c QQ .ret e h := k
theorem bl_n {id : Nat} (k : QQ .normal e h) : BlkS id QQ .normal e h := k
theorem bl_r {id : Nat} (k : QQ .ret e h) : BlkS id QQ .ret e h := k
theorem bl_x {id : Nat} (k : QQ .normal e h) : BlkS id QQ (.exit id) e h := by simp only [BlkS, if_true]; exact k
theorem bl_p {id i : Nat} (hi : i ≠ id) (k : QQ (.exit i) e h) : BlkS id QQ (.exit i) e h := by simp only [BlkS, if_neg hi]; exact k
theorem lo_n {X : Type} {st : X → Env × Heap} {μ : X → Nat} {x : X} (x' : X) (hm : μ x' < μ x) (hw : WeakF m e h (st x').1 (st x').2) : LoopS m st μ x QQ .normal e h := ⟨x', hm, hw⟩
theorem lo_x {X : Type} {st : X → Env × Heap} {μ : X → Nat} {x : X} {i : Nat} (k : QQ (.exit i) e h) : LoopS m st μ x QQ (.exit i) e h := k
theorem lo_r {X : Type} {st : X → Env × Heap} {μ : X → Nat} {x : X} (k : QQ .ret e h) : LoopS m st μ x QQ .ret e h := k
theorem jo_n {A : Type} {J : A → Prop} {st : A → Env × Heap} (x : A) (hj : J x) (hw : WeakF m e h (st x).1 (st x).2) : JoinS m J st QQ .normal e h := ⟨x, hj, hw⟩
theorem jo_x {A : Type} {J : A → Prop} {st : A → Env × Heap} {i : Nat} (k : QQ (.exit i) e h) : JoinS m J st QQ (.exit i) e h := k
theorem jo_r {A : Type} {J : A → Prop} {st : A → Env × Heap} (k : QQ .ret e h) : JoinS m J st QQ .ret e h := k
theorem s_reg {ops : List Op} {keep : List Nat} (k : HO (HCalls P) 0 ops e h (Fin QQ keep)) : SC P N m (.reg ops keep) QQ e h := sc_reg k.out
theorem s_dreg (hmix : P.follows .mixedOrders = true) {pre tail : List Op} {n : Nat} {keep : List Nat} {h' : Heap} (hh : h ++ List.replicate n .res = h') (k : HO (DCalls P) h.length pre e h' (Mid (HCalls P) tail (Fin QQ keep))) : SC P N m (.dreg pre tail n keep) QQ e h := by
  subst hh
  exact sc_dreg hmix k.out
theorem s_cond_t {p q : C} (hx : x.ev e = some (.bool true)) (k : SC P N m p QQ e h) : SC P N m (.cond x p q) QQ e h := sc_cond hx (fun _ => k) nofun
theorem s_cond_f {p q : C} (hx : x.ev e = some (.bool false)) (k : SC P N m q QQ e h) : SC P N m (.cond x p q) QQ e h := sc_cond hx nofun fun _ => k
theorem s_cond {p q : C} {t : Bool} (hx : x.ev e = some (.bool t)) {A B : Prop} (hw : (t = true → A) ∧ (t = false → B)) (k1 : A → SC P N m p QQ e h) (k2 : B → SC P N m q QQ e h) : SC P N m (.cond x p q) QQ e h :=
  sc_cond hx (fun ht => k1 (hw.1 ht)) fun ht => k2 (hw.2 ht)
theorem g_end {keep : List Nat} (e' : Env) (hp : prune e keep = e') (k : QQ .normal e' h) : HO S b [] e h (Fin QQ keep) := st_end hp k
/-- A pure function's result. -/
theorem g_ret {rs : List RS} {ex : Ex} {A : Type} {Q : A → Prop} {f : A → HV} {vs : List HV} (hq : ex = .normal ∨ ex = .ret) (hv : resVals2 e h rs = some vs) (a : A) (ha : Q a) (hf : (retV vs).strip1 = f a) : RetS rs m (fun x _ => ∃ a, Q a ∧ x.strip1 = f a) ex e h :=
  ⟨hq, e, h, .refl e h, vs, hv, a, ha, hf⟩
theorem p_func {f : FuncId} {fn : Func} {code : Code} {c : C} {ann : Ann} {rs : List RS} {args : List HV} {A : Type} {g : A → HV} {a : A} (hf : P.funcs[f]? = some fn) (hb : fn.body = some code) (hn : fn.name ≠ "runtime.NumGoroutine")
    (hres : resTags P fn.results.toList = some rs) (hargs : args.length ≤ fn.ntmps) (hc : comp P ann fn.ntmps code = some c) (hpv : ∀ x ∈ args, PV x) (hpr : PV (g a))
    (hw : SC P fn.ntmps 0 c (RetS rs 0 fun x _ => ∃ a', a' = a ∧ x.strip1 = g a') (argEnv args) []) : PCall P f args (g a) :=
  ⟨hpv, hpr, (sc_func (h := []) hf hb hn hres hargs hc hw).mono fun x _ ⟨a', h1, h2⟩ => by rw [h2, h1]⟩

/-! ### numbers -/
theorem g_add {m n : Int} {K : Int → Prop} (hx : x.ev e = some (.int .i64 m)) (hy : y.ev e = some (.int .i64 n)) (hw : (-9223372036854775808 ≤ m + n ∧ m + n ≤ 9223372036854775807) ∧ ∀ t, t = m + n → K t) (k : ∀ t, K t → HO S b r ((d, .int .i64 t) :: e) h Q) : HO S b (⟨some d, .op (.bin .add x y), none⟩ :: r) e h Q :=
  st_add hx hy hw.1 (k _ (hw.2 _ rfl))
theorem g_sub {m n : Int} {K : Int → Prop} (hx : x.ev e = some (.int .i64 m)) (hy : y.ev e = some (.int .i64 n)) (hw : (-9223372036854775808 ≤ m - n ∧ m - n ≤ 9223372036854775807) ∧ ∀ t, t = m - n → K t) (k : ∀ t, K t → HO S b r ((d, .int .i64 t) :: e) h Q) : HO S b (⟨some d, .op (.bin .sub x y), none⟩ :: r) e h Q :=
  st_sub hx hy hw.1 (k _ (hw.2 _ rfl))
theorem g_mul {m n : Int} {K : Int → Prop} (hx : x.ev e = some (.int .i64 m)) (hy : y.ev e = some (.int .i64 n)) (hw : (-9223372036854775808 ≤ m * n ∧ m * n ≤ 9223372036854775807) ∧ ∀ t, t = m * n → K t) (k : ∀ t, K t → HO S b r ((d, .int .i64 t) :: e) h Q) : HO S b (⟨some d, .op (.bin .mul x y), none⟩ :: r) e h Q :=
  st_mul hx hy hw.1 (k _ (hw.2 _ rfl))
theorem g_rem {i : IntKind} {m n : Int} {K : Int → Prop} (hx : x.ev e = some (.int i m)) (hy : y.ev e = some (.int i n)) (hw : n ≠ 0 ∧ ∀ t, t = m.tmod n → K t) (k : ∀ t, K t → HO S b r ((d, .int i t) :: e) h Q) : HO S b (⟨some d, .op (.bin .rem x y), none⟩ :: r) e h Q :=
  st_rem hx hy hw.1 (k _ (hw.2 _ rfl))
theorem g_quo {m n : Int} {K : Int → Prop} (hx : x.ev e = some (.int .i64 m)) (hy : y.ev e = some (.int .i64 n)) (hw : (n ≠ 0 ∧ -9223372036854775808 ≤ m.tdiv n ∧ m.tdiv n ≤ 9223372036854775807) ∧ ∀ t, t = m.tdiv n → K t) (k : ∀ t, K t → HO S b r ((d, .int .i64 t) :: e) h Q) : HO S b (⟨some d, .op (.bin .quo x y), none⟩ :: r) e h Q :=
  st_quo hx hy hw.1.1 hw.1.2 (k _ (hw.2 _ rfl))
/-- Any other, with its wrap. -/
def iop (op : BinOp) (k : IntKind) (a b : Int) : Int :=
  match ibin op k a b with
  | some (.int _ n) => n
  | _ => 0
theorem ibin_iop {op : BinOp} {k : IntKind} {a b : Int} (h : ∃ n, ibin op k a b = some (.int k n)) : ibin op k a b = some (.int k (iop op k a b)) := by
  obtain ⟨n, hn⟩ := h
  simp only [iop, hn]
theorem g_bin {op : BinOp} {i j : IntKind} {m n : Int} {K : Int → Prop} (hx : x.ev e = some (.int i m)) (hy : y.ev e = some (.int j n)) (h0 : i = j ∨ op = .shl ∨ op = .shr) (h2 : ∃ v, ibin op i m n = some (.int i v)) (hw : ibinOk op n ∧ ∀ t, t = iop op i m n → K t) (k : ∀ t, K t → HO S b r ((d, .int i t) :: e) h Q) : HO S b (⟨some d, .op (.bin op x y), none⟩ :: r) e h Q :=
  st_bin hx hy h0 hw.1 (ibin_iop h2) (k _ (hw.2 _ rfl))
theorem g_lss {i : IntKind} {m n : Int} {A B : Prop} (hx : x.ev e = some (.int i m)) (hy : y.ev e = some (.int i n)) (hw : (m < n → A) ∧ (n ≤ m → B)) (k1 : A → HO S b r ((d, .bool true) :: e) h Q) (k2 : B → HO S b r ((d, .bool false) :: e) h Q) : HO S b (⟨some d, .op (.bin .lss x y), none⟩ :: r) e h Q :=
  st_lss hx hy (fun c => k1 (hw.1 c)) fun c => k2 (hw.2 c)
theorem g_leq {i : IntKind} {m n : Int} {A B : Prop} (hx : x.ev e = some (.int i m)) (hy : y.ev e = some (.int i n)) (hw : (m ≤ n → A) ∧ (n < m → B)) (k1 : A → HO S b r ((d, .bool true) :: e) h Q) (k2 : B → HO S b r ((d, .bool false) :: e) h Q) : HO S b (⟨some d, .op (.bin .leq x y), none⟩ :: r) e h Q :=
  st_leq hx hy (fun c => k1 (hw.1 c)) fun c => k2 (hw.2 c)
theorem g_gtr {i : IntKind} {m n : Int} {A B : Prop} (hx : x.ev e = some (.int i m)) (hy : y.ev e = some (.int i n)) (hw : (n < m → A) ∧ (m ≤ n → B)) (k1 : A → HO S b r ((d, .bool true) :: e) h Q) (k2 : B → HO S b r ((d, .bool false) :: e) h Q) : HO S b (⟨some d, .op (.bin .gtr x y), none⟩ :: r) e h Q :=
  st_gtr hx hy (fun c => k1 (hw.1 c)) fun c => k2 (hw.2 c)
theorem g_geq {i : IntKind} {m n : Int} {A B : Prop} (hx : x.ev e = some (.int i m)) (hy : y.ev e = some (.int i n)) (hw : (n ≤ m → A) ∧ (m < n → B)) (k1 : A → HO S b r ((d, .bool true) :: e) h Q) (k2 : B → HO S b r ((d, .bool false) :: e) h Q) : HO S b (⟨some d, .op (.bin .geq x y), none⟩ :: r) e h Q :=
  st_geq hx hy (fun c => k1 (hw.1 c)) fun c => k2 (hw.2 c)
theorem g_eqi {i : IntKind} {m n : Int} {A B : Prop} (hx : x.ev e = some (.int i m)) (hy : y.ev e = some (.int i n)) (hw : (m = n → A) ∧ (m ≠ n → B)) (k1 : A → HO S b r ((d, .bool true) :: e) h Q) (k2 : B → HO S b r ((d, .bool false) :: e) h Q) : HO S b (⟨some d, .op (.eqv false .int x y), none⟩ :: r) e h Q :=
  st_eqi hx hy (fun c => k1 (hw.1 c)) fun c => k2 (hw.2 c)
theorem g_nei {i : IntKind} {m n : Int} {A B : Prop} (hx : x.ev e = some (.int i m)) (hy : y.ev e = some (.int i n)) (hw : (m ≠ n → A) ∧ (m = n → B)) (k1 : A → HO S b r ((d, .bool true) :: e) h Q) (k2 : B → HO S b r ((d, .bool false) :: e) h Q) : HO S b (⟨some d, .op (.eqv true .int x y), none⟩ :: r) e h Q :=
  st_nei hx hy (fun c => k1 (hw.1 c)) fun c => k2 (hw.2 c)
theorem g_eqs {m n : List UInt8} {A B : Prop} (hx : x.ev e = some (.str m)) (hy : y.ev e = some (.str n)) (hw : (m = n → A) ∧ (m ≠ n → B)) (k1 : A → HO S b r ((d, .bool true) :: e) h Q) (k2 : B → HO S b r ((d, .bool false) :: e) h Q) : HO S b (⟨some d, .op (.eqv false .str x y), none⟩ :: r) e h Q :=
  st_eqs hx hy (fun c => k1 (hw.1 c)) fun c => k2 (hw.2 c)
theorem g_nes {m n : List UInt8} {A B : Prop} (hx : x.ev e = some (.str m)) (hy : y.ev e = some (.str n)) (hw : (m ≠ n → A) ∧ (m = n → B)) (k1 : A → HO S b r ((d, .bool true) :: e) h Q) (k2 : B → HO S b r ((d, .bool false) :: e) h Q) : HO S b (⟨some d, .op (.eqv true .str x y), none⟩ :: r) e h Q :=
  st_nes hx hy (fun c => k1 (hw.1 c)) fun c => k2 (hw.2 c)
/-- Comparisons whose outcome is kept as a bool. -/
theorem gb_cmp {op : BinOp} {i : IntKind} {m n : Int} {t0 : Bool} {K : Bool → Prop} (hx : x.ev e = some (.int i m)) (hy : y.ev e = some (.int i n)) (h1 : ibinOk op n) (h2 : ibin op i m n = some (.bool t0)) (hw : ∀ t, t = t0 → K t) (k : ∀ t, K t → HO S b r ((d, .bool t) :: e) h Q) : HO S b (⟨some d, .op (.bin op x y), none⟩ :: r) e h Q :=
  st_bin hx hy (.inl rfl) h1 h2 (k _ (hw _ rfl))
theorem gb_eqi {neg : Bool} {i : IntKind} {m n : Int} {K : Bool → Prop} (hx : x.ev e = some (.int i m)) (hy : y.ev e = some (.int i n)) (hw : ∀ t, t = (if neg then !(m == n) else m == n) → K t) (k : ∀ t, K t → HO S b r ((d, .bool t) :: e) h Q) : HO S b (⟨some d, .op (.eqv neg .int x y), none⟩ :: r) e h Q :=
  st_eqv hx hy (by simp) rfl fun t ht => by simp only [HV.eqs] at ht; subst ht; exact k _ (hw _ rfl)
theorem gb_eqs {neg : Bool} {m n : List UInt8} {K : Bool → Prop} (hx : x.ev e = some (.str m)) (hy : y.ev e = some (.str n)) (hw : ∀ t, t = (if neg then !(m == n) else m == n) → K t) (k : ∀ t, K t → HO S b r ((d, .bool t) :: e) h Q) : HO S b (⟨some d, .op (.eqv neg .str x y), none⟩ :: r) e h Q :=
  st_eqv hx hy (by simp) trivial fun t ht => by simp only [HV.eqs] at ht; subst ht; exact k _ (hw _ rfl)
theorem gb_eqb {neg : Bool} {m n : Bool} {K : Bool → Prop} (hx : x.ev e = some (.bool m)) (hy : y.ev e = some (.bool n)) (hw : ∀ t, t = (if neg then !(m == n) else m == n) → K t) (k : ∀ t, K t → HO S b r ((d, .bool t) :: e) h Q) : HO S b (⟨some d, .op (.eqv neg .bool x y), none⟩ :: r) e h Q :=
  st_eqv hx hy (by simp) trivial fun t ht => by simp only [HV.eqs] at ht; subst ht; exact k _ (hw _ rfl)
/-- A bool is split into its two cases. -/
theorem g_split {t : Bool} {o : OC} {dst : Option Nat} {u : Nat} {c : Bool} {A B : Prop} (hg : e.get u = some (.bool t)) (hw : (t = true → A) ∧ (t = false → B)) (k1 : t = true → A → HO S b (⟨dst, o, some (u, c)⟩ :: r) e h Q) (k2 : t = false → B → HO S b (⟨dst, o, some (u, c)⟩ :: r) e h Q) : HO S b (⟨dst, o, some (u, c)⟩ :: r) e h Q := by
  cases t with
  | true => exact k1 rfl (hw.1 rfl)
  | false => exact k2 rfl (hw.2 rfl)
theorem g_eqn {hs : List HV} {tok : Tok} {A B : Prop} (hx : x.ev e = some (.list hs tok)) (hy : y.ev e = some .nilslice) (hw : (hs.length = 0 → A) ∧ B) (k1 : A → HO S b r ((d, .bool true) :: e) h Q) (k2 : B → HO S b r ((d, .bool false) :: e) h Q) : HO S b (⟨some d, .op (.eqv false .slice x y), none⟩ :: r) e h Q :=
  st_eqn hx hy (fun c => k1 (hw.1 (by rw [c]; rfl))) (k2 hw.2)
theorem g_nen {hs : List HV} {tok : Tok} {A B : Prop} (hx : x.ev e = some (.list hs tok)) (hy : y.ev e = some .nilslice) (hw : (hs.length = 0 → A) ∧ B) (k1 : A → HO S b r ((d, .bool false) :: e) h Q) (k2 : B → HO S b r ((d, .bool true) :: e) h Q) : HO S b (⟨some d, .op (.eqv true .slice x y), none⟩ :: r) e h Q :=
  st_nen hx hy (fun c => k1 (hw.1 (by rw [c]; rfl))) (k2 hw.2)
theorem g_neg {m : Int} {K : Int → Prop} (hx : x.ev e = some (.int .i64 m)) (hw : (-9223372036854775807 ≤ m ∧ m ≤ 9223372036854775807) ∧ ∀ t, t = -m → K t) (k : ∀ t, K t → HO S b r ((d, .int .i64 t) :: e) h Q) : HO S b (⟨some d, .op (.un .neg x), none⟩ :: r) e h Q :=
  st_neg hx hw.1 (k _ (hw.2 _ rfl))
theorem g_conv {i j : IntKind} {m : Int} {K : Int → Prop} (hx : x.ev e = some (.int j m)) (hw : ∀ t, t = i.wrap m → K t) (k : ∀ t, K t → HO S b r ((d, .int i t) :: e) h Q) : HO S b (⟨some d, .op (.conv (.int i) x), none⟩ :: r) e h Q :=
  st_convw hx (k _ (hw _ rfl))
theorem g_conv_byte {i : IntKind} {c : UInt8} (hx : x.ev e = some (.int .u8 c.toNat)) (hi : i ≠ .i8) (k : HO S b r ((d, .int i c.toNat) :: e) h Q) : HO S b (⟨some d, .op (.conv (.int i) x), none⟩ :: r) e h Q := by
  refine st_conv hx ?_ k
  have := c.toNat_lt
  cases i <;> first | exact absurd rfl hi | (simp only [IntKind.wrap, IntKind.bits, IntKind.signed, Bool.true_and, Bool.false_and, decide_eq_true_eq, Nat.reduceSub, Int.reducePow, Bool.false_eq_true, if_false, ge_iff_le]; first | omega | (split <;> omega))
theorem g_min {i : IntKind} {m n : Int} {K : Int → Prop} (hx : x.ev e = some (.int i m)) (hy : y.ev e = some (.int i n)) (hw : ∀ t, t = min m n → K t) (k : ∀ t, K t → HO S b r ((d, .int i t) :: e) h Q) : HO S b (⟨some d, .op (.min [x, y]), none⟩ :: r) e h Q :=
  st_min2 hx hy rfl (k _ (hw _ rfl))
theorem g_max {i : IntKind} {m n : Int} {K : Int → Prop} (hx : x.ev e = some (.int i m)) (hy : y.ev e = some (.int i n)) (hw : ∀ t, t = max m n → K t) (k : ∀ t, K t → HO S b r ((d, .int i t) :: e) h Q) : HO S b (⟨some d, .op (.max [x, y]), none⟩ :: r) e h Q :=
  st_max2 hx hy rfl (k _ (hw _ rfl))

/-! ### strings -/
theorem g_sadd {m n : List UInt8} {K : List UInt8 → Prop} (hx : x.ev e = some (.str m)) (hy : y.ev e = some (.str n)) (hw : m.length + n.length ≤ 9223372036854775807 ∧ ∀ t, t = m ++ n → K t) (k : ∀ t, K t → HO S b r ((d, .str t) :: e) h Q) : HO S b (⟨some d, .op (.bin .add x y), none⟩ :: r) e h Q :=
  st_sbin hx hy hw.1 rfl (k _ (hw.2 _ rfl))
theorem g_slss {m n : List UInt8} {K : Bool → Prop} (hx : x.ev e = some (.str m)) (hy : y.ev e = some (.str n)) (hw : ∀ t, t = bytesLess m n → K t) (k : ∀ t, K t → HO S b r ((d, .bool t) :: e) h Q) : HO S b (⟨some d, .op (.bin .lss x y), none⟩ :: r) e h Q :=
  st_sbin hx hy trivial rfl (k _ (hw _ rfl))
theorem g_index {s : List UInt8} {i : IntKind} {n : Int} {K : UInt8 → Prop} (hx : x.ev e = some (.str s)) (hy : y.ev e = some (.int i n)) (hw : (0 ≤ n ∧ n < s.length) ∧ ∀ c, s[n.toNat]? = some c → K c) (k : ∀ c, K c → HO S b r ((d, .int .u8 c.toNat) :: e) h Q) : HO S b (⟨some d, .op (.index x y), none⟩ :: r) e h Q := by
  refine ⟨?_⟩
  simp only [hops, hcall, hstep, hx, hy]
  have hlt : n.toNat < s.length := by omega
  refine ⟨hw.1, ?_⟩
  have := (k s[n.toNat] (hw.2 _ (List.getElem?_eq_getElem hlt))).out
  rw [List.getD_eq_getElem?_getD, List.getElem?_eq_getElem hlt]
  exact this
theorem g_sslice {s : List UInt8} {lo hi : Option X} {p q : Int} {K : List UInt8 → Prop} (hx : x.ev e = some (.str s)) (hl : bnd e 0 lo = some p) (hh : bnd e s.length hi = some q) (hw : (0 ≤ p ∧ p ≤ q ∧ q ≤ s.length) ∧ ∀ t, t = (s.take q.toNat).drop p.toNat → K t) (k : ∀ t, K t → HO S b r ((d, .str t) :: e) h Q) : HO S b (⟨some d, .op (.sslice x lo hi), none⟩ :: r) e h Q := by
  refine ⟨?_⟩
  simp only [hops, hcall, hstep, hx, hl, hh]
  exact ⟨hw.1, (k _ (hw.2 _ rfl)).out⟩

/-! ### slices -/
theorem g_len {A : Type} {l : List A} {f : A → HV} {tok : Tok} (hx : x.ev e = some (.list (l.map f) tok)) (k : HO S b r ((d, .int .i64 l.length) :: e) h Q) : HO S b (⟨some d, .op (.len false x), none⟩ :: r) e h Q :=
  st_len hx (List.length_map ..) k
theorem g_iaddr {A : Type} {l : List A} {f : A → HV} {sz : Nat} {tok : Tok} {n : Int} {i : IntKind} {K : A → Prop} (hf : Enc f sz) (hx : x.ev e = some (.list (l.map f) tok)) (hy : y.ev e = some (.int i n)) (hw : (0 ≤ n ∧ n < l.length) ∧ ∀ a, l[n.toNat]? = some a → K a) (k : ∀ a, K a → HO S b r ((d, .rptr (f a).cells) :: e) h Q) : HO S b (⟨some d, .op (.iaddr sz x y), none⟩ :: r) e h Q :=
  st_iaddr hx hy hw.1 hf.wid fun a ha => k a (hw.2 a ha)
theorem g_slice {A : Type} {l : List A} {f : A → HV} {sz : Nat} {tok : Tok} {lo hi : Option X} {p q : Int} {K : List A → Prop} (hf : Enc f sz) (hx : x.ev e = some (.list (l.map f) tok)) (hl : bnd e 0 lo = some p) (hh : bnd e l.length hi = some q) (hw : (0 ≤ p ∧ p ≤ q ∧ q ≤ l.length) ∧ ∀ t, t = (l.take q.toNat).drop p.toNat → K t) (k : ∀ t, K t → HO S b r ((d, .list (t.map f) (cutTok hi.isNone p.toNat tok)) :: e) h Q) : HO S b (⟨some d, .op (.slice sz x lo hi none), none⟩ :: r) e h Q :=
  st_slice hx hl hh hw.1 hf.wid (k _ (hw.2 _ rfl))
/-- Appending to a full slice. -/
theorem g_appf {A : Type} {l ys : List A} {f : A → HV} {t : Tok} {sz by_ : Nat} {K : List A → Prop} (hf : Enc f sz) (hx : x.ev e = some (.list (l.map f) .full)) (hy : y.ev e = some (.list (ys.map f) t)) {n : Nat} (hn : h.length = n) (hw : (l.length + ys.length) * by_ ≤ 140737488355328 ∧ ∀ t, t = l ++ ys → K t) (k : ∀ t, K t → HO S b r ((d, .list (t.map f) (.own n 1 sz)) :: e) (h ++ [.tok (1 + t.length)]) Q) : HO S b (⟨some d, .op (.append sz by_ x y), none⟩ :: r) e h Q :=
  st_app_full (m := 1 + (l ++ ys).length) hx hy (by rw [List.map_map]; exact List.map_congr_left fun a _ => hf.str a) (by simpa using hw.1) (fun v hv => by obtain ⟨a, _, rfl⟩ := List.mem_map.1 hv; exact ⟨hf.wid a, hf.tup a⟩) (wid_map hf l) (List.map_append ..).symm (by simp) hn rfl (k _ (hw.2 _ rfl))
theorem g_appo {A : Type} {l ys : List A} {f : A → HV} {t : Tok} {sz by_ id : Nat} {K : List A → Prop} (hf : Enc f sz) (hx : x.ev e = some (.list (l.map f) (.own id 1 sz))) (hy : y.ev e = some (.list (ys.map f) t)) (h4 : Heap.tokAt h id = some (1 + l.length)) (hw : (l.length + ys.length) * by_ ≤ 140737488355328 ∧ ∀ t, t = l ++ ys → K t) (h' : List A → Heap) (hh : ∀ t : List A, h.set id (.tok (1 + t.length)) = h' t) (k : ∀ t, K t → HO S b r ((d, .list (t.map f) (.own id 1 sz)) :: e) (h' t) Q) : HO S b (⟨some d, .op (.append sz by_ x y), none⟩ :: r) e h Q :=
  st_app_own (m := 1 + (l ++ ys).length) hx hy (by rw [List.map_map]; exact List.map_congr_left fun a _ => hf.str a) (by simpa using hw.1) (fun v hv => by obtain ⟨a, _, rfl⟩ := List.mem_map.1 hv; exact ⟨hf.wid a, hf.tup a⟩) (by simpa using h4) (List.map_append ..).symm (by simp) (hh (l ++ ys)) (k _ (hw.2 _ rfl))
theorem g_mkl {A : Type} {f : A → HV} {sz : Nat} {xs : List X} {vs : List HV} (hf : Enc f sz) (l : List A) (hx : evs e xs = some vs) (hl : vs.map HV.strip1 = l.map f) (hv : ∀ v ∈ vs, v.cells.length = sz ∧ isTuple v = false) (k : HO S b r ((d, .list (l.map f) .full) :: e) h Q) : HO S b (⟨some d, .op (.mklist sz xs), none⟩ :: r) e h Q :=
  st_mklist hx hv hl k
/-! ### calls -/
theorem g_call {f : FuncId} {xs : List X} {vs as : List HV} {A : Type} {g : A → HV} {K : A → Prop} (hx : evs e xs = some vs) (ha : vs.map HV.strip1 = as) (hw : ∃ a, PCall P f as (g a) ∧ K a) (k : ∀ a, K a → HO (HCalls P) b r ((d, g a) :: e) h Q) : HO (HCalls P) b (⟨some d, .call f xs, none⟩ :: r) e h Q := by
  obtain ⟨a, h1, h2⟩ := hw
  exact st_call hx ha h1 (k a h2)
theorem g_dcall {f : FuncId} {xs : List X} {vs as : List HV} {A : Type} {g : A → HV} {K : A → Prop} (hx : evs e xs = some vs) (ha : vs.map HV.strip1 = as) (hw : ∃ a, PCall P f as (g a) ∧ K a) (k : ∀ a, K a → HO (DCalls P) b r ((d, g a) :: e) h Q) : HO (DCalls P) b (⟨some d, .call f xs, none⟩ :: r) e h Q := by
  obtain ⟨a, h1, h2⟩ := hw
  exact st_dcall hx ha h1 (k a h2)
end Go.Hw
