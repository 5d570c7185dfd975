import Derived.Test.YtphdkcgchcogdaaHwF2
set_option linter.unusedVariables false
set_option linter.unusedSimpArgs false
namespace Go.Hw
open Go
class EncC {A : Type} (f : A → HV) (sz : outParam Nat) : Prop where
  out : Enc f sz
instance (k : IntKind) : EncC (eInt k) 1 := ⟨enc_int k⟩
instance : EncC eBool 1 := ⟨enc_bool⟩
instance : EncC eStr 1 := ⟨enc_str⟩
instance : EncC eB 1 := ⟨enc_bytes⟩
instance : EncC (fun c : UInt8 => HV.int .u8 c.toNat) 1 := ⟨enc_byte⟩
instance {A : Type} {f : A → HV} {sz : Nat} [e : EncC f sz] : EncC (eLst f) 1 := ⟨enc_lst e.out⟩
class PVi (x : HV) : Prop where
  out : PV x
class PVl (l : List HV) : Prop where
  out : ∀ x ∈ l, PV x
instance : PVl [] := ⟨pvn⟩
instance {x : HV} {l : List HV} [a : PVi x] [b : PVl l] : PVl (x :: l) := ⟨pvc a.out b.out⟩
instance (k : IntKind) (n : Int) : PVi (.int k n) := ⟨.int k n⟩
instance (b : Bool) : PVi (.bool b) := ⟨.bool b⟩
instance (s : List UInt8) : PVi (.str s) := ⟨.str s⟩
instance {A : Type} {f : A → HV} {sz : Nat} {l : List A} [e : EncC f sz] : PVi (.list (List.map f l) .none) := ⟨pv_lst e.out l .none (by simp)⟩
instance {A : Type} {f : A → HV} {sz : Nat} {l : List A} [e : EncC f sz] : PVi (.list (List.map f l) .full) := ⟨pv_lst e.out l .full (by simp)⟩
instance {l : List UInt8} : PVi (.list (bytesOf l) .none) := ⟨pv_lst enc_byte l .none (by simp)⟩
instance {l : List UInt8} : PVi (.list (bytesOf l) .full) := ⟨pv_lst enc_byte l .full (by simp)⟩
instance : PVi (.list [] .full) := ⟨pv_nil⟩
instance : PVi .nilslice := ⟨.nilslice⟩
instance : PVi .nilptr := ⟨.nilptr⟩
instance : PVi .nilmap := ⟨.nilmap⟩
instance : PVi .nilfunc := ⟨.nilfunc⟩
instance : PVi .nilif := ⟨.nilif⟩
instance {cs : List HV} [a : PVl cs] : PVi (.agg cs) := ⟨.agg cs a.out⟩
instance {cs : List HV} [a : PVl cs] : PVi (.tuple cs) := ⟨.tuple cs a.out⟩
instance {cs : List HV} [a : PVl cs] : PVi (.rptr cs) := ⟨.rptr cs a.out⟩
instance {f : FuncId} {cs : List HV} [a : PVl cs] : PVi (.func f cs) := ⟨.func f cs a.out⟩
theorem rnI {σ : List Nat} {x : HV} [a : PVi x] : Ren σ x x := .pv x a.out
theorem en {e : Env} : evs e [] = some [] := rfl
theorem ec {e : Env} {x : X} {xs : List X} {v : HV} {vs : List HV} (h1 : x.ev e = some v) (h2 : evs e xs = some vs) : evs e (x :: xs) = some (v :: vs) := ev_cons h1 h2
theorem mz {a : HV} {l : List HV} {sz : Nat} (h2 : ∀ v ∈ l, v.cells.length = sz ∧ isTuple v = false) (h1 : a.cells.length = sz ∧ isTuple a = false := by exact ⟨rfl, rfl⟩) : ∀ v ∈ a :: l, v.cells.length = sz ∧ isTuple v = false := mkc h1 h2
theorem lb {a b : Nat} (h : Nat.ble a b = true) : a ≤ b := Nat.le_of_ble_eq_true h

variable {P : Program} {N m : Nat} {S D : CallP} {b : Nat} {r : List Op} {e e' : Env} {h h' : Heap} {Q : Env → Heap → Prop} {QQ : Ex → Env → Heap → Prop} {d : Nat} {x y z : X}
theorem ws (h1 : Env.sub e' e := by repeat (first | exact sub_nil | refine sub_cons rfl (.inl rfl) ?_ | refine sub_cons rfl (.inr rfl) ?_)) : WeakF m e h e' h := WeakF.of (Weak.sub h1)
theorem wr (σ : List Nat) (hh : RenH σ h σ h' := by repeat (first | exact ro_nil | refine ro_tok rfl ?_ | refine ro_cells rfl ?_ ?_ | exact rl_nil | refine rl_cons (by first | exact rnI | exact .ptr _ _ _ rfl | exact .own _ _ _ _ _ rfl (pv_flat EncC.out _) | exact .map _ _ rfl | exact rn_arr rfl) rfl ?_))
    (he : RenE σ e e' := by repeat (first | exact re_nil | refine re_cons rfl (by first | exact rnI | exact .ptr _ _ _ rfl | exact .own _ _ _ _ _ rfl (pv_flat EncC.out _) | exact .map _ _ rfl | exact rn_arr rfl) ?_ | refine re_cons1 rfl rnI ?_))
    (hid : ∀ i, i < m → σ[i]? = some i := by simp) (hnd : σ.Nodup := by decide) : WeakF m e h e' h' := weak_ren σ hid hnd hh he
theorem wrm (m0 : Nat) (σ : List Nat) (hh : RenH σ h σ h' := by repeat (first | exact ro_nil | refine ro_tok rfl ?_ | refine ro_cells rfl ?_ ?_ | exact rl_nil | refine rl_cons (by first | exact rnI | exact .ptr _ _ _ rfl | exact .own _ _ _ _ _ rfl (pv_flat EncC.out _) | exact .map _ _ rfl | exact rn_arr rfl) rfl ?_))
    (he : RenE σ e e' := by repeat (first | exact re_nil | refine re_cons rfl (by first | exact rnI | exact .ptr _ _ _ rfl | exact .own _ _ _ _ _ rfl (pv_flat EncC.out _) | exact .map _ _ rfl | exact rn_arr rfl) ?_ | refine re_cons1 rfl rnI ?_))
    (hm : m = m0 := by rfl) (hid : ∀ i, i < m0 → σ[i]? = some i := by decide) (hnd : σ.Nodup := by decide) : WeakF m e h e' h' := weak_renm m0 hm σ hid hnd hh he
theorem gr {A : Type} {a r0 : A} {g : A → HV} {ho : A → Heap} {rs : List RS} {ex : Ex} (vs ws : List HV) (ha : a = r0) (hq : ex = .normal ∨ ex = .ret) (hk : WeakF m (argEnv vs) h (argEnv ws) (ho a)) (hv : resVals2 e h rs = some vs := by rfl) (hl : ws.length = vs.length := by rfl) (hf : retV ws = g a := by rfl) : RetS2 rs m (fun x h' => x = g r0 ∧ h' = ho r0) ex e h :=
  g_hret3 ha hq hv _ _ rfl rfl hl hk hf
theorem gr1 {A : Type} {a r0 : A} {g : A → HV} {ho : A → Heap} {rs : List RS} {ex : Ex} (vs : List HV) (ha : a = r0) (hq : ex = .normal ∨ ex = .ret) (hk : WeakF m (argEnv vs) h (argEnv vs) (ho a)) (hv : resVals2 e h rs = some vs := by rfl) (hf : retV vs = g a := by rfl) : RetS2 rs m (fun x h' => x = g r0 ∧ h' = ho r0) ex e h :=
  g_hret3 ha hq hv _ _ rfl rfl rfl hk hf
theorem g_sp {n id off : Nat} {cs : List HV} {v : HV} (hx : x.ev e = some (.ptr id off)) (hy : y.ev e = some v) (hc : h[id]? = some (.cells cs)) (k : HO S b r e h' Q) (h1 : v.cells.length = n ∧ off + n ≤ cs.length ∧ isTuple v = false := by exact ⟨rfl, lb rfl, rfl⟩) (hh : h.set id (.cells (putAt cs off v.cells)) = h' := by rfl) : HO S b (⟨none, .op (.store n x y), none⟩ :: r) e h Q :=
  g_store_p hx hy hc h1 hh k
section
variable {f : FuncId} {xs : List X} {vs as caps : List HV} {A : Type} {h0 : Heap} {g g2 : A → HV} {ho H2 : A → Heap} {K : A → Prop}
theorem kh (hS : SubH P S f) (σ τ : List Nat) (n k : Nat) (hx : evs e xs = some vs) (hw : ∃ a, MC P f as h0 (g a) (ho a) ∧ K a) (kk : ∀ a, K a → HO S b r ((d, g2 a) :: e) (H2 a) Q)
    (hN : h.length = n := by rfl) (hτ : tau σ n k = τ := by rfl) (hnd : σ.Nodup := by decide) (hlt : ∀ j ∈ σ, j < n := by decide)
    (hin : RenH σ h σ h0 := by repeat (first | exact ro_nil | refine ro_tok rfl ?_ | refine ro_cells rfl ?_ ?_ | exact rl_nil | refine rl_cons (by first | exact rnI | exact .ptr _ _ _ rfl | exact .own _ _ _ _ _ rfl (pv_flat EncC.out _) | exact .map _ _ rfl | exact rn_arr rfl) rfl ?_)) (hdead : HObj.dead ∉ h0 := by first | (simp only [List.mem_cons, List.not_mem_nil, GA, GM.obj, reduceCtorEq, or_self, not_false_eq_true]; done) | simp [GM.obj])
    (hargs : RenA σ as (vs.map HV.strip1) := by repeat (first | exact ra_nil | refine ra_cons (by first | exact rnI | exact .ptr _ _ _ rfl | exact .own _ _ _ _ _ rfl (pv_flat EncC.out _) | exact .map _ _ rfl | exact rn_arr rfl) ?_))
    (l1 : ∀ a, (ho a).length = σ.length + k := by intro _; rfl) (l2 : ∀ a, (H2 a).length = n + k := by intro _; rfl) (hres : ∀ a, Ren τ (g a) (g2 a) := by intro _; exact rnI)
    (hoff : ∀ a, SameOff σ 0 h (H2 a) := by intro _; repeat (first | exact so_nil | refine so_same ?_ | refine so_skip (by decide) ?_))
    (hback : ∀ a, ROut τ (H2 a) τ (ho a) := by intro _; repeat (first | exact ou_nil | refine ou_tok rfl ?_ | refine ou_cells rfl ?_ ?_ | exact rl_nil | refine rl_cons (by first | exact rnI | exact .ptr _ _ _ rfl | exact .own _ _ _ _ _ rfl (pv_flat EncC.out _) | exact .map _ _ rfl | exact rn_arr rfl) rfl ?_)) :
    HO S b (⟨some d, .call f xs, none⟩ :: r) e h Q := k_hcall hS σ τ n k hx rfl hw hN hτ hnd hlt hin hdead hargs l1 l2 hres hoff hback kk
theorem khv (hS : SubH P S f) (hf : x.ev e = some (.func f caps)) (σ τ : List Nat) (n k : Nat) (hx : evs e xs = some vs) (hw : ∃ a, MC P f as h0 (g a) (ho a) ∧ K a) (kk : ∀ a, K a → HO S b r ((d, g2 a) :: e) (H2 a) Q)
    (hN : h.length = n := by rfl) (hτ : tau σ n k = τ := by rfl) (hnd : σ.Nodup := by decide) (hlt : ∀ j ∈ σ, j < n := by decide)
    (hin : RenH σ h σ h0 := by repeat (first | exact ro_nil | refine ro_tok rfl ?_ | refine ro_cells rfl ?_ ?_ | exact rl_nil | refine rl_cons (by first | exact rnI | exact .ptr _ _ _ rfl | exact .own _ _ _ _ _ rfl (pv_flat EncC.out _) | exact .map _ _ rfl | exact rn_arr rfl) rfl ?_)) (hdead : HObj.dead ∉ h0 := by first | (simp only [List.mem_cons, List.not_mem_nil, GA, GM.obj, reduceCtorEq, or_self, not_false_eq_true]; done) | simp [GM.obj])
    (hargs : RenA σ as (vs.map HV.strip1 ++ caps) := by repeat (first | exact ra_nil | refine ra_cons (by first | exact rnI | exact .ptr _ _ _ rfl | exact .own _ _ _ _ _ rfl (pv_flat EncC.out _) | exact .map _ _ rfl | exact rn_arr rfl) ?_))
    (l1 : ∀ a, (ho a).length = σ.length + k := by intro _; rfl) (l2 : ∀ a, (H2 a).length = n + k := by intro _; rfl) (hres : ∀ a, Ren τ (g a) (g2 a) := by intro _; exact rnI)
    (hoff : ∀ a, SameOff σ 0 h (H2 a) := by intro _; repeat (first | exact so_nil | refine so_same ?_ | refine so_skip (by decide) ?_))
    (hback : ∀ a, ROut τ (H2 a) τ (ho a) := by intro _; repeat (first | exact ou_nil | refine ou_tok rfl ?_ | refine ou_cells rfl ?_ ?_ | exact rl_nil | refine rl_cons (by first | exact rnI | exact .ptr _ _ _ rfl | exact .own _ _ _ _ _ rfl (pv_flat EncC.out _) | exact .map _ _ rfl | exact rn_arr rfl) rfl ?_)) :
    HO S b (⟨some d, .callv x xs, none⟩ :: r) e h Q := k_hcallv hS hf σ τ n k hx rfl hw hN hτ hnd hlt hin hdead hargs l1 l2 hres hoff hback kk
end
theorem zf {P : Program} {f : FuncId} {fn : Func} {code : Code} {c : C} {ann : Ann} {rs : List RS} {args : List HV} {A : Type} {g : A → HV} {a : A} (hf : P.funcs[f]? = some fn) (hc : comp P ann fn.ntmps code = some c)
    (hw : SC P fn.ntmps 0 c (RetS2 rs 0 fun x h' => x = g a ∧ h' = []) (argEnv args) []) (hb : fn.body = some code := by rfl) (hn : fn.name ≠ "runtime.NumGoroutine" := by decide)
    (hres : resTags P fn.results.toList = some rs := by kernel_rfl) (hargs : args.length ≤ fn.ntmps := by exact lb rfl) [hpv : PVl args] [hpr : PVi (g a)] (hs : (g a).strip1 = g a := by rfl) : PCall P f args (g a) :=
  p_func2 hf hb hn hres hargs hc hpv.out hpr.out hs hw
theorem zh {P : Program} {f : FuncId} {fn : Func} {code : Code} {c : C} {ann : Ann} {rs : List RS} {args : List HV} {h : Heap} {x0 : HV} {h0 : Heap} (hf : P.funcs[f]? = some fn) (hc : comp P ann fn.ntmps code = some c)
    (hw : SC P fn.ntmps h.length c (RetS2 rs h.length fun x h' => x = x0 ∧ h' = h0) (argEnv args) h) (hb : fn.body = some code := by rfl) (hn : fn.name ≠ "runtime.NumGoroutine" := by decide)
    (hres : resTags P fn.results.toList = some rs := by kernel_rfl) (hargs : args.length ≤ fn.ntmps := by exact lb rfl) : MC P f args h x0 h0 :=
  p_hfunc2 hf hb hn hres hargs hc hw

@[reducible] def ii (n : Int) : HV := .int .i64 n
@[reducible] def ln {A : Type} (f : A → HV) (l : List A) : HV := .list (l.map f) .none
@[reducible] def lf {A : Type} (f : A → HV) (l : List A) : HV := .list (l.map f) .full
instance (n : Nat) : OfNat X n := ⟨.t n⟩
abbrev R64 (n : Int) : Prop := -9223372036854775808 ≤ n ∧ n ≤ 9223372036854775807
@[reducible] def nl {A : Type} (f : A → HV) : HV := .list (List.map f []) .full
instance {A : Type} {f : A → HV} {sz : Nat} [e : EncC f sz] : PVi (nl f) := ⟨pv_lst e.out [] .full (by simp)⟩
@[reducible] def mo (d t : Nat) : Op := oo d (.mv (.t t))
end Go.Hw

