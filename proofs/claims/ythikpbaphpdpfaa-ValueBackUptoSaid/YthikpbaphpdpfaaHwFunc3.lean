/- Functions whose results stand in memory of their own. -/
import Derived.Test.YthikpbaphpdpfaaHwG7
set_option linter.unusedVariables false
set_option linter.unusedSimpArgs false
namespace Go.Hw
open Go
variable {P : Program}
/-- Behind the whole body: the results, and what stays of the memory. -/
def RetS2 (rs : List RS) (m : Nat) (R : HV → Heap → Prop) : Ex → Env → Heap → Prop := fun q e h => (q = .normal ∨ q = .ret) ∧ ∃ vs, resVals2 e h rs = some vs ∧ ∃ ws h', ws.length = vs.length ∧ WeakF m (argEnv vs) h (argEnv ws) h' ∧ R (retV ws) h'
theorem argEnvFrom_get : ∀ (l : List HV) (i j : Nat) (x : HV), l[j]? = some x → Env.get (argEnvFrom i l) (i + j) = some x
  | [], i, j, x, h => by simp at h
  | y :: r, i, 0, x, h => by simp at h; subst h; simp [argEnvFrom, Env.get]
  | y :: r, i, j + 1, x, h => by
    simp only [argEnvFrom, Env.get]
    rw [if_neg (by omega), show i + (j + 1) = i + 1 + j by omega]
    exact argEnvFrom_get r (i + 1) j x (by simpa using h)
theorem sc_func2 {f : FuncId} {fn : Func} {code : Code} {c : C} {ann : Ann} {rs : List RS} {args : List HV} {h : Heap} {R : HV → Heap → Prop} (hf : P.funcs[f]? = some fn) (hb : fn.body = some code) (hn : fn.name ≠ "runtime.NumGoroutine")
    (hres : resTags P fn.results.toList = some rs) (hargs : args.length ≤ fn.ntmps) (hc : comp P ann fn.ntmps code = some c)
    (hw : SC P fn.ntmps h.length c (RetS2 rs h.length R) (argEnv args) h) : HCalls P f args h R := by
  refine ⟨⟨fn, hf, by rw [hb]; rfl, hn⟩, fun K w vs hh hl hv => ?_⟩
  refine calls_of_wp hf hb (wp_mono (hw ann code hc K w K w _ (base_of hh) (.refl K w) ⟨hh, fun t x hx => ?_, ?_, rfl⟩) ?_)
  · obtain ⟨_, h2⟩ := argEnv_get args 0 t x hx
    simp only [Nat.sub_zero] at h2
    have hlt := lt_of_get h2
    obtain ⟨v, hvt⟩ := get_of_lt (l := vs) (j := t) (by omega)
    have : (vs.toArray ++ Array.replicate (fn.ntmps - vs.toArray.size) undef).getD t undef = v := by
      rw [Array.getD_eq_getD_getElem?, Array.getElem?_append_left (by simp; omega)]
      simp [hvt]
    rw [this]
    exact hv t x v h2 hvt
  · simp; omega
  · rintro ex a' w' ⟨q, K1, e1, h1, rfl, s1, r1, hq, xs, hxs, ys, h', hlen, hwk, hR⟩
    obtain ⟨us, k1, k2, k3, k4⟩ := res_run (P := P) r1 hres hxs
    obtain ⟨K', s, hr'⟩ := hwk us.length K w K1 w' { a' with tmps := us.toArray } (base_of hh) s1 ⟨r1.heap, fun t x hx => by
      obtain ⟨_, h2⟩ := argEnv_get xs 0 t x hx
      simp only [Nat.sub_zero] at h2
      have hlt := lt_of_get h2
      obtain ⟨v, hvt⟩ := get_of_lt (l := us) (j := t) (by omega)
      have : us.toArray.getD t undef = v := by simp [Array.getD_eq_getD_getElem?, hvt]
      show _root_.Go.Hw.V K1 w' x (us.toArray.getD t undef)
      rw [this]
      exact k4 t x v h2 hvt, by simp, r1.defers⟩
    have k4' : ∀ (j : Nat) (x : HV) (u : Value), ys[j]? = some x → us[j]? = some u → V K' w' x u := by
      intro j x u hx hu
      have h2 := argEnvFrom_get ys 0 j x hx
      rw [Nat.zero_add] at h2
      have h3 := hr'.env j x h2
      have : us.toArray.getD j undef = u := by simp [Array.getD_eq_getD_getElem?, hu]
      rw [show ({ a' with tmps := us.toArray } : Act).tmps = us.toArray from rfl, this] at h3
      exact h3
    have hrun : (results fn a'.tmps).run P w' = .ok (packV us) w' := by
      have he : results fn a'.tmps = (do
          let vs ← fn.results.mapM (resOf a'.tmps)
          pure (if h : vs.size = 1 then vs[0] else .tuple vs)) := rfl
      have hr2 : fn.results = fn.results.toList.toArray := by simp
      have hm : (fn.results.mapM (resOf a'.tmps)).run P w' = .ok us.toArray w' := by
        rw [hr2]
        simp only [List.mapM_toArray, Sem.run_map, k1, Result.andThen_ok]
      rw [he]
      simp only [Sem.run_bind, hm, Result.andThen_ok, Sem.run_pure]
      congr 1
      cases us with
      | nil => rfl
      | cons x r =>
        cases r with
        | nil => rfl
        | cons y r => simp [packV]
    have hV : V K' w' (retV ys) (packV us) := by
      have hall : V K' w' (.tuple ys) (.tuple us.toArray) := V.tuple ys us (by omega) k4'
      cases us with
      | nil =>
        cases ys with
        | nil => exact hall
        | cons _ _ => simp at hlen k2 k3; omega
      | cons t r =>
        cases ys with
        | nil => simp at hlen k2 k3; omega
        | cons u xs =>
          cases r with
          | nil =>
            cases xs with
            | nil => exact k4' 0 u t rfl rfl
            | cons _ _ => simp at hlen k2 k3; omega
          | cons t2 r =>
            cases xs with
            | nil => simp at hlen k2 k3; omega
            | cons u2 us => exact hall
    rcases hq with rfl | rfl
    · exact ⟨r1.defers, _, hrun, _, _, K', h', rfl, s, hr'.heap, hV, hR⟩
    · exact ⟨r1.defers, _, hrun, _, _, K', h', rfl, s, hr'.heap, hV, hR⟩

theorem p_hfunc2 {f : FuncId} {fn : Func} {code : Code} {c : C} {ann : Ann} {rs : List RS} {args : List HV} {h : Heap} {x0 : HV} {h0 : Heap} (hf : P.funcs[f]? = some fn) (hb : fn.body = some code) (hn : fn.name ≠ "runtime.NumGoroutine")
    (hres : resTags P fn.results.toList = some rs) (hargs : args.length ≤ fn.ntmps) (hc : comp P ann fn.ntmps code = some c)
    (hw : SC P fn.ntmps h.length c (RetS2 rs h.length fun x h' => x = x0 ∧ h' = h0) (argEnv args) h) : MC P f args h x0 h0 :=
  sc_func2 hf hb hn hres hargs hc hw
theorem p_func2 {f : FuncId} {fn : Func} {code : Code} {c : C} {ann : Ann} {rs : List RS} {args : List HV} {A : Type} {g : A → HV} {a : A} (hf : P.funcs[f]? = some fn) (hb : fn.body = some code) (hn : fn.name ≠ "runtime.NumGoroutine")
    (hres : resTags P fn.results.toList = some rs) (hargs : args.length ≤ fn.ntmps) (hc : comp P ann fn.ntmps code = some c) (hpv : ∀ x ∈ args, PV x) (hpr : PV (g a)) (hs : (g a).strip1 = g a)
    (hw : SC P fn.ntmps 0 c (RetS2 rs 0 fun x h' => x = g a ∧ h' = []) (argEnv args) []) : PCall P f args (g a) :=
  ⟨hpv, hpr, (sc_func2 (h := []) hf hb hn hres hargs hc hw).mono fun x _ ⟨h1, _⟩ => by rw [h1, hs]⟩
variable {m : Nat} {e : Env} {h : Heap}
theorem g_hret3 {A : Type} {a r0 : A} {g : A → HV} {ho : A → Heap} {rs : List RS} {ex : Ex} {vs ws : List HV} (ha : a = r0) (hq : ex = .normal ∨ ex = .ret) (hv : resVals2 e h rs = some vs) (e1 e2 : Env) (h1 : argEnv vs = e1) (h2 : argEnv ws = e2) (hl : ws.length = vs.length) (hk : WeakF m e1 h e2 (ho a)) (hf : retV ws = g a) : RetS2 rs m (fun x h' => x = g r0 ∧ h' = ho r0) ex e h := by
  subst ha; subst h1; subst h2
  exact ⟨hq, vs, hv, ws, ho a, hl, hk, hf, rfl⟩
end Go.Hw
