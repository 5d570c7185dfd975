/- Operations that leave memory alone, the rest. -/
import Derived.Test.YthikpbaphpdpfaaHwOps3
set_option linter.unusedVariables false
set_option linter.unusedSimpArgs false
namespace Go.Hw
open Go

variable {P : Program}
section
variable {o : Oper} {a : Act} {K : GK} {w : World} {k : HV → Heap → Prop} {e : Env} {h : Heap} (base : Nat)

theorem ok_faddr {t : TypeId} {fs : Array Field} {f : Field} {i n : Nat} {x : Operand} {y : X} (ho : o.op = .fieldAddr t x i) (ht : P.underlying t = some (.struct fs)) (hf : fs[i]? = some f) (hn : tsize P f.type = some n) (hn0 : n ≠ 0) (hx : cX x = some y)
    (hs : hstep base (.faddr f.offset n y) e h k) (hh : HeapRel K h w) (he : EnvRel K w e a.tmps) : Ok P o a K w k := by
  have hrun : ∀ ad : Addr, (Instr.fieldAt t (.pointer (some ad)) i).run P w = .ok (.pointer (some (ad.add f.offset))) w := by
    intro ad
    simp [Instr.fieldAt, run_underlying ht, hf, Instr.sureAddr, fieldPlace, run_sizeOf' hn, hn0]
  simp only [hstep] at hs
  split at hs
  · rename_i id off hev
    have hx' := ev_sound hx he hev
    generalize hcx : a.eval x = cx at hx'
    cases hx' with
    | ptr _ _ b hr => exact Ok.pure (v := .pointer (some ⟨b, off + f.offset, none⟩)) (by simp [execOp, ho, hcx, hrun, Addr.add_lit]) hh (.ptr _ _ b hr) hs
  · rename_i cs hev
    have hx' := ev_sound hx he hev
    generalize hcx : a.eval x = cx at hx'
    cases hx' with
    | rptr _ b of vals hleaf hv hc hl =>
      refine Ok.pure (v := .pointer (some ⟨b, of + f.offset, none⟩)) (by simp [execOp, ho, hcx, hrun, Addr.add_lit]) hh
        (.rptr _ b _ (fun j => vals (f.offset + j)) (fun z hz => hleaf z (List.mem_of_mem_drop hz)) (fun j z hz => by rw [List.getElem?_drop] at hz; exact hv _ z hz)
          (fun j hj => by rw [Nat.add_assoc]; exact hc _ (by simp at hj; omega)) (fun h0 => by simp at h0 ⊢; have := hl (by omega); omega)) hs.2
  · exact hs.elim

theorem run_part {t : TypeId} {n : Option Nat} (ht : tagg P t = some n) {cs : List HV} {vs : Array Value} {off : Nat} {x : HV} (hn : cs.length = vs.size) (hleaf : ∀ z ∈ cs, z.leaf = true) (hv : ∀ (j : Nat) (z : HV) (v : Value), cs[j]? = some z → vs[j]? = some v → V K w z v)
    (hx : atCells n (cs.drop off) = some x) : ∃ v, (part t vs off).run P w = .ok v w ∧ V K w x v := by
  cases n with
  | none =>
    obtain ⟨d, hd, hn'⟩ := tagg_none ht
    simp only [atCells] at hx
    rw [List.head?_eq_getElem?, List.getElem?_drop] at hx
    simp only [Nat.add_zero] at hx
    have hlt := lt_of_get hx
    obtain ⟨v, hvv⟩ : ∃ v, vs[off]? = some v := ⟨vs[off], by simp [show off < vs.size by omega]⟩
    refine ⟨v, ?_, hv off x v hx hvv⟩
    simp only [part, Sem.run_bind, run_isAgg hd, hn', Result.andThen_ok]
    simp [hvv]
  | some m =>
    obtain ⟨d, hd, hn', hsz⟩ := tagg_some ht
    simp only [atCells] at hx
    split at hx
    · rename_i hm
      injection hx with hx
      subst hx
      simp only [List.length_drop] at hm
      refine ⟨.agg (vs.extract off (off + m)), ?_, V.ofAgg _ _ (by simp; omega) (fun z hz => hleaf z (List.mem_of_mem_drop (List.mem_of_mem_take hz))) (fun j z v hz hvz => ?_)⟩
      · simp only [part, Sem.run_bind, run_isAgg hd, hn', Result.andThen_ok, if_true, run_sizeOf' hsz, Sem.run_pure]
      · rw [List.getElem?_take] at hz
        split at hz
        · rw [List.getElem?_drop] at hz
          refine hv _ z v hz ?_
          rw [Array.getElem?_extract] at hvz
          split at hvz
          · exact hvz
          · cases hvz
        · cases hz
    · cases hx

theorem ok_field {t : TypeId} {fs : Array Field} {f : Field} {i : Nat} {n : Option Nat} {x : Operand} {y : X} (ho : o.op = .field t x i) (ht : P.underlying t = some (.struct fs)) (hf : fs[i]? = some f) (hn : tagg P f.type = some n) (hx : cX x = some y)
    (hs : hstep base (.field f.offset n y) e h k) (hh : HeapRel K h w) (he : EnvRel K w e a.tmps) : Ok P o a K w k := by
  simp only [hstep] at hs
  split at hs
  · rename_i cs hev
    split at hs
    · rename_i v hat
      have hx' := ev_sound hx he hev
      generalize hcx : a.eval x = cx at hx'
      cases hx' with
      | agg _ vs hl hleaf hv =>
        obtain ⟨u, hr, hV⟩ := run_part (P := P) (K := K) (w := w) hn (vs := vs.toArray) (by simpa using hl) hleaf (fun j z v hz hvz => hv j z v hz (by simpa using hvz)) hat
        exact Ok.pure (v := u) (by simp [execOp, ho, hcx, Instr.field, run_underlying ht, hf, asAgg, hr]) hh hV hs
    · exact hs.elim
  · exact hs.elim

theorem ok_iaddr {t et : TypeId} {sz : Nat} {x i : Operand} {y j : X} (ho : o.op = .indexAddr t x i) (ht : P.underlying t = some (.slice et)) (hsz : tsize P et = some sz) (hx : cX x = some y) (hi : cX i = some j)
    (hs : hstep base (.iaddr sz y j) e h k) (hh : HeapRel K h w) (he : EnvRel K w e a.tmps) : Ok P o a K w k := by
  have hrun : ∀ (ad : Addr) (len cap : Nat) (kk : IntKind) (n : Int), 0 ≤ n → n < len → (Instr.indexAt t (.slice (some ad) len cap) (.int kk n)).run P w = .ok (.pointer (some (ad.add (n.toNat * sz)))) w := by
    intro ad len cap kk n h0 h1
    simp [Instr.indexAt, asIntOf, run_underlying ht, h0, h1, run_sizeOf' hsz]
  simp only [hstep] at hs
  split at hs
  · rename_i hl tok kk n h1 h2
    obtain ⟨⟨hn0, hn1⟩, hs⟩ := hs
    split at hs
    · rename_i v hv
      have hx' := ev_sound hx he h1
      have hi' := ev_sound hi he h2
      generalize hcx : a.eval x = cx at hx'
      generalize hci : a.eval i = ci at hi'
      cases hi'
      cases hx' with
      | nil _ _ => simp at hn1; omega
      | list0 _ _ ad => simp at hn1; omega
      | list _ _ b of cap sz' vals hw hleaf hvv hc hlim hcap htk =>
        have hsz' : sz' = sz := by rw [← hw v (List.mem_of_getElem? hv)]; exact hs.1
        subst hsz'
        have hfl := flat_length hw
        have hlt : n.toNat < hl.length := by omega
        have hle : n.toNat * sz' + sz' ≤ hl.length * sz' := by
          have := Nat.mul_le_mul_right sz' (show n.toNat + 1 ≤ hl.length by omega)
          rw [Nat.add_mul] at this; omega
        refine Ok.pure (v := .pointer (some ⟨b, of + n.toNat * sz', none⟩)) (by simp [execOp, ho, hcx, hci, hrun _ _ _ _ _ hn0 hn1, Addr.add_lit]) hh
          (.rptr _ b _ (fun q => vals (n.toNat * sz' + q)) (fun z hz => ?_) (fun q z hz => ?_) (fun q hq => ?_) (fun h0 => ?_)) hs.2
        · obtain ⟨q, hq⟩ := mem_get hz
          refine hleaf z (List.mem_of_getElem? (i := n.toNat * sz' + q) ?_)
          rw [flat_at hw hv q (by rw [← hs.1]; exact lt_of_get hq)]; exact hq
        · refine hvv _ z ?_
          rw [flat_at hw hv q (by rw [← hs.1]; exact lt_of_get hz)]; exact hz
        · rw [Nat.add_assoc]; exact hc _ (by rw [hs.1] at hq; omega)
        · rw [hs.1] at h0 ⊢
          have := hlim (by omega)
          omega
    · exact hs.elim
  · rename_i id off m z kk n h1 h2
    obtain ⟨⟨hn0, hn1, rfl⟩, hs⟩ := hs
    have hx' := ev_sound hx he h1
    have hi' := ev_sound hi he h2
    generalize hcx : a.eval x = cx at hx'
    generalize hci : a.eval i = ci at hi'
    cases hi'
    cases hx' with
    | arr _ _ _ _ b cap off' hr hcap hoff hroom =>
      have := hoff (by omega)
      subst this
      exact Ok.pure (v := .pointer (some ⟨b, off' + n.toNat * z, none⟩)) (by simp [execOp, ho, hcx, hci, hrun _ _ _ _ _ hn0 hn1, Addr.add_lit]) hh (.ptr _ _ b hr) hs
    | arrn _ _ _ => omega
    | arr0 _ _ _ b o => omega
  · exact hs.elim

theorem ok_iaddrarr {t et : TypeId} {sz m : Nat} {x i : Operand} {y j : X} (ho : o.op = .indexAddr t x i) (ht : P.underlying t = some (.array m et)) (hsz : tsize P et = some sz) (hx : cX x = some y) (hi : cX i = some j)
    (hs : hstep base (.iaddrarr m sz y j) e h k) (hh : HeapRel K h w) (he : EnvRel K w e a.tmps) : Ok P o a K w k := by
  have hrun : ∀ (ad : Addr) (kk : IntKind) (n : Int), 0 ≤ n → n < m → (Instr.indexAt t (.pointer (some ad)) (.int kk n)).run P w = .ok (.pointer (some (ad.add (n.toNat * sz)))) w := by
    intro ad kk n h0 h1
    simp [Instr.indexAt, asIntOf, run_underlying ht, h0, h1, run_sizeOf' hsz, Instr.sureAddr]
  simp only [hstep] at hs
  split at hs
  · rename_i id off kk n h1 h2
    obtain ⟨⟨hn0, hn1⟩, hs⟩ := hs
    have hx' := ev_sound hx he h1
    have hi' := ev_sound hi he h2
    generalize hcx : a.eval x = cx at hx'
    generalize hci : a.eval i = ci at hi'
    cases hi'
    cases hx' with
    | ptr _ _ b hr => exact Ok.pure (v := .pointer (some ⟨b, off + n.toNat * sz, none⟩)) (by simp [execOp, ho, hcx, hci, hrun _ _ _ hn0 hn1, Addr.add_lit]) hh (.ptr _ _ b hr) hs
  · rename_i cs kk n h1 h2
    obtain ⟨⟨hn0, hn1, hn2⟩, hs⟩ := hs
    have hx' := ev_sound hx he h1
    have hi' := ev_sound hi he h2
    generalize hcx : a.eval x = cx at hx'
    generalize hci : a.eval i = ci at hi'
    cases hi'
    cases hx' with
    | rptr _ b of vals hleaf hv hc hl =>
      exact Ok.pure (v := .pointer (some ⟨b, of + n.toNat * sz, none⟩)) (by simp [execOp, ho, hcx, hci, hrun _ _ _ hn0 hn1, Addr.add_lit]) hh
        (.rptr _ b _ (fun q => vals (n.toNat * sz + q)) (fun z hz => hleaf z (List.mem_of_mem_drop hz)) (fun q z hz => by rw [List.getElem?_drop] at hz; exact hv _ z hz)
          (fun q hq => by rw [Nat.add_assoc]; exact hc _ (by simp at hq; omega)) (fun h0 => by simp at h0 ⊢; have := hl (by omega); omega)) hs
  · exact hs.elim

theorem ok_index {t : TypeId} {x i : Operand} {y j : X} (ho : o.op = .index t x i) (ht : P.underlying t = some .string) (hx : cX x = some y) (hi : cX i = some j)
    (hs : hstep base (.index y j) e h k) (hh : HeapRel K h w) (he : EnvRel K w e a.tmps) : Ok P o a K w k := by
  simp only [hstep] at hs
  split at hs
  · rename_i s kk n h1 h2
    obtain ⟨⟨hn0, hn1⟩, hs⟩ := hs
    have hx' := ev_sound hx he h1
    have hi' := ev_sound hi he h2
    generalize hcx : a.eval x = cx at hx'
    generalize hci : a.eval i = ci at hi'
    cases hi'
    cases hx'
    have hlt : n.toNat < s.length := by omega
    have hget : (ByteArray.mk s.toArray)[n.toNat]? = some (s.getD n.toNat 0) := by
      rw [getElem?_pos (ByteArray.mk s.toArray) n.toNat (by rw [size_mk]; exact hlt)]
      simp [ByteArray.getElem_eq_getElem_data, List.getD_eq_getElem?_getD, hlt]
    exact Ok.pure (v := .int .u8 (s.getD n.toNat 0).toNat) (by simp [execOp, ho, hcx, hci, Instr.index, asIntOf, run_underlying ht, hn0, hget]) hh (.int _ _) hs
  · exact hs.elim

theorem ok_indexarr {t et : TypeId} {sz m : Nat} {n : Option Nat} {x i : Operand} {y j : X} (ho : o.op = .index t x i) (ht : P.underlying t = some (.array m et)) (hsz : tsize P et = some sz) (hag : tagg P et = some n) (hx : cX x = some y) (hi : cX i = some j)
    (hs : hstep base (.indexarr m sz n.isSome y j) e h k) (hh : HeapRel K h w) (he : EnvRel K w e a.tmps) : Ok P o a K w k := by
  have hn' : (if n.isSome = true then some sz else none) = n := by
    cases n with
    | none => rfl
    | some q =>
      obtain ⟨_, _, _, h⟩ := tagg_some hag
      rw [hsz] at h
      injection h with h
      subst h; rfl
  simp only [hstep, hn'] at hs
  split at hs
  · rename_i cs kk q h1 h2
    obtain ⟨⟨hn0, hn1⟩, hs⟩ := hs
    split at hs
    · rename_i v hat
      have hx' := ev_sound hx he h1
      have hi' := ev_sound hi he h2
      generalize hcx : a.eval x = cx at hx'
      generalize hci : a.eval i = ci at hi'
      cases hi'
      cases hx' with
      | agg _ vs hl hleaf hv =>
        obtain ⟨u, hr, hV⟩ := run_part (P := P) (K := K) (w := w) hag (vs := vs.toArray) (by simpa using hl) hleaf (fun j z v hz hvz => hv j z v hz (by simpa using hvz)) hat
        exact Ok.pure (v := u) (by simp [execOp, ho, hcx, hci, Instr.index, asIntOf, run_underlying ht, hn0, hn1, run_sizeOf' hsz, hr]) hh hV hs
    · exact hs.elim
  · exact hs.elim

theorem run_builtin {b : Builtin} {args : Array Operand} {ts : Array TypeId} (ho : o.op = .call { callee := .builtin b, args, argTypes := ts }) : ∃ cs, (execOp a.eval o).run P w = (builtin b ts o.type cs (args.map a.eval)).run P w := by
  refine ⟨args.map fun | .const _ => true | _ => false, ?_⟩
  simp only [execOp, ho, resolve, Sem.run_bind, Sem.run_pure, Result.andThen_ok, invoke]
  rfl

theorem ok_len_str {ts : Array TypeId} {t0 : TypeId} {x : Operand} {y : X} (ho : o.op = .call { callee := .builtin .len, args := #[x], argTypes := ts }) (h0 : ts[0]? = some t0) (ht : P.underlying t0 = some .string) (hx : cX x = some y)
    (hs : hstep base (.len true y) e h k) (hh : HeapRel K h w) (he : EnvRel K w e a.tmps) : Ok P o a K w k := by
  obtain ⟨cs, hr⟩ := run_builtin (P := P) (w := w) (a := a) ho
  simp only [hstep] at hs
  cases hev : y.ev e with
  | none => rw [hev] at hs; exact hs.elim
  | some z =>
  rw [hev] at hs
  cases z <;> try exact hs.elim
  rename_i s
  have hx' := ev_sound hx he hev
  generalize hcx : a.eval x = cx at hx'
  cases hx'
  exact Ok.pure (v := .int .i64 s.length) (by rw [hr]; simp [builtin, Builtin.len_, h0, hcx, run_underlying ht, goInt, size_mk]) hh (.int _ _) hs
theorem ok_len_list {ts : Array TypeId} {t0 et : TypeId} {x : Operand} {y : X} (ho : o.op = .call { callee := .builtin .len, args := #[x], argTypes := ts }) (h0 : ts[0]? = some t0) (ht : P.underlying t0 = some (.slice et)) (hx : cX x = some y)
    (hs : hstep base (.len false y) e h k) (hh : HeapRel K h w) (he : EnvRel K w e a.tmps) : Ok P o a K w k := by
  obtain ⟨cs, hr⟩ := run_builtin (P := P) (w := w) (a := a) ho
  simp only [hstep] at hs
  cases hev : y.ev e with
  | none => rw [hev] at hs; exact hs.elim
  | some z =>
  rw [hev] at hs
  cases z <;> try exact hs.elim
  · rename_i l tok
    have hx' := ev_sound hx he hev
    generalize hcx : a.eval x = cx at hx'
    cases hx' with
    | list0 _ _ ad => exact Ok.pure (v := .int .i64 0) (by rw [hr]; simp [builtin, Builtin.len_, h0, hcx, run_underlying ht, goInt]) hh (.int _ _) hs
    | nil _ _ => exact Ok.pure (v := .int .i64 0) (by rw [hr]; simp [builtin, Builtin.len_, h0, hcx, run_underlying ht, goInt]) hh (.int _ _) hs
    | list _ _ b of cap sz' vals hw hleaf hvv hc hlim hcap htk => exact Ok.pure (v := .int .i64 l.length) (by rw [hr]; simp [builtin, Builtin.len_, h0, hcx, run_underlying ht, goInt]) hh (.int _ _) hs
  · rename_i id off n z
    have hx' := ev_sound hx he hev
    generalize hcx : a.eval x = cx at hx'
    cases hx' with
    | arr _ _ _ _ b cap off' hr' hcap hoff hroom => exact Ok.pure (v := .int .i64 n) (by rw [hr]; simp [builtin, Builtin.len_, h0, hcx, run_underlying ht, goInt]) hh (.int _ _) hs
    | arrn _ _ _ => exact Ok.pure (v := .int .i64 0) (by rw [hr]; simp [builtin, Builtin.len_, h0, hcx, run_underlying ht, goInt]) hh (.int _ _) hs
    | arr0 _ _ _ b o => exact Ok.pure (v := .int .i64 0) (by rw [hr]; simp [builtin, Builtin.len_, h0, hcx, run_underlying ht, goInt]) hh (.int _ _) hs

theorem ok_lenc {ts : Array TypeId} {t0 : TypeId} {x : Operand} {n : Nat} (ho : o.op = .call { callee := .builtin .len, args := #[x], argTypes := ts }) (h0 : ts[0]? = some t0) (ht : (∃ et, P.underlying t0 = some (.array n et)) ∨ ∃ ar et, P.underlying t0 = some (.pointer ar) ∧ P.underlying ar = some (.array n et))
    (hs : hstep base (.lenc n) e h k) (hh : HeapRel K h w) (he : EnvRel K w e a.tmps) : Ok P o a K w k := by
  obtain ⟨cs, hr⟩ := run_builtin (P := P) (w := w) (a := a) ho
  refine Ok.pure (v := .int .i64 n) ?_ hh (.int _ _) hs
  rw [hr]
  rcases ht with ⟨et, ht⟩ | ⟨ar, et, ht, ht2⟩
  · simp [builtin, Builtin.len_, h0, run_underlying ht, goInt]
  · simp [builtin, Builtin.len_, h0, run_underlying ht, run_underlying ht2, goInt]

theorem run_minmax {f : Value → Value → Sem Value} {g : Int → Int → Int} (hf : ∀ kk x y, f (.int kk x) (.int kk y) = pure (.int kk (g x y))) (i : IntKind) : ∀ (r : List HV) (us : List Value) (x : Int), r.length = us.length → (∀ v ∈ r, ∃ b, v = .int i b) → (∀ (j : Nat) (v : HV) (u : Value), r[j]? = some v → us[j]? = some u → V K w v u) →
    (us.foldlM f (.int i x)).run P w = .ok (.int i (foldInt g x r)) w
  | [], [], x, _, _, _ => by simp [foldInt]
  | v :: r, u :: us, x, hl, hk, hv => by
    obtain ⟨b, rfl⟩ := hk v List.mem_cons_self
    have := hv 0 _ u rfl rfl
    cases this
    rw [List.foldlM_cons, hf]
    simp only [Sem.run_bind, Sem.run_pure, Result.andThen_ok, foldInt, List.foldl_cons]
    exact run_minmax hf i r us _ (by simpa using hl) (fun v hv' => hk v (List.mem_cons_of_mem _ hv')) (fun j v u h1 h2 => hv (j + 1) v u h1 h2)
  | [], _ :: _, _, hl, _, _ => by simp at hl
  | _ :: _, [], _, hl, _, _ => by simp at hl

theorem ok_minmax {isMax : Bool} {ts : Array TypeId} {xs : Array Operand} {ys : List X} (ho : o.op = .call { callee := .builtin (if isMax then .max else .min), args := xs, argTypes := ts }) (hx : xs.toList.mapM cX = some ys)
    (hs : hstep base (if isMax then .max ys else .min ys) e h k) (hh : HeapRel K h w) (he : EnvRel K w e a.tmps) : Ok P o a K w k := by
  have key : ∀ {i : IntKind} {x : Int} {r : List HV}, evs e ys = some (.int i x :: r) → (∀ v ∈ r, ∃ b, v = .int i b) → ∀ (f : Value → Value → Sem Value) (g : Int → Int → Int), (∀ kk x y, f (.int kk x) (.int kk y) = pure (.int kk (g x y))) →
      ∃ u us, xs.toList.map a.eval = u :: us ∧ u = .int i x ∧ (us.foldlM f u).run P w = .ok (.int i (foldInt g x r)) w := by
    intro i x r hev hk f g hf
    obtain ⟨h1, h2⟩ := evs_sound he hx hev
    cases hxs : xs.toList with
    | nil => rw [hxs] at h1; simp at h1
    | cons z zs =>
      rw [hxs] at h1 h2
      have h0 := h2 0 _ z rfl rfl
      generalize hu : a.eval z = u at h0
      cases h0
      refine ⟨.int i x, zs.map a.eval, by simp [hu], rfl, run_minmax (K := K) (w := w) hf i r (zs.map a.eval) x (by simp at h1; simpa using h1) hk (fun j v u hv hu => ?_)⟩
      simp only [List.getElem?_map, Option.map_eq_some_iff] at hu
      obtain ⟨q, hq, rfl⟩ := hu
      exact h2 (j + 1) v q hv hq
  cases isMax with
  | false =>
    simp only [hstep, Bool.false_eq_true, if_false] at hs ho
    obtain ⟨cs, hr⟩ := run_builtin (P := P) (w := w) (a := a) ho
    split at hs
    · rename_i i x r hev
      obtain ⟨u, us, h3, h4, h5⟩ := key hev hs.1 Builtin.min2 minInt (fun kk x y => rfl)
      refine Ok.pure (v := .int i _) ?_ hh (.int _ _) hs.2
      rw [hr]
      subst h4
      simp [builtin, Builtin.min_, h3, h5]
    · exact hs.elim
  | true =>
    simp only [hstep, if_true] at hs ho
    obtain ⟨cs, hr⟩ := run_builtin (P := P) (w := w) (a := a) ho
    split at hs
    · rename_i i x r hev
      obtain ⟨u, us, h3, h4, h5⟩ := key hev hs.1 Builtin.max2 maxInt (fun kk x y => rfl)
      refine Ok.pure (v := .int i _) ?_ hh (.int _ _) hs.2
      rw [hr]
      subst h4
      simp [builtin, Builtin.max_, h3, h5]
    · exact hs.elim
end
end Go.Hw
