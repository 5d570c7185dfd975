/- Operations that leave memory alone, continued: arithmetic, equality, conversions, slices, addresses. -/
import Derived.Test.YthikpbaphpdpfaaHwOps1
import Derived.Laws.Strings
import Derived.Laws.StructEq
import Derived.Laws.BytesArg
set_option linter.unusedVariables false
set_option linter.unusedSimpArgs false
namespace Go.Hw
open Go

variable {P : Program}

section
variable {o : Oper} {a : Act} {K : GK} {w : World} {k : HV → Heap → Prop} {e : Env} {h : Heap} (base : Nat)

theorem eqGuard_free (op : BinOp) (h1 : op ≠ .eql) (h2 : op ≠ .neq) (t : TypeId) (x y : Operand) (u v : Value) (w : World) : (eqGuard op t x y u v).run P w = .ok () w := by
  cases op <;> first | rfl | exact absurd rfl h1 | exact absurd rfl h2

theorem run_ibin {op : BinOp} (h1 : op ≠ .eql) (h2 : op ≠ .neq) (t : TypeId) (i j : IntKind) (x y : Int) (hk : i = j ∨ op = .shl ∨ op = .shr) (hok : ibinOk op y) {v : HV} (hv : ibin op i x y = some v) :
    ∃ u, (binOp op t (.int i x) (.int j y)).run P w = .ok u w ∧ V K w v u := by
  cases op <;> simp only [ibin, Option.some.injEq] at hv <;> subst hv <;> simp only [ibinOk] at hok
  case eql => exact absurd rfl h1
  case neq => exact absurd rfl h2
  case shl => exact ⟨_, by simp [binOp, Op.shift, show ¬ y < 0 by omega], .int _ _⟩
  case shr => exact ⟨_, by simp [binOp, Op.shift, show ¬ y < 0 by omega], .int _ _⟩
  all_goals
    have hk' : i = j := by rcases hk with hk | hk | hk <;> first | exact hk | cases hk
    subst hk'
    first
      | (refine ⟨_, ?_, .int _ _⟩; simp [binOp, Op.intArith]; done)
      | (refine ⟨_, ?_, .int _ _⟩; simp [binOp, Op.intDiv, hok]; done)
      | (refine ⟨_, ?_, .int _ _⟩; simp [binOp, Op.intBits]; done)
      | (refine ⟨_, ?_, .bool _⟩; simp [binOp, Op.intCmp]; done)

theorem size_mk (l : List UInt8) : (ByteArray.mk l.toArray).size = l.length := by simp [ByteArray.size]
theorem append_mk (a b : List UInt8) : (ByteArray.mk a.toArray) ++ (ByteArray.mk b.toArray) = ByteArray.mk (a ++ b).toArray := by
  ext1
  simp
theorem run_sbin {op : BinOp} (h1 : op ≠ .eql) (h2 : op ≠ .neq) (t : TypeId) (x y : List UInt8) (hok : sbinOk op x y) {v : HV} (hv : sbin op x y = some v) :
    ∃ u, (binOp op t (.string ⟨x.toArray⟩) (.string ⟨y.toArray⟩)).run P w = .ok u w ∧ V K w v u := by
  cases op <;> simp only [sbin, Option.some.injEq, reduceCtorEq] at hv <;> (try subst hv) <;> simp only [sbinOk] at hok
  case eql => exact absurd rfl h1
  case neq => exact absurd rfl h2
  case add =>
    refine ⟨.string ⟨(x ++ y).toArray⟩, ?_, .str _⟩
    simp only [binOp, Op.stringOp, size_mk, IntKind.max_i64]
    rw [if_neg (by omega), append_mk]
    rfl
  all_goals exact ⟨_, by simp [binOp, Op.stringOp], .bool _⟩

theorem ok_bin {op : BinOp} {t yt : TypeId} {x y : Operand} {x' y' : X} (h1 : op ≠ .eql) (h2 : op ≠ .neq) (ho : o.op = .binOp op t x y yt) (hx : cX x = some x') (hy : cX y = some y') (hs : hstep base (.bin op x' y') e h k) (hh : HeapRel K h w) (he : EnvRel K w e a.tmps) : Ok P o a K w k := by
  simp only [hstep] at hs
  split at hs
  · rename_i i p j q h3 h4
    have hx' := ev_sound hx he h3
    have hy' := ev_sound hy he h4
    generalize hcx : a.eval x = cx at hx'
    generalize hcy : a.eval y = cy at hy'
    cases hx'
    cases hy'
    obtain ⟨hk, hok, hs⟩ := hs
    split at hs
    · rename_i v hv
      obtain ⟨u, hr, hV⟩ := run_ibin (P := P) (K := K) (w := w) h1 h2 t i j p q hk hok hv
      exact Ok.pure (v := u) (by simp [execOp, ho, hcx, hcy, eqGuard_free op h1 h2, hr]) hh hV hs
    · exact hs.elim
  · rename_i p q h3 h4
    have hx' := ev_sound hx he h3
    have hy' := ev_sound hy he h4
    generalize hcx : a.eval x = cx at hx'
    generalize hcy : a.eval y = cy at hy'
    cases hx'
    cases hy'
    obtain ⟨hok, hs⟩ := hs
    split at hs
    · rename_i v hv
      obtain ⟨u, hr, hV⟩ := run_sbin (P := P) (K := K) (w := w) h1 h2 t p q hok hv
      exact Ok.pure (v := u) (by simp [execOp, ho, hcx, hcy, eqGuard_free op h1 h2, hr]) hh hV hs
    · exact hs.elim
  · exact hs.elim

theorem ok_un {op : UnOp} {t : TypeId} {x : Operand} {x' : X} (ho : o.op = .unOp op t x) (hx : cX x = some x') (hs : hstep base (.un op x') e h k) (hh : HeapRel K h w) (he : EnvRel K w e a.tmps) : Ok P o a K w k := by
  simp only [hstep] at hs
  split at hs
  · rename_i i n h3
    have hx' := ev_sound hx he h3
    generalize hcx : a.eval x = cx at hx'
    cases hx'
    split at hs
    · rename_i v hv
      cases op <;> simp only [iun, Option.some.injEq, reduceCtorEq] at hv
      · subst hv
        exact Ok.pure (v := .int i (i.wrap (-n))) (by simp [execOp, ho, hcx, Op.unary, Op.intArith]) hh (.int _ _) hs
      · subst hv
        exact Ok.pure (v := .int i _) (by simp [execOp, ho, hcx, Op.unary, Op.intBits]) hh (.int _ _) hs
    · exact hs.elim
  · rename_i t h3
    have hx' := ev_sound hx he h3
    generalize hcx : a.eval x = cx at hx'
    cases hx'
    obtain ⟨rfl, hs⟩ := hs
    exact Ok.pure (v := .bool (!t)) (by simp [execOp, ho, hcx, Op.unary]) hh (.bool _) hs
  · exact hs.elim

/-! ### equality -/
theorem str_eq (x y : List UInt8) : ((ByteArray.mk x.toArray) == (ByteArray.mk y.toArray)) = (x == y) := by
  rw [beq_toListBytes]; simp

theorem equal_unfold (t : TypeId) (x y : Value) : Op.equal t x y = Op.equalIn (9999 + 1) t x y := rfl
/-- Both operators out of what 'equal' comes to. -/
theorem run_eq_both {t : TypeId} {u v : Value} {b : Bool} {w : World} (h : (Op.equal t u v).run P w = .ok b w) (h1 : binOp .eql t u v = (do pure (.bool (← Op.equal t u v)))) (h2 : binOp .neq t u v = (do pure (.bool (!(← Op.equal t u v))))) :
    (binOp .eql t u v).run P w = .ok (.bool b) w ∧ (binOp .neq t u v).run P w = .ok (.bool (!b)) w := by
  rw [h1, h2]
  simp [h]

theorem run_slice_nil {t et : TypeId} (hu : P.underlying t = some (.slice et)) (ad : Option Addr) (n c : Nat) (w : World) : (Op.equal t (.slice ad n c) (.slice none 0 0)).run P w = .ok ad.isNone w := by
  rw [equal_unfold]
  generalize 9999 = dd
  simp only [Op.equalIn, Sem.run_bind, run_underlying hu, Result.andThen_ok]
  cases ad <;> rfl
theorem run_nil_slice {t et : TypeId} (hu : P.underlying t = some (.slice et)) (ad : Option Addr) (n c : Nat) (w : World) : (Op.equal t (.slice none 0 0) (.slice ad n c)).run P w = .ok ad.isNone w := by
  rw [equal_unfold]
  generalize 9999 = dd
  simp only [Op.equalIn, Sem.run_bind, run_underlying hu, Result.andThen_ok]
  cases ad <;> rfl
theorem run_eqs {t : TypeId} {kd : EqK} (ht : eqKind P t = some kd) (hk : ∀ n, kd ≠ .agg n) {x y : HV} {u v : Value} (hx : V K w x u) (hy : V K w y v) (hok : eqsOk kd x y) :
    ∃ b, HV.eqs x y b ∧ (∀ op x' y', (eqGuard op t x' y' u v).run P w = .ok () w) ∧ (binOp .eql t u v).run P w = .ok (.bool b) w ∧ (binOp .neq t u v).run P w = .ok (.bool (!b)) w := by
  unfold eqKind at ht
  split at ht
  case h_8 =>
    split at ht
    · obtain ⟨ks, _, rfl⟩ := Option.map_eq_some_iff.1 ht
      exact absurd rfl (hk ks)
    · cases ht
  case h_9 =>
    split at ht
    · obtain ⟨ks, _, rfl⟩ := Option.map_eq_some_iff.1 ht
      exact absurd rfl (hk _)
    · cases ht
  case h_10 => cases ht
  case h_1 =>
    rename_i hu
    injection ht with ht
    subst ht
    cases x <;> cases y <;> simp only [eqsOk] at hok
    cases hx; cases hy
    rename_i p q
    exact ⟨p == q, rfl, fun op x' y' => by simp [go_sem], run_eq_both (by rw [equal_unfold]; generalize 9999 = dd; simp only [Op.equalIn, Sem.run_bind, run_underlying hu, Result.andThen_ok, Sem.run_pure]) rfl rfl⟩
  case h_2 =>
    rename_i hu
    injection ht with ht
    subst ht
    cases x <;> cases y <;> simp only [eqsOk] at hok
    subst hok
    cases hx; cases hy
    exact ⟨_, rfl, fun op x' y' => by simp [go_sem], by simp [binOp, Op.intCmp], by simp [binOp, Op.intCmp, bne]⟩
  case h_3 =>
    rename_i hu
    injection ht with ht
    subst ht
    cases x <;> cases y <;> simp only [eqsOk] at hok
    cases hx; cases hy
    exact ⟨_, rfl, fun op x' y' => by simp [go_sem], by simp [binOp, Op.stringOp], by simp [binOp, Op.stringOp]⟩
  case h_7 =>
    rename_i hu
    injection ht with ht
    subst ht
    have key1 : ∀ ad n c, HV.eqs x y ad.isNone → u = .slice ad n c → v = .slice none 0 0 → ∃ b, HV.eqs x y b ∧ (∀ op x' y', (eqGuard op t x' y' u v).run P w = .ok () w) ∧ (binOp .eql t u v).run P w = .ok (.bool b) w ∧ (binOp .neq t u v).run P w = .ok (.bool (!b)) w := by
      rintro ad n c he rfl rfl
      exact ⟨_, he, fun op x' y' => by simp [go_sem], run_eq_both (run_slice_nil hu ad n c w) rfl rfl⟩
    have key2 : ∀ ad n c, HV.eqs x y ad.isNone → v = .slice ad n c → u = .slice none 0 0 → ∃ b, HV.eqs x y b ∧ (∀ op x' y', (eqGuard op t x' y' u v).run P w = .ok () w) ∧ (binOp .eql t u v).run P w = .ok (.bool b) w ∧ (binOp .neq t u v).run P w = .ok (.bool (!b)) w := by
      rintro ad n c he rfl rfl
      exact ⟨_, he, fun op x' y' => by simp [go_sem], run_eq_both (run_nil_slice hu ad n c w) rfl rfl⟩
    cases hx with
    | nilslice =>
      cases hy with
      | nil tok _ => exact key2 _ _ _ (fun h => absurd rfl h) rfl rfl
      | list0 tok _ ad => exact key2 _ _ _ (fun h => absurd rfl h) rfl rfl
      | list => exact key2 _ _ _ (fun _ => rfl) rfl rfl
      | arr => exact key2 _ _ _ (fun _ => rfl) rfl rfl
      | arrn => exact key2 _ _ _ (fun h => absurd rfl h) rfl rfl
      | arr0 => exact key2 _ _ _ (fun h => absurd rfl h) rfl rfl
      | _ => exact hok.elim
    | nil tok _ =>
      cases hy with
      | nilslice => exact key1 _ _ _ (fun h => absurd rfl h) rfl rfl
      | _ => exact hok.elim
    | list0 tok _ ad =>
      cases hy with
      | nilslice => exact key1 _ _ _ (fun h => absurd rfl h) rfl rfl
      | _ => exact hok.elim
    | list =>
      cases hy with
      | nilslice => exact key1 _ _ _ (fun _ => rfl) rfl rfl
      | _ => exact hok.elim
    | arr =>
      cases hy with
      | nilslice => exact key1 _ _ _ (fun _ => rfl) rfl rfl
      | _ => exact hok.elim
    | arrn =>
      cases hy with
      | nilslice => exact key1 _ _ _ (fun h => absurd rfl h) rfl rfl
      | _ => exact hok.elim
    | arr0 =>
      cases hy with
      | nilslice => exact key1 _ _ _ (fun h => absurd rfl h) rfl rfl
      | _ => exact hok.elim
    | _ => cases y <;> exact hok.elim
  all_goals
    rename_i hu
    injection ht with ht
    subst ht
    cases x <;> cases y <;> simp only [eqsOk] at hok <;> cases hx <;> cases hy
    all_goals
      first
      | exact ⟨true, rfl, fun op x' y' => by simp [go_sem], run_eq_both (by rw [equal_unfold]; generalize 9999 = dd; simp only [Op.equalIn, Sem.run_bind, run_underlying hu, Result.andThen_ok, Sem.run_pure]; first | done | rfl) rfl rfl⟩
      | (refine ⟨false, rfl, fun op x' y' => by simp [go_sem], run_eq_both ?_ rfl rfl⟩; rw [equal_unfold]; generalize 9999 = dd; simp only [Op.equalIn, Sem.run_bind, run_underlying hu, Result.andThen_ok, Sem.run_pure]; first | done | rfl)
      | (refine ⟨true, fun hn => absurd rfl hn, fun op x' y' => by simp [go_sem], run_eq_both ?_ rfl rfl⟩; rw [equal_unfold]; generalize 9999 = dd; simp only [Op.equalIn, Sem.run_bind, run_underlying hu, Result.andThen_ok, Sem.run_pure]; first | done | rfl)
      | (refine ⟨false, fun hn => rfl, fun op x' y' => by simp [go_sem], run_eq_both ?_ rfl rfl⟩; rw [equal_unfold]; generalize 9999 = dd; simp only [Op.equalIn, Sem.run_bind, run_underlying hu, Result.andThen_ok, Sem.run_pure]; first | done | rfl)

theorem ok_eqv {neg : Bool} {t yt : TypeId} {kd : EqK} {x y : Operand} {x' y' : X} (ho : o.op = .binOp (if neg then .neq else .eql) t x y yt) (hkd : eqKind P t = some kd) (hn : ∀ n, kd ≠ .agg n) (hx : cXe x = some x') (hy : cXe y = some y')
    (hs : hstep base (.eqv neg kd x' y') e h k) (hh : HeapRel K h w) (he : EnvRel K w e a.tmps) : Ok P o a K w k := by
  simp only [hstep] at hs
  split at hs
  · rename_i p q h3 h4
    have hx' := eve_sound hx he h3
    have hy' := eve_sound hy he h4
    have hs' : eqsOk kd p q ∧ ∀ t, HV.eqs p q t → k (.bool (if neg then !t else t)) h := by
      cases kd <;> first | exact hs | exact absurd rfl (hn _)
    obtain ⟨b, h5, h6, h7, h8⟩ := run_eqs (P := P) hkd hn hx' hy' hs'.1
    cases neg with
    | false => exact Ok.pure (v := .bool b) (by simp [execOp, ho, h6, h7]) hh (.bool _) (by simpa using hs'.2 b h5)
    | true => exact Ok.pure (v := .bool (!b)) (by simp [execOp, ho, h6, h8]) hh (.bool _) (by simpa using hs'.2 b h5)
  · exact hs.elim

/-! ### conversions -/
theorem run_conv_int {src dst : TypeId} {j i : IntKind} (hs : P.underlying src = some (.int j)) (hd : P.underlying dst = some (.int i)) (j' : IntKind) (n : Int) : (convert src dst (.int j' n)).run P w = .ok (.int i (i.wrap n)) w := by
  simp [convert, run_underlying hs, run_underlying hd, Conv.intToInt]
theorem run_conv_same {src dst : TypeId} (hs : P.underlying src = some .string) (hd : P.underlying dst = some .string) (s : ByteArray) : (convert src dst (.string s)).run P w = .ok (.string s) w := by
  simp [convert, run_underlying hs, run_underlying hd]

theorem flat_bytes {hs : List HV} (h : isBytes hs) : flat hs = hs := by
  induction hs with
  | nil => rfl
  | cons x r ih =>
    obtain ⟨n, rfl⟩ := h x List.mem_cons_self
    have := ih (fun y hy => h y (List.mem_cons_of_mem _ hy))
    simp only [flat, List.flatMap_cons, HV.cells] at this ⊢
    rw [this]; rfl
theorem strOf_eq (hs : List HV) : ∀ h : isBytes hs, strOf hs = (hs.map numOf).map fun n => UInt8.ofNat n.toNat := by
  intro h
  simp only [strOf, List.map_map]
  apply List.map_congr_left
  intro x hx
  obtain ⟨n, rfl⟩ := h x hx
  rfl
theorem run_ofBytes0 {src dst e : TypeId} (hs : P.underlying src = some (.slice e)) (he : P.underlying e = some (.int .u8)) (hd : P.underlying dst = some .string) (ad : Addr) : (convert src dst (.slice (some ad) 0 0)).run P w = .ok (.string ⟨(strOf []).toArray⟩) w := by
  have h0 : (loadCells ad 0).run P w = .ok #[] w := by
    have := run_loadCells w ad 0 (fun _ => (.bool false)) (P := P) (fun j hj => absurd hj (by omega))
    simpa using this
  simp only [convert, Sem.run_bind, run_underlying hs, run_underlying he, run_underlying hd, Result.andThen_ok, Conv.bytesToString, h0]
  rfl
theorem run_ofBytes {src dst e : TypeId} (hs : P.underlying src = some (.slice e)) (he : P.underlying e = some (.int .u8)) (hd : P.underlying dst = some .string) {hl : List HV} (hb : isBytes hl) {b off cap : Nat}
    (hc : ∀ (j : Nat) (x : HV), hl[j]? = some x → ∃ v, w.cell? ⟨b, off + j, none⟩ = some v ∧ V K w x v) :
    (convert src dst (.slice (some ⟨b, off, none⟩) hl.length cap)).run P w = .ok (.string ⟨(strOf hl).toArray⟩) w := by
  have := run_convert_bytes_arg (P := P) w src e hs he b off hl.length cap (hl.map numOf) (by simp) (fun i hi => by
    obtain ⟨x, hx⟩ := get_of_lt hi
    obtain ⟨n, rfl⟩ := hb x (List.mem_of_getElem? hx)
    obtain ⟨v, hv, hV⟩ := hc i _ hx
    cases hV
    rw [hv]
    simp [List.getD_eq_getElem?_getD, hx, numOf]) dst hd
  rw [this, strOf_eq hl hb]
  rfl

theorem ok_conv_int {src dst : TypeId} {j i : IntKind} {x : Operand} {y : X} (ho : o.op = .convert src dst x) (h1 : P.underlying src = some (.int j)) (h2 : P.underlying dst = some (.int i)) (hx : cX x = some y) (hs : hstep base (.conv (.int i) y) e h k) (hh : HeapRel K h w) (he : EnvRel K w e a.tmps) : Ok P o a K w k := by
  simp only [hstep] at hs
  split at hs
  · rename_i i' j' n h3 heq
    have hx' := ev_sound hx he heq
    generalize hcx : a.eval x = cx at hx'
    cases hx'
    injection h3 with h3
    subst h3
    exact Ok.pure (v := .int i (i.wrap n)) (by simp [execOp, ho, hcx, run_conv_int h1 h2]) hh (.int _ _) hs
  all_goals first | (rename_i h3 _; cases h3; done) | exact hs.elim

theorem ok_conv_same {src dst : TypeId} {x : Operand} {y : X} (ho : o.op = .convert src dst x) (h1 : P.underlying src = some .string) (h2 : P.underlying dst = some .string) (hx : cX x = some y) (hs : hstep base (.conv .same y) e h k) (hh : HeapRel K h w) (he : EnvRel K w e a.tmps) : Ok P o a K w k := by
  simp only [hstep] at hs
  cases heq : y.ev e with
  | none => rw [heq] at hs; exact hs.elim
  | some z =>
  rw [heq] at hs
  cases z <;> try exact hs.elim
  rename_i s
  have hx' := ev_sound hx he heq
  generalize hcx : a.eval x = cx at hx'
  cases hx'
  exact Ok.pure (v := .string ⟨s.toArray⟩) (by simp [execOp, ho, hcx, run_conv_same h1 h2]) hh (.str _) hs

theorem ok_conv_ofBytes {src dst et : TypeId} {x : Operand} {y : X} (ho : o.op = .convert src dst x) (h1 : P.underlying src = some (.slice et)) (h1' : P.underlying et = some (.int .u8)) (h2 : P.underlying dst = some .string) (hx : cX x = some y) (hs : hstep base (.conv .ofBytes y) e h k) (hh : HeapRel K h w) (he : EnvRel K w e a.tmps) : Ok P o a K w k := by
  simp only [hstep] at hs
  cases heq : y.ev e with
  | none => rw [heq] at hs; exact hs.elim
  | some z =>
  rw [heq] at hs
  cases z <;> try exact hs.elim
  · rename_i hl tok
    have hx' := ev_sound hx he heq
    generalize hcx : a.eval x = cx at hx'
    cases hx' with
    | nil _ _ =>
      exact Ok.pure (v := .string ⟨(strOf []).toArray⟩) (by simp [execOp, ho, hcx, convert, run_underlying h1, run_underlying h1', run_underlying h2, Conv.bytesToString, strOf]; rfl) hh (.str _) hs.2
    | list0 _ _ ad => exact Ok.pure (v := .string ⟨(strOf []).toArray⟩) (by simp [execOp, ho, hcx, run_ofBytes0 h1 h1' h2]) hh (.str _) hs.2
    | list _ _ b of cap sz vals hw hleaf hv hc hlim hcap ht =>
      have hf := flat_bytes hs.1
      have hr := run_ofBytes (P := P) (K := K) (w := w) (b := b) (off := of) (cap := cap) h1 h1' h2 hs.1 (fun j x hjx => ⟨_, hc j (by rw [hf]; exact lt_of_get hjx), hv j x (by rw [hf]; exact hjx)⟩)
      exact Ok.pure (v := .string ⟨(strOf hl).toArray⟩) (by simp [execOp, ho, hcx, hr]) hh (.str _) hs.2
  · rename_i id off n sz
    dsimp only at hs
    split at hs
    · rename_i cs hcs
      have hx' := ev_sound hx he heq
      generalize hcx : a.eval x = cx at hx'
      cases hx' with
      | arr _ _ _ _ b cap off' hr hcap hoff hroom =>
        obtain ⟨⟨h4, h5, h6⟩, hs⟩ := hs
        obtain ⟨c, et', fr, hb, hlen, _, hvs⟩ := heap_cells hh hr hcs
        have hl : ((cs.drop off).take n).length = n := by simp; omega
        have hrun := run_ofBytes (P := P) (K := K) (w := w) (b := b) (off := off') (cap := cap) h1 h1' h2 h6 (fun j x hjx => by
          rw [List.getElem?_take] at hjx
          split at hjx
          · rw [List.getElem?_drop] at hjx
            obtain ⟨_, v, h7, h8⟩ := hvs _ x hjx
            rw [hoff (by omega)]
            exact ⟨v, by rw [cell_of_row w b (off + j) c et' fr hb]; exact h7, h8⟩
          · cases hjx)
        rw [hl] at hrun
        exact Ok.pure (v := .string ⟨(strOf ((cs.drop off).take n)).toArray⟩) (by simp [execOp, ho, hcx, hrun]) hh (.str _) hs
      | arrn =>
        exact Ok.pure (v := .string ⟨(strOf []).toArray⟩) (by simp [execOp, ho, hcx, convert, run_underlying h1, run_underlying h1', run_underlying h2, Conv.bytesToString, strOf]; rfl) hh (.str _) (by simpa using hs.2)
      | arr0 _ _ _ b o =>
        have hrun := run_ofBytes (P := P) (K := K) (w := w) (b := b) (off := o) (cap := 0) (hl := []) h1 h1' h2 (by simp [isBytes]) (fun j x hjx => by simp at hjx)
        exact Ok.pure (v := .string ⟨(strOf []).toArray⟩) (by simp at hrun; simp [execOp, ho, hcx, hrun]) hh (.str _) (by simpa using hs.2)
    · exact hs.elim

theorem ok_mkfunc {f : FuncId} {first caps : Array Operand} {ys : List X} (ho : o.op = .makeFunc (.func f) first caps) (hf : first.size = 0) (hx : caps.toList.mapM cX = some ys) (hs : hstep base (.mkfunc f ys) e h k) (hh : HeapRel K h w) (he : EnvRel K w e a.tmps) : Ok P o a K w k := by
  simp only [hstep] at hs
  split at hs
  · rename_i vs hvs
    obtain ⟨h1, h2⟩ := evs_sound he hx hvs
    have hf' : first = #[] := Array.eq_empty_of_size_eq_zero hf
    have := V.func (K := K) (w := w) f (vs.map HV.strip1) (caps.toList.map a.eval) (by simpa using h1) (fun j y u hy hu => by
      simp only [List.getElem?_map, Option.map_eq_some_iff] at hy hu
      obtain ⟨z, hz, rfl⟩ := hu
      obtain ⟨y', hy', rfl⟩ := hy
      exact (h2 j y' z hy' hz).strip1)
    exact Ok.pure (v := .func (.func f) #[] (caps.toList.map a.eval).toArray) (by simp [execOp, ho, Instr.makeFunc, hf']; apply Array.ext'; simp) hh this hs
  · exact hs.elim

theorem ok_extract {x : Operand} {i : Nat} {y : X} (ho : o.op = .extract x i) (hx : cX x = some y) (hs : hstep base (.extract y i) e h k) (hh : HeapRel K h w) (he : EnvRel K w e a.tmps) : Ok P o a K w k := by
  simp only [hstep] at hs
  split at hs
  · rename_i vs hv
    split at hs
    · rename_i v hi
      have hx' := ev_sound hx he hv
      generalize hcx : a.eval x = cx at hx'
      cases hx' with
      | tuple _ us hn hvs =>
        obtain ⟨u, hu⟩ := get_of_lt (l := us) (j := i) (by rw [← hn]; exact lt_of_get hi)
        exact Ok.pure (v := u) (by simp [execOp, ho, hcx, Instr.extract, hu]) hh (hvs i v u hi hu) hs
    · exact hs.elim
  · exact hs.elim
end
end Go.Hw
