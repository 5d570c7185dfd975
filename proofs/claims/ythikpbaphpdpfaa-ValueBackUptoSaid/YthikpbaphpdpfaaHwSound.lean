/- What the small code says of an operation holds of the model's. -/
import Derived.Test.YthikpbaphpdpfaaHwIter
set_option linter.unusedVariables false
set_option linter.unusedSimpArgs false
namespace Go.Hw
open Go

variable {P : Program}

theorem bind_some {α β : Type} {x : Option α} {f : α → Option β} {y : β} (h : x.bind f = some y) : ∃ z, x = some z ∧ f z = some y := Option.bind_eq_some_iff.1 h

section
variable {o : Oper} {a : Act} {K : GK} {w : World} {k : HV → Heap → Prop} {e : Env} {h : Heap} (base : Nat)

theorem sound_slice {t : TypeId} {x : Operand} {lo hi mx : Option Operand} {r : Option Nat} {m : Bool} {ho : O} (hop : o.op = .slice t x lo hi mx) (hc : cOp P r m o = some (.op ho)) (hs : hstep base ho e h k) (hh : HeapRel K h w) (he : EnvRel K w e a.tmps) : Ok P o a K w k := by
  simp only [cOp, hop, Option.map_eq_some_iff, Option.bind_eq_bind, OC.op.injEq, exists_eq_right] at hc
  split at hc
  · rename_i n et ht
    split at hc
    · obtain ⟨sz, h1, hc⟩ := bind_some hc
      obtain ⟨y, h2, hc⟩ := bind_some hc
      obtain ⟨lo', h3, hc⟩ := bind_some hc
      obtain ⟨hi', h4, hc⟩ := bind_some hc
      injection hc with hc
      subst hc
      exact ok_slicearr base hop ht h1 h2 h3 h4 hs hh he
    · cases hc
  · rename_i ht
    split at hc
    · obtain ⟨y, h2, hc⟩ := bind_some hc
      obtain ⟨lo', h3, hc⟩ := bind_some hc
      obtain ⟨hi', h4, hc⟩ := bind_some hc
      injection hc with hc
      subst hc
      simp only [hstep] at hs
      split at hs
      · rename_i s hev
        split at hs
        · rename_i p q hp hq
          exact ok_slice_str hop ht h2 h3 h4 hev hp hq hs.1 hs.2 hh he
        · exact hs.elim
      · exact hs.elim
    · cases hc
  · rename_i et ht
    obtain ⟨sz, h1, hc⟩ := bind_some hc
    obtain ⟨y, h2, hc⟩ := bind_some hc
    obtain ⟨lo', h3, hc⟩ := bind_some hc
    obtain ⟨hi', h4, hc⟩ := bind_some hc
    obtain ⟨mx', h5, hc⟩ := bind_some hc
    injection hc with hc
    subst hc
    simp only [hstep] at hs
    split at hs
    · rename_i l tok hev
      cases mx with
      | none =>
        simp [cOpt] at h5
        subst h5
        dsimp only at hs
        split at hs
        · rename_i p q hp hq
          exact ok_slice_list hop ht h1 h2 h3 h4 hev hp hq hs.1 hs.2 hh he
        · exact hs.elim
      | some m0 =>
        simp only [cOpt, Option.map_eq_some_iff] at h5
        obtain ⟨m', h5, rfl⟩ := h5
        dsimp only at hs
        split at hs
        · rename_i p q c hp hq hcc
          cases hi with
          | none =>
            simp [cOpt] at h4
            subst h4
            simp at hq
          | some hi0 =>
            simp only [cOpt, Option.map_eq_some_iff] at h4
            obtain ⟨hi', h4, rfl⟩ := h4
            exact ok_slice_list3 hop ht h1 h2 h3 h4 h5 hev hp (by simpa using hq) hcc hs.1 hs.2 hh he
        · exact hs.elim
    · rename_i id off n z hev
      cases mx with
      | none =>
        simp [cOpt] at h5
        subst h5
        dsimp only at hs
        split at hs
        · rename_i p q hp hq
          exact ok_slice_arr hop ht h1 h2 h3 h4 hev hp hq hs.1 hs.2 hh he
        · exact hs.elim
      | some m0 =>
        simp only [cOpt, Option.map_eq_some_iff] at h5
        obtain ⟨m', h5, rfl⟩ := h5
        exact hs.elim
    · exact hs.elim
  · cases hc

theorem sound_builtin {b : Builtin} {args : Array Operand} {ts : Array TypeId} {ys : List X} {t0 : TypeId} {m : Bool} {ho : O} (hop : o.op = .call { callee := .builtin b, args := args, argTypes := ts }) (hys : args.toList.mapM cX = some ys) (ht0 : ts[0]? = some t0)
    (hc0 : cBuiltin P m b ys ts = some ho) (hs : hstep base ho e h k) (hh : HeapRel K h w) (he : EnvRel K w e a.tmps) : Ok P o a K w k := by
    unfold cBuiltin at hc0
    obtain ⟨t0', ht0', hc⟩ := bind_some hc0
    clear hc0
    rw [ht0] at ht0'
    injection ht0' with ht0'
    subst ht0'
    have one : ∀ {y : X}, ys = [y] → ∃ x, args = #[x] ∧ cX x = some y := by
      intro y hy
      subst hy
      cases hl : args.toList with
      | nil => rw [hl] at hys; simp at hys
      | cons x r =>
        rw [hl] at hys
        obtain ⟨h1, h2⟩ := mapM_some hys
        cases r with
        | nil => exact ⟨x, by apply Array.ext'; simpa using hl, h2 0 x y rfl rfl⟩
        | cons _ _ => simp at h1
    have two : ∀ {y z : X}, ys = [y, z] → ∃ x u, args = #[x, u] ∧ cX x = some y ∧ cX u = some z := by
      intro y z hy
      subst hy
      cases hl : args.toList with
      | nil => rw [hl] at hys; simp at hys
      | cons x r =>
        rw [hl] at hys
        obtain ⟨h1, h2⟩ := mapM_some hys
        cases r with
        | nil => simp at h1
        | cons u r =>
          cases r with
          | nil => exact ⟨x, u, by apply Array.ext'; simpa using hl, h2 0 x y rfl rfl, h2 1 u z rfl rfl⟩
          | cons _ _ => simp at h1
    split at hc
    · -- len
      rename_i y
      obtain ⟨x, rfl, hx⟩ := one rfl
      split at hc
      · injection hc with hc; subst hc
        exact ok_len_str base hop ht0 (by assumption) hx hs hh he
      · injection hc with hc; subst hc
        exact ok_len_list base hop ht0 (by assumption) hx hs hh he
      · injection hc with hc; subst hc
        exact ok_maplen base hop ht0 (by assumption) hx hs hh he
      · injection hc with hc; subst hc
        exact ok_lenc base hop ht0 (.inl ⟨_, by assumption⟩) hs hh he
      · rename_i ar har
        split at hc
        · injection hc with hc; subst hc
          exact ok_lenc base hop ht0 (.inr ⟨_, _, har, by assumption⟩) hs hh he
        · cases hc
      · cases hc
    · -- append
      rename_i y z
      obtain ⟨x, u, rfl, hx, hu⟩ := two rfl
      obtain ⟨t1, ht1, hc⟩ := bind_some hc
      split at hc
      · rename_i et het
        obtain ⟨sz, h1, hc⟩ := bind_some hc
        obtain ⟨by_, h2, hc⟩ := bind_some hc
        obtain ⟨zz, h3, hc⟩ := bind_some hc
        split at hc
        all_goals first
          | (cases hc; done)
          | (rename_i hu1
             split at hc
             · cases hc
             · rename_i hcond
               simp only [Bool.or_eq_true, beq_iff_eq, bne_iff_ne, ne_eq, not_or, Decidable.not_not] at hcond
               split at hc
               · injection hc with hc; subst hc; exact hs.elim
               · injection hc with hc; subst hc
                 exact ok_append base hop ht0 ht1 het hu1 (by first | exact .inl ⟨_, rfl⟩ | exact .inr rfl) h1 h2 h3 hcond.2 hcond.1.1 hcond.1.2 hx hu hs hh he)
      · cases hc
    · -- copy
      split at hc
      · obtain ⟨sz, h1, hc⟩ := bind_some hc
        injection hc with hc; subst hc; exact hs.elim
      · cases hc
    · -- delete
      rename_i y z
      obtain ⟨x, u, rfl, hx, hu⟩ := two rfl
      split at hc
      · rename_i kt et hkt
        obtain ⟨kd, hkd, rfl⟩ := Option.map_eq_some_iff.1 hc
        exact ok_mapdel base hop ht0 hkt hkd hx hu hs hh he
      · cases hc
    · injection hc with hc; subst hc
      exact ok_minmax (isMax := false) base hop hys (by simpa using hs) hh he
    · injection hc with hc; subst hc
      exact ok_minmax (isMax := true) base hop hys (by simpa using hs) hh he
    · cases hc

theorem sound_call {c : Call} {m : Bool} {ho : O} (hop : o.op = .call c) (hc : cCall P m c = some (.op ho)) (hs : hstep base ho e h k) (hh : HeapRel K h w) (he : EnvRel K w e a.tmps) : Ok P o a K w k := by
  obtain ⟨callee, args, ts⟩ := c
  unfold cCall at hc
  split at hc
  · rename_i b heq
    simp only at heq
    subst heq
    simp only [Option.map_eq_some_iff, OC.op.injEq, exists_eq_right, Option.bind_eq_bind] at hc
    obtain ⟨ys, hys, hc⟩ := bind_some hc
    have hc' := hc
    unfold cBuiltin at hc'
    obtain ⟨t0, ht0, _⟩ := bind_some hc'
    exact sound_builtin base hop hys ht0 hc hs hh he
  · obtain ⟨ys, hys, hc⟩ := bind_some hc
    cases hc
  · obtain ⟨f', hf, hc⟩ := bind_some hc
    obtain ⟨ys, hys, hc⟩ := bind_some hc
    cases hc
  · cases hc

theorem op_sound {r : Option Nat} {m : Bool} {ho : O} (hc : cOp P r m o = some (.op ho)) (hs : hstep base ho e h k) (hh : HeapRel K h w) (he : EnvRel K w e a.tmps) : Ok P o a K w k := by
  cases hop : o.op
  case slice t x lo hi mx => exact sound_slice base hop hc hs hh he
  all_goals simp only [cOp, hop, Option.map_eq_some_iff, Option.bind_eq_some_iff, Option.bind_eq_bind, Option.pure_def, OC.op.injEq, exists_eq_right, Option.some.injEq, reduceCtorEq] at hc
  case move x => obtain ⟨y, h1, rfl⟩ := hc; exact ok_mv base (.inl hop) h1 hs hh he
  case assign x => obtain ⟨y, h1, rfl⟩ := hc; exact ok_mv base (.inr hop) h1 hs hh he
  case pick c x y => obtain ⟨c', h1, x', h2, y', h3, rfl⟩ := hc; exact ok_pick base hop h1 h2 h3 hs hh he
  case alloc t => obtain ⟨z, h1, rfl⟩ := hc; exact ok_alloc base hop h1 hs hh he
  case box t x => obtain ⟨n, h1, y, h2, rfl⟩ := hc; exact ok_box base hop h1 h2 hs hh he
  case build t parts =>
    obtain ⟨z, h1, hc⟩ := hc
    split at hc
    · rename_i fs hfs
      obtain ⟨ns, h0, hc⟩ := bind_some hc
      obtain ⟨ps, h2, hc⟩ := bind_some hc
      injection hc with hc; subst hc
      exact ok_build_struct base hop h1 hfs h0 h2 hs hh he
    · rename_i n et het
      obtain ⟨sz, h3, hc⟩ := bind_some hc
      obtain ⟨ps, h2, hc⟩ := bind_some hc
      injection hc with hc; subst hc
      exact ok_build_array base hop h1 het h3 h2 hs hh he
    · cases hc
  case buildSlice t len parts =>
    split at hc
    · rename_i et het
      obtain ⟨n, h1, hc⟩ := bind_some hc
      obtain ⟨z, h2, hc⟩ := bind_some hc
      obtain ⟨xs, h3, hc⟩ := bind_some hc
      split at hc
      · rename_i hcond
        simp only [Bool.and_eq_true, bne_iff_ne, ne_eq, beq_iff_eq, decide_eq_true_eq] at hcond
        injection hc with hc; subst hc
        exact ok_mklist base hop het h1 hcond.1.1.1 h2 hcond.1.1.2 h3 hcond.1.2 hcond.2 hs hh he
      · cases hc
    · cases hc
  case insert t mp key v =>
    split at hc
    · rename_i kt et hkt
      obtain ⟨kd, hkd, hc⟩ := bind_some hc
      obtain ⟨m', h1, hc⟩ := bind_some hc
      obtain ⟨k', h2, hc⟩ := bind_some hc
      obtain ⟨v', h3, hc⟩ := bind_some hc
      injection hc with hc; subst hc
      exact ok_mapset base (.inr hop) hkt hkd h1 h2 h3 hs hh he
    · cases hc
  case mapUpdate t mp key v =>
    split at hc
    · rename_i kt et hkt
      obtain ⟨kd, hkd, hc⟩ := bind_some hc
      obtain ⟨m', h1, hc⟩ := bind_some hc
      obtain ⟨k', h2, hc⟩ := bind_some hc
      obtain ⟨v', h3, hc⟩ := bind_some hc
      injection hc with hc; subst hc
      exact ok_mapset base (.inl hop) hkt hkd h1 h2 h3 hs hh he
    · cases hc
  case load t x => obtain ⟨n, h1, y, h2, rfl⟩ := hc; exact ok_load base hop h1 h2 hs hh he
  case store t x v => obtain ⟨n, h1, y, h2, z, h3, rfl⟩ := hc; exact ok_store base hop h1 h2 h3 hs hh he
  case nilCheck x => obtain ⟨y, h1, rfl⟩ := hc; exact ok_nilck base hop h1 hs hh he
  case binOp op t x y yt =>
    unfold cBin at hc
    split at hc
    · split at hc
      · rename_i ms _ ht
        obtain ⟨y', h1, rfl⟩ := Option.map_eq_some_iff.1 hc
        exact ok_isnil (neg := false) base hop ht h1 hs hh he
      · obtain ⟨kd, h1, hc⟩ := bind_some hc
        obtain ⟨x', h2, hc⟩ := bind_some hc
        obtain ⟨y', h3, hc⟩ := bind_some hc
        injection hc with hc; subst hc
        by_cases hag : ∃ n, kd = .agg n
        · obtain ⟨n, rfl⟩ := hag
          exact ok_eqagg (neg := false) base hop h1 h2 h3 hs hh he
        · exact ok_eqv (neg := false) base hop h1 (fun n hn => hag ⟨n, hn⟩) h2 h3 hs hh he
    · split at hc
      · rename_i ms _ ht
        obtain ⟨y', h1, rfl⟩ := Option.map_eq_some_iff.1 hc
        exact ok_isnil (neg := true) base hop ht h1 hs hh he
      · obtain ⟨kd, h1, hc⟩ := bind_some hc
        obtain ⟨x', h2, hc⟩ := bind_some hc
        obtain ⟨y', h3, hc⟩ := bind_some hc
        injection hc with hc; subst hc
        by_cases hag : ∃ n, kd = .agg n
        · obtain ⟨n, rfl⟩ := hag
          exact ok_eqagg (neg := true) base hop h1 h2 h3 hs hh he
        · exact ok_eqv (neg := true) base hop h1 (fun n hn => hag ⟨n, hn⟩) h2 h3 hs hh he
    · rename_i hne1 hne2
      obtain ⟨x', h2, hc⟩ := bind_some hc
      obtain ⟨y', h3, hc⟩ := bind_some hc
      injection hc with hc; subst hc
      exact ok_bin base (fun h => hne1 h) (fun h => hne2 h) hop h2 h3 hs hh he
  case unOp op t x => obtain ⟨y, h1, rfl⟩ := hc; exact ok_un base hop h1 hs hh he
  case convert src dst x =>
    unfold cConv at hc
    obtain ⟨y, h1, hc⟩ := bind_some hc
    split at hc
    · injection hc with hc; subst hc
      exact ok_conv_int base hop (by assumption) (by assumption) h1 hs hh he
    · injection hc with hc; subst hc
      exact ok_conv_same base hop (by assumption) (by assumption) h1 hs hh he
    · rename_i et hs1 hd1
      split at hc
      · rename_i hm
        injection hc with hc; subst hc
        have hu8 : P.underlying et = some (.int .u8) := by
          cases hq : P.underlying et with
          | none => simp [hq] at hm
          | some d =>
            cases d with
            | int kk => cases kk <;> simp [hq] at hm; rfl
            | _ => simp [hq] at hm
        exact ok_toBytes base hop hs1 hd1 hu8 h1 hs hh he
      · cases hc
    · rename_i et hs1 hd1
      split at hc
      · rename_i hm
        injection hc with hc; subst hc
        have hu8 : P.underlying et = some (.int .u8) := by
          cases hq : P.underlying et with
          | none => simp [hq] at hm
          | some d =>
            cases d with
            | int kk => cases kk <;> simp [hq] at hm; rfl
            | _ => simp [hq] at hm
        exact ok_conv_ofBytes base hop hs1 hu8 hd1 h1 hs hh he
      · cases hc
    · cases hc
  case makeFunc fn first caps =>
    unfold cMkFunc at hc
    split at hc
    · split at hc
      · rename_i hf
        obtain ⟨ys, h1, hc⟩ := bind_some hc
        injection hc with hc; subst hc
        exact ok_mkfunc base hop (by simpa using hf) h1 hs hh he
      · cases hc
    · cases hc
  case makeMap t hint =>
    split at hc
    · injection hc with hc; subst hc
      exact ok_mkmap base hop hs hh he
    · cases hc
  case makeSlice t l c =>
    split at hc
    · rename_i et het
      obtain ⟨sz, h1, hc⟩ := bind_some hc
      split at hc
      · cases hc
      · rename_i hsz0
        obtain ⟨by_, h2, hc⟩ := bind_some hc
        obtain ⟨z, h3, hc⟩ := bind_some hc
        obtain ⟨l', h4, hc⟩ := bind_some hc
        obtain ⟨c', h5, hc⟩ := bind_some hc
        injection hc with hc; subst hc
        exact ok_mkslice base hop het h1 h2 h3 (by simpa using hsz0) h4 h5 hs hh he
    · cases hc
  case fieldAddr t x i =>
    split at hc
    · rename_i fs hfs
      obtain ⟨f, h1, hc⟩ := bind_some hc
      obtain ⟨n, h2, hc⟩ := bind_some hc
      split at hc
      · cases hc
      · rename_i hn0
        obtain ⟨y, h3, hc⟩ := bind_some hc
        injection hc with hc; subst hc
        exact ok_faddr base hop hfs h1 h2 (by simpa using hn0) h3 hs hh he
    · cases hc
  case field t x i =>
    split at hc
    · rename_i fs hfs
      obtain ⟨f, h1, hc⟩ := bind_some hc
      obtain ⟨n, h2, hc⟩ := bind_some hc
      obtain ⟨y, h3, hc⟩ := bind_some hc
      injection hc with hc; subst hc
      exact ok_field base hop hfs h1 h2 h3 hs hh he
    · cases hc
  case indexAddr t x i =>
    split at hc
    · rename_i et het
      obtain ⟨n, h1, hc⟩ := bind_some hc
      obtain ⟨x', h2, hc⟩ := bind_some hc
      obtain ⟨i', h3, hc⟩ := bind_some hc
      injection hc with hc; subst hc
      exact ok_iaddr base hop het h1 h2 h3 hs hh he
    · rename_i m' et het
      split at hc
      · cases hc
      · obtain ⟨n, h1, hc⟩ := bind_some hc
        obtain ⟨x', h2, hc⟩ := bind_some hc
        obtain ⟨i', h3, hc⟩ := bind_some hc
        injection hc with hc; subst hc
        exact ok_iaddrarr base hop het h1 h2 h3 hs hh he
    · cases hc
  case index t x i =>
    split at hc
    · rename_i het
      obtain ⟨x', h2, hc⟩ := bind_some hc
      obtain ⟨i', h3, hc⟩ := bind_some hc
      injection hc with hc; subst hc
      exact ok_index base hop het h2 h3 hs hh he
    · rename_i m' et het
      obtain ⟨n, h1, hc⟩ := bind_some hc
      obtain ⟨ag, h4, hc⟩ := bind_some hc
      obtain ⟨x', h2, hc⟩ := bind_some hc
      obtain ⟨i', h3, hc⟩ := bind_some hc
      injection hc with hc; subst hc
      exact ok_indexarr base hop het h1 h4 h2 h3 hs hh he
    · cases hc
  case lookup t x i ok =>
    split at hc
    · rename_i kt et hkt
      obtain ⟨kd, hkd, hc⟩ := bind_some hc
      obtain ⟨z, h1, hc⟩ := bind_some hc
      obtain ⟨x', h2, hc⟩ := bind_some hc
      obtain ⟨i', h3, hc⟩ := bind_some hc
      injection hc with hc; subst hc
      exact ok_lookup base hop hkt hkd h1 h2 h3 hs hh he
    · cases hc
  case mapEntry t mp key =>
    split at hc
    · rename_i kt et hkt
      obtain ⟨kd, hkd, hc⟩ := bind_some hc
      obtain ⟨z, h1, hc⟩ := bind_some hc
      obtain ⟨x', h2, hc⟩ := bind_some hc
      obtain ⟨i', h3, hc⟩ := bind_some hc
      injection hc with hc; subst hc
      exact ok_mapentry base hop hkt hkd h1 h2 h3 hs hh he
    · cases hc
  case entryStore t mp st v => obtain ⟨m', h1, s', h2, v', h3, rfl⟩ := hc; exact ok_entryset base hop h1 h2 h3 hs hh he
  case range t x =>
    split at hc
    · rename_i ht
      obtain ⟨y, h1, hc⟩ := bind_some hc
      injection hc with hc; subst hc
      exact ok_range base hop (by simpa using ht) h1 hs hh he
    · rename_i kt et ht
      obtain ⟨y, h1, hc⟩ := bind_some hc
      injection hc with hc; subst hc
      exact ok_range base hop (by simpa using ⟨kt, et, ht⟩) h1 hs hh he
    · cases hc
  case next x st => obtain ⟨y, h1, rfl⟩ := hc; exact ok_next base hop h1 hs hh he
  case entry x => obtain ⟨y, h1, rfl⟩ := hc; exact ok_entry base hop h1 hs hh he
  case makeInterface t x =>
    obtain ⟨d, hd, hc⟩ := hc
    split at hc
    · cases hc
    · rename_i hn
      obtain ⟨y, h1, hc⟩ := bind_some hc
      injection hc with hc; subst hc
      exact ok_mkif base hop hd (fun ms hms => hn (by rw [hms]; rfl)) h1 hs hh he
  case extract x i => obtain ⟨y, h1, rfl⟩ := hc; exact ok_extract base hop h1 hs hh he
  case call c => exact sound_call base hop hc hs hh he
end
end Go.Hw
