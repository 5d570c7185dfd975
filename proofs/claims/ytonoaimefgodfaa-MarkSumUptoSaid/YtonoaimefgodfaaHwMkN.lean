import Derived.Test.YtonoaimefgodfaaHwMkE
set_option linter.unusedVariables false
set_option linter.unusedSimpArgs false
namespace Go.Hw
open Go
section
variable {P : Program} {N m : Nat} {S D : CallP} {b : Nat} {r : List Op} {e e' : Env} {h h' : Heap} {Q : Env → Heap → Prop} {QQ : Ex → Env → Heap → Prop} {d : Nat} {x y z : X}
theorem a_mksl {zs : List HV} {sz by_ j id n : Nat} (hid : b + j = id) (hr : h[id]? = some .res) (hx : x.ev e = some (.int .i64 (n : Int))) (hy : y.ev e = some (.int .i64 (n : Int))) (hz : zs.length = sz) (hn : n ≤ 1000000 ∧ by_ ≤ 1000)
    (k : HO S b r ((d, .arr id 0 n sz) :: e) (h.set id (.cells (List.replicate n zs).flatten)) Q) : HO S b (⟨some d, .op (.mkslice (some j) sz by_ zs x y), none⟩ :: r) e h Q := by
  subst hid
  refine ⟨?_⟩
  simp only [hops, hcall, hstep, hx, hy, hnew, Int.toNat_natCast]
  refine ⟨⟨trivial, by omega, by omega, ?_, hz⟩, hr, k.out⟩
  have : n * by_ ≤ 1000000 * 1000 := Nat.mul_le_mul hn.1 hn.2
  have h2 : ((n * by_ : Nat) : Int) = (n : Int) * (by_ : Int) := by simp
  omega
theorem a_boxr {v : HV} {w j id : Nat} (hx : x.ev e = some v) (h1 : v.cells.length = w) (h2 : isTuple v = false) (hid : b + j = id) (hr : h[id]? = some .res) (k : HO S b r ((d, .ptr id 0) :: e) (h.set id (.cells v.cells)) Q) : HO S b (⟨some d, .op (.box (some j) w x), none⟩ :: r) e h Q := g_box_r hx h1 h2 hid hr rfl k
theorem flat_rep (n : Nat) (v : HV) : (List.replicate n [v]).flatten = List.replicate n v := by
  induction n with
  | zero => rfl
  | succ n ih => simp [List.replicate_succ, ih]
end
end Go.Hw
namespace Go.Hw.VK
open Go Go.Proofs
theorem flatI (l : List Int) : flat (l.map ii) = l.map ii := by
  induction l with
  | nil => rfl
  | cons a l ih =>
    have h : flat ((a :: l).map ii) = (ii a).cells ++ flat (l.map ii) := by simp [flat]
    rw [h, ih]
    rfl
theorem r47l {h : Heap} {R : Lay} {l : List Int} (hl : l ≠ []) (hlen : l.length ≤ 1000000) (hs : Sep h R) {Q : HV → Heap → Prop} (kk : ∀ (h' : Heap) (id : Nat), Sep h' ((id, coinO l) :: R) → Q (.arr id 0 l.length 1) h') : HCalls Try.prog 47 [ln (eInt .i64) l] h Q := by
  refine sc_func2 (rs := [.t 2]) Try.func47 rfl (by decide) (by kernel_rfl) (lb rfl) hk47m ?_
  show SC Try.prog Try.f47.ntmps _ hc47m _ [(0, ln (eInt .i64) l)] h
  unfold hc47m
  refine q_reg ?_
  repeat (first | refine a_op (fun _ => rfl) ?_ | refine a_load rfl (by assumption) rfl ?_ | refine a_load_at rfl (by assumption) (by assumption) ?_ | refine a_iaddr_at rfl rfl (by assumption) ?_ | refine a_iaddr_l rfl rfl (by assumption) rfl ?_ | refine st_load_r rfl rfl ?_ | refine a_cmp rfl rfl rfl ?_ | refine a_eqi rfl rfl ?_ | refine st_not rfl ?_ | refine st_pick_t rfl rfl rfl ?_ | refine st_pick_f rfl rfl rfl ?_ | refine st_g rfl ?_ | refine a_gtf rfl ?_ | refine a_gft rfl ?_ | refine a_gu rfl ?_ | refine a_mklist (ec rfl en) (mz mkn) ?_ | refine a_mid ?_)
  first | refine a_endq (by repeat (first | exact pr_nil | (apply pr_cons; rfl))) ?_ | refine a_end (by repeat (first | exact pr_nil | (apply pr_cons; rfl))) ?_
  refine sc_seq (q_reg ?_)
  repeat (first | refine a_op (fun _ => rfl) ?_ | refine a_load rfl (by assumption) rfl ?_ | refine a_load_at rfl (by assumption) (by assumption) ?_ | refine a_iaddr_at rfl rfl (by assumption) ?_ | refine a_iaddr_l rfl rfl (by assumption) rfl ?_ | refine st_load_r rfl rfl ?_ | refine a_cmp rfl rfl rfl ?_ | refine a_eqi rfl rfl ?_ | refine st_not rfl ?_ | refine st_pick_t rfl rfl rfl ?_ | refine st_pick_f rfl rfl rfl ?_ | refine st_g rfl ?_ | refine a_gtf rfl ?_ | refine a_gft rfl ?_ | refine a_gu rfl ?_ | refine a_mklist (ec rfl en) (mz mkn) ?_ | refine a_mid ?_)
  refine st_eqn rfl rfl (fun hc => absurd (List.map_eq_nil_iff.1 hc) hl) ?_
  repeat (first | refine a_op (fun _ => rfl) ?_ | refine a_load rfl (by assumption) rfl ?_ | refine a_load_at rfl (by assumption) (by assumption) ?_ | refine a_iaddr_at rfl rfl (by assumption) ?_ | refine a_iaddr_l rfl rfl (by assumption) rfl ?_ | refine st_load_r rfl rfl ?_ | refine a_cmp rfl rfl rfl ?_ | refine a_eqi rfl rfl ?_ | refine st_not rfl ?_ | refine st_pick_t rfl rfl rfl ?_ | refine st_pick_f rfl rfl rfl ?_ | refine st_g rfl ?_ | refine a_gtf rfl ?_ | refine a_gft rfl ?_ | refine a_gu rfl ?_ | refine a_mklist (ec rfl en) (mz mkn) ?_ | refine a_mid ?_)
  first | refine a_endq (by repeat (first | exact pr_nil | (apply pr_cons; rfl))) ?_ | refine a_end (by repeat (first | exact pr_nil | (apply pr_cons; rfl))) ?_
  refine s_cond_f rfl (sc_skip (sq_n (q_reg ?_)))
  refine a_mklist en (fun v hv => by simp at hv) ?_
  repeat (first | refine a_op (fun _ => rfl) ?_ | refine a_load rfl (by assumption) rfl ?_ | refine a_load_at rfl (by assumption) (by assumption) ?_ | refine a_iaddr_at rfl rfl (by assumption) ?_ | refine a_iaddr_l rfl rfl (by assumption) rfl ?_ | refine st_load_r rfl rfl ?_ | refine a_cmp rfl rfl rfl ?_ | refine a_eqi rfl rfl ?_ | refine st_not rfl ?_ | refine st_pick_t rfl rfl rfl ?_ | refine st_pick_f rfl rfl rfl ?_ | refine st_g rfl ?_ | refine a_gtf rfl ?_ | refine a_gft rfl ?_ | refine a_gu rfl ?_ | refine a_mklist (ec rfl en) (mz mkn) ?_ | refine a_mid ?_)
  refine g_apB0 (f := eInt .i64) (n := h.length) (l := l) (K := fun t => t = l) rfl rfl (asrc_list (enc_int .i64)) rfl ⟨by omega, fun _ h => h⟩ (fun t ht => ?_)
  subst ht
  repeat (first | refine a_op (fun _ => rfl) ?_ | refine a_load rfl (by assumption) rfl ?_ | refine a_load_at rfl (by assumption) (by assumption) ?_ | refine a_iaddr_at rfl rfl (by assumption) ?_ | refine a_iaddr_l rfl rfl (by assumption) rfl ?_ | refine st_load_r rfl rfl ?_ | refine a_cmp rfl rfl rfl ?_ | refine a_eqi rfl rfl ?_ | refine st_not rfl ?_ | refine st_pick_t rfl rfl rfl ?_ | refine st_pick_f rfl rfl rfl ?_ | refine st_g rfl ?_ | refine a_gtf rfl ?_ | refine a_gft rfl ?_ | refine a_gu rfl ?_ | refine a_mklist (ec rfl en) (mz mkn) ?_ | refine a_mid ?_)
  first | refine a_endq (by repeat (first | exact pr_nil | (apply pr_cons; rfl))) ?_ | refine a_end (by repeat (first | exact pr_nil | (apply pr_cons; rfl))) ?_
  refine sc_ret (x_ret _ rfl (kk _ h.length ?_))
  have := hs.new (coinO t)
  unfold GA
  rw [show flat (t.map (eInt .i64)) = t.map ii from flatI t]
  exact this
theorem r47a {h : Heap} {R : Lay} {l : List Int} {c : Nat} (hl : l ≠ []) (hlen : l.length ≤ 1000000) (hc : h[c]? = some (coinO l)) (hs : Sep h R) {Q : HV → Heap → Prop} (kk : ∀ (h' : Heap), Sep h' R → Q (ln (eInt .i64) l) h') : HCalls Try.prog 47 [.arr c 0 l.length 1] h Q := by
  refine sc_func2 (rs := [.t 2]) Try.func47 rfl (by decide) (by kernel_rfl) (lb rfl) hk47m ?_
  show SC Try.prog Try.f47.ntmps _ hc47m _ [(0, .arr c 0 l.length 1)] h
  unfold hc47m
  refine q_reg ?_
  repeat (first | refine a_op (fun _ => rfl) ?_ | refine a_load rfl (by assumption) rfl ?_ | refine a_load_at rfl (by assumption) (by assumption) ?_ | refine a_iaddr_at rfl rfl (by assumption) ?_ | refine a_iaddr_l rfl rfl (by assumption) rfl ?_ | refine st_load_r rfl rfl ?_ | refine a_cmp rfl rfl rfl ?_ | refine a_eqi rfl rfl ?_ | refine st_not rfl ?_ | refine st_pick_t rfl rfl rfl ?_ | refine st_pick_f rfl rfl rfl ?_ | refine st_g rfl ?_ | refine a_gtf rfl ?_ | refine a_gft rfl ?_ | refine a_gu rfl ?_ | refine a_mklist (ec rfl en) (mz mkn) ?_ | refine a_mid ?_)
  first | refine a_endq (by repeat (first | exact pr_nil | (apply pr_cons; rfl))) ?_ | refine a_end (by repeat (first | exact pr_nil | (apply pr_cons; rfl))) ?_
  refine sc_seq (q_reg ?_)
  repeat (first | refine a_op (fun _ => rfl) ?_ | refine a_load rfl (by assumption) rfl ?_ | refine a_load_at rfl (by assumption) (by assumption) ?_ | refine a_iaddr_at rfl rfl (by assumption) ?_ | refine a_iaddr_l rfl rfl (by assumption) rfl ?_ | refine st_load_r rfl rfl ?_ | refine a_cmp rfl rfl rfl ?_ | refine a_eqi rfl rfl ?_ | refine st_not rfl ?_ | refine st_pick_t rfl rfl rfl ?_ | refine st_pick_f rfl rfl rfl ?_ | refine st_g rfl ?_ | refine a_gtf rfl ?_ | refine a_gft rfl ?_ | refine a_gu rfl ?_ | refine a_mklist (ec rfl en) (mz mkn) ?_ | refine a_mid ?_)
  refine st_eqv rfl rfl (fun _ h => by cases h) trivial (fun t ht => ?_)
  have ht : t = false := ht (by intro h0; exact hl (List.eq_nil_of_length_eq_zero h0))
  subst ht
  repeat (first | refine a_op (fun _ => rfl) ?_ | refine a_load rfl (by assumption) rfl ?_ | refine a_load_at rfl (by assumption) (by assumption) ?_ | refine a_iaddr_at rfl rfl (by assumption) ?_ | refine a_iaddr_l rfl rfl (by assumption) rfl ?_ | refine st_load_r rfl rfl ?_ | refine a_cmp rfl rfl rfl ?_ | refine a_eqi rfl rfl ?_ | refine st_not rfl ?_ | refine st_pick_t rfl rfl rfl ?_ | refine st_pick_f rfl rfl rfl ?_ | refine st_g rfl ?_ | refine a_gtf rfl ?_ | refine a_gft rfl ?_ | refine a_gu rfl ?_ | refine a_mklist (ec rfl en) (mz mkn) ?_ | refine a_mid ?_)
  first | refine a_endq (by repeat (first | exact pr_nil | (apply pr_cons; rfl))) ?_ | refine a_end (by repeat (first | exact pr_nil | (apply pr_cons; rfl))) ?_
  refine s_cond_f rfl (sc_skip (sq_n (q_reg ?_)))
  refine a_mklist en (fun v hv => by simp at hv) ?_
  repeat (first | refine a_op (fun _ => rfl) ?_ | refine a_load rfl (by assumption) rfl ?_ | refine a_load_at rfl (by assumption) (by assumption) ?_ | refine a_iaddr_at rfl rfl (by assumption) ?_ | refine a_iaddr_l rfl rfl (by assumption) rfl ?_ | refine st_load_r rfl rfl ?_ | refine a_cmp rfl rfl rfl ?_ | refine a_eqi rfl rfl ?_ | refine st_not rfl ?_ | refine st_pick_t rfl rfl rfl ?_ | refine st_pick_f rfl rfl rfl ?_ | refine st_g rfl ?_ | refine a_gtf rfl ?_ | refine a_gft rfl ?_ | refine a_gu rfl ?_ | refine a_mklist (ec rfl en) (mz mkn) ?_ | refine a_mid ?_)
  have gA : h[c]? = some (GA (eInt .i64) l) := by
    unfold GA
    rw [show flat (l.map (eInt .i64)) = l.map ii from flatI l]
    exact hc
  refine g_apB0 (f := eInt .i64) (n := h.length) (l := l) (K := fun t => t = l) rfl rfl (asrc_arr (enc_int .i64) rfl gA) rfl ⟨by omega, fun _ h => h⟩ (fun t ht => ?_)
  subst ht
  repeat (first | refine a_op (fun _ => rfl) ?_ | refine a_load rfl (by assumption) rfl ?_ | refine a_load_at rfl (by assumption) (by assumption) ?_ | refine a_iaddr_at rfl rfl (by assumption) ?_ | refine a_iaddr_l rfl rfl (by assumption) rfl ?_ | refine st_load_r rfl rfl ?_ | refine a_cmp rfl rfl rfl ?_ | refine a_eqi rfl rfl ?_ | refine st_not rfl ?_ | refine st_pick_t rfl rfl rfl ?_ | refine st_pick_f rfl rfl rfl ?_ | refine st_g rfl ?_ | refine a_gtf rfl ?_ | refine a_gft rfl ?_ | refine a_gu rfl ?_ | refine a_mklist (ec rfl en) (mz mkn) ?_ | refine a_mid ?_)
  first | refine a_endq (by repeat (first | exact pr_nil | (apply pr_cons; rfl))) ?_ | refine a_end (by repeat (first | exact pr_nil | (apply pr_cons; rfl))) ?_
  have g1 : (h ++ [GA (eInt .i64) t])[h.length]? = some (GA (eInt .i64) t) := List.getElem?_concat_length
  refine sc_ret ⟨.inr rfl, _, rfl, [ln (eInt .i64) t], _, rfl, (w_freeze (e := argEnv [.arr h.length 0 t.length 1]) 0 (enc_int .i64) rfl rfl g1 rfl).trans ws, kk _ ?_⟩
  have s2 := hs.new (GA (eInt .i64) t)
  have s3 := Sep.set (A := []) s2 .dead
  exact s3.sub (List.sublist_cons_self _ _)
theorem r20 {h : Heap} {R : Lay} {l : List Int} (hl : l.length ≤ 8) (hnd : l.Nodup) (hs : Sep h R) {Q : HV → Heap → Prop}
    (kk : ∀ (h' : Heap) (s : PS), s.ok → s.abs = ⟨l, false, 0, List.replicate l.length [], List.replicate l.length false⟩ → Sep h' (s.lay ++ R) → Q (.tuple [.ptr s.id 0, ii 0]) h') : HCalls Try.prog 20 [ln (eInt .i64) l] h Q := by
  refine sc_func2 (rs := [.t 2, .t 3]) Try.func20 rfl (by decide) (by kernel_rfl) (lb rfl) hk20m ?_
  show SC Try.prog Try.f20.ntmps _ hc20m _ [(0, ln (eInt .i64) l)] h
  unfold hc20m
  refine q_reg ?_
  repeat (first | refine a_op (fun _ => rfl) ?_ | refine a_load rfl (by assumption) rfl ?_ | refine a_load_at rfl (by assumption) (by assumption) ?_ | refine a_iaddr_at rfl rfl (by assumption) ?_ | refine a_iaddr_l rfl rfl (by assumption) rfl ?_ | refine st_load_r rfl rfl ?_ | refine a_cmp rfl rfl rfl ?_ | refine a_eqi rfl rfl ?_ | refine st_not rfl ?_ | refine st_pick_t rfl rfl rfl ?_ | refine st_pick_f rfl rfl rfl ?_ | refine st_g rfl ?_ | refine a_gtf rfl ?_ | refine a_gft rfl ?_ | refine a_gu rfl ?_ | refine a_mklist (ec rfl en) (mz mkn) ?_ | refine a_mid ?_)
  first | refine a_endq (by repeat (first | exact pr_nil | (apply pr_cons; rfl))) ?_ | refine a_end (by repeat (first | exact pr_nil | (apply pr_cons; rfl))) ?_
  refine sc_seq (q_reg ?_)
  repeat (first | refine a_op (fun _ => rfl) ?_ | refine a_load rfl (by assumption) rfl ?_ | refine a_load_at rfl (by assumption) (by assumption) ?_ | refine a_iaddr_at rfl rfl (by assumption) ?_ | refine a_iaddr_l rfl rfl (by assumption) rfl ?_ | refine st_load_r rfl rfl ?_ | refine a_cmp rfl rfl rfl ?_ | refine a_eqi rfl rfl ?_ | refine st_not rfl ?_ | refine st_pick_t rfl rfl rfl ?_ | refine st_pick_f rfl rfl rfl ?_ | refine st_g rfl ?_ | refine a_gtf rfl ?_ | refine a_gft rfl ?_ | refine a_gu rfl ?_ | refine a_mklist (ec rfl en) (mz mkn) ?_ | refine a_mid ?_)
  first | refine a_endq (by repeat (first | exact pr_nil | (apply pr_cons; rfl))) ?_ | refine a_end (by repeat (first | exact pr_nil | (apply pr_cons; rfl))) ?_
  refine sc_cond (t := decide (((l.map (eInt .i64)).length : Int) > 8)) rfl (fun hc => ?_) (fun hc => ?_)
  · have := of_decide_eq_true hc
    rw [List.length_map] at this
    omega
  refine sc_skip (sq_n (sc_seq (q_reg ?_)))
  repeat (first | refine a_op (fun _ => rfl) ?_ | refine a_load rfl (by assumption) rfl ?_ | refine a_load_at rfl (by assumption) (by assumption) ?_ | refine a_iaddr_at rfl rfl (by assumption) ?_ | refine a_iaddr_l rfl rfl (by assumption) rfl ?_ | refine st_load_r rfl rfl ?_ | refine a_cmp rfl rfl rfl ?_ | refine a_eqi rfl rfl ?_ | refine st_not rfl ?_ | refine st_pick_t rfl rfl rfl ?_ | refine st_pick_f rfl rfl rfl ?_ | refine st_g rfl ?_ | refine a_gtf rfl ?_ | refine a_gft rfl ?_ | refine a_gu rfl ?_ | refine a_mklist (ec rfl en) (mz mkn) ?_ | refine a_mid ?_)
  first | refine a_endq (by repeat (first | exact pr_nil | (apply pr_cons; rfl))) ?_ | refine a_end (by repeat (first | exact pr_nil | (apply pr_cons; rfl))) ?_
  refine sc_block (sc_loop (X := { x : Nat // x ≤ l.length }) (fun x => ([(0, ln (eInt .i64) l), (9, ln (eInt .i64) l), (10, ii l.length), (11, ii x.1)], h)) (fun x => l.length - x.1) ⟨0, Nat.zero_le _⟩ (by
    rw [List.length_map]
    exact WeakF.refl _ _) ?_)
  rintro ⟨k, hk⟩
  refine q_reg ?_
  repeat (first | refine a_op (fun _ => rfl) ?_ | refine a_load rfl (by assumption) rfl ?_ | refine a_load_at rfl (by assumption) (by assumption) ?_ | refine a_iaddr_at rfl rfl (by assumption) ?_ | refine a_iaddr_l rfl rfl (by assumption) rfl ?_ | refine st_load_r rfl rfl ?_ | refine a_cmp rfl rfl rfl ?_ | refine a_eqi rfl rfl ?_ | refine st_not rfl ?_ | refine st_pick_t rfl rfl rfl ?_ | refine st_pick_f rfl rfl rfl ?_ | refine st_g rfl ?_ | refine a_gtf rfl ?_ | refine a_gft rfl ?_ | refine a_gu rfl ?_ | refine a_mklist (ec rfl en) (mz mkn) ?_ | refine a_mid ?_)
  first | refine a_endq (by repeat (first | exact pr_nil | (apply pr_cons; rfl))) ?_ | refine a_end (by repeat (first | exact pr_nil | (apply pr_cons; rfl))) ?_
  refine sc_seq (sc_cond rfl (fun hc => ?_) (fun hc => ?_))
  · have hc : k < l.length := by have := of_decide_eq_true hc; dsimp only at this; omega
    have hv : l[k]? = some l[k] := List.getElem?_eq_getElem hc
    refine sc_skip (sq_n (sc_seq (sc_block (q_reg ?_))))
    generalize l[k] = v at hv
    repeat (first | refine a_op (fun _ => rfl) ?_ | refine a_load rfl (by assumption) rfl ?_ | refine a_load_at rfl (by assumption) (by assumption) ?_ | refine a_iaddr_at rfl rfl (by assumption) ?_ | refine a_iaddr_l rfl rfl (by assumption) rfl ?_ | refine st_load_r rfl rfl ?_ | refine a_cmp rfl rfl rfl ?_ | refine a_eqi rfl rfl ?_ | refine st_not rfl ?_ | refine st_pick_t rfl rfl rfl ?_ | refine st_pick_f rfl rfl rfl ?_ | refine st_g rfl ?_ | refine a_gtf rfl ?_ | refine a_gft rfl ?_ | refine a_gu rfl ?_ | refine a_mklist (ec rfl en) (mz mkn) ?_ | refine a_mid ?_)
    first | refine a_endq (by repeat (first | exact pr_nil | (apply pr_cons; rfl))) ?_ | refine a_end (by repeat (first | exact pr_nil | (apply pr_cons; rfl))) ?_
    refine q_reg ?_
    repeat (first | refine a_op (fun _ => rfl) ?_ | refine a_load rfl (by assumption) rfl ?_ | refine a_load_at rfl (by assumption) (by assumption) ?_ | refine a_iaddr_at rfl rfl (by assumption) ?_ | refine a_iaddr_l rfl rfl (by assumption) rfl ?_ | refine st_load_r rfl rfl ?_ | refine a_cmp rfl rfl rfl ?_ | refine a_eqi rfl rfl ?_ | refine st_not rfl ?_ | refine st_pick_t rfl rfl rfl ?_ | refine st_pick_f rfl rfl rfl ?_ | refine st_g rfl ?_ | refine a_gtf rfl ?_ | refine a_gft rfl ?_ | refine a_gu rfl ?_ | refine a_mklist (ec rfl en) (mz mkn) ?_ | refine a_mid ?_)
    refine st_slice0 (l := l) (f := eInt .i64) (q := k) rfl rfl (by omega) (fun _ => rfl) ?_
    repeat (first | refine a_op (fun _ => rfl) ?_ | refine a_load rfl (by assumption) rfl ?_ | refine a_load_at rfl (by assumption) (by assumption) ?_ | refine a_iaddr_at rfl rfl (by assumption) ?_ | refine a_iaddr_l rfl rfl (by assumption) rfl ?_ | refine st_load_r rfl rfl ?_ | refine a_cmp rfl rfl rfl ?_ | refine a_eqi rfl rfl ?_ | refine st_not rfl ?_ | refine st_pick_t rfl rfl rfl ?_ | refine st_pick_f rfl rfl rfl ?_ | refine st_g rfl ?_ | refine a_gtf rfl ?_ | refine a_gft rfl ?_ | refine a_gu rfl ?_ | refine a_mklist (ec rfl en) (mz mkn) ?_ | refine a_mid ?_)
    refine a_call (ec rfl (ec rfl en)) ((s46 (l.take k) v (by rw [List.length_take]; omega)).use ?_)
    have hni : decide (v ∈ l.take k) = false := by
      refine decide_eq_false fun hm => ?_
      obtain ⟨j, hj⟩ := List.getElem?_of_mem hm
      have hjk := (List.getElem?_eq_some_iff.1 hj).1
      rw [List.length_take] at hjk
      rw [List.getElem?_take_of_lt (by omega)] at hj
      have := nodup_inj' hnd j k v hj hv
      omega
    rw [hni]
    repeat (first | refine a_op (fun _ => rfl) ?_ | refine a_load rfl (by assumption) rfl ?_ | refine a_load_at rfl (by assumption) (by assumption) ?_ | refine a_iaddr_at rfl rfl (by assumption) ?_ | refine a_iaddr_l rfl rfl (by assumption) rfl ?_ | refine st_load_r rfl rfl ?_ | refine a_cmp rfl rfl rfl ?_ | refine a_eqi rfl rfl ?_ | refine st_not rfl ?_ | refine st_pick_t rfl rfl rfl ?_ | refine st_pick_f rfl rfl rfl ?_ | refine st_g rfl ?_ | refine a_gtf rfl ?_ | refine a_gft rfl ?_ | refine a_gu rfl ?_ | refine a_mklist (ec rfl en) (mz mkn) ?_ | refine a_mid ?_)
    first | refine a_endq (by repeat (first | exact pr_nil | (apply pr_cons; rfl))) ?_ | refine a_end (by repeat (first | exact pr_nil | (apply pr_cons; rfl))) ?_
    refine s_cond_f rfl (sc_skip (bl_n (sq_n (s_reg ?_))))
    repeat (first | refine a_op (fun _ => rfl) ?_ | refine a_load rfl (by assumption) rfl ?_ | refine a_load_at rfl (by assumption) (by assumption) ?_ | refine a_iaddr_at rfl rfl (by assumption) ?_ | refine a_iaddr_l rfl rfl (by assumption) rfl ?_ | refine st_load_r rfl rfl ?_ | refine a_cmp rfl rfl rfl ?_ | refine a_eqi rfl rfl ?_ | refine st_not rfl ?_ | refine st_pick_t rfl rfl rfl ?_ | refine st_pick_f rfl rfl rfl ?_ | refine st_g rfl ?_ | refine a_gtf rfl ?_ | refine a_gft rfl ?_ | refine a_gu rfl ?_ | refine a_mklist (ec rfl en) (mz mkn) ?_ | refine a_mid ?_)
    refine a_add rfl rfl (by first | omega | (dsimp only; omega)) ?_
    repeat (first | refine a_op (fun _ => rfl) ?_ | refine a_load rfl (by assumption) rfl ?_ | refine a_load_at rfl (by assumption) (by assumption) ?_ | refine a_iaddr_at rfl rfl (by assumption) ?_ | refine a_iaddr_l rfl rfl (by assumption) rfl ?_ | refine st_load_r rfl rfl ?_ | refine a_cmp rfl rfl rfl ?_ | refine a_eqi rfl rfl ?_ | refine st_not rfl ?_ | refine st_pick_t rfl rfl rfl ?_ | refine st_pick_f rfl rfl rfl ?_ | refine st_g rfl ?_ | refine a_gtf rfl ?_ | refine a_gft rfl ?_ | refine a_gu rfl ?_ | refine a_mklist (ec rfl en) (mz mkn) ?_ | refine a_mid ?_)
    first | refine a_endq (by repeat (first | exact pr_nil | (apply pr_cons; rfl))) ?_ | refine a_end (by repeat (first | exact pr_nil | (apply pr_cons; rfl))) ?_
    exact lo_n ⟨k + 1, hc⟩ (by show l.length - (k + 1) < l.length - k; omega) (WeakF.refl _ _)
  · refine sc_exit (sq_x (lo_x (bl_x (sq_n (a_dreg Try.mixed ?_)))))
    have s1 := ((hs.new .res).new .res).new .res
    have l1 : (h ++ [HObj.res]).length = h.length + 1 := by simp
    have l2 : (h ++ [HObj.res] ++ [HObj.res]).length = h.length + 2 := by simp
    rw [l1, l2] at s1
    have eh : h ++ List.replicate 3 HObj.res = h ++ [HObj.res] ++ [HObj.res] ++ [HObj.res] := by simp
    rw [eh]
    generalize h ++ [HObj.res] ++ [HObj.res] ++ [HObj.res] = h1 at s1 ⊢
    refine a_op (fun _ => rfl) (a_dcall (ec rfl en) (s47 l (by omega)) rfl ?_)
    repeat (first | refine a_op (fun _ => rfl) ?_ | refine a_load rfl (by assumption) rfl ?_ | refine a_load_at rfl (by assumption) (by assumption) ?_ | refine a_iaddr_at rfl rfl (by assumption) ?_ | refine a_iaddr_l rfl rfl (by assumption) rfl ?_ | refine st_load_r rfl rfl ?_ | refine a_cmp rfl rfl rfl ?_ | refine a_eqi rfl rfl ?_ | refine st_not rfl ?_ | refine st_pick_t rfl rfl rfl ?_ | refine st_pick_f rfl rfl rfl ?_ | refine st_g rfl ?_ | refine a_gtf rfl ?_ | refine a_gft rfl ?_ | refine a_gu rfl ?_ | refine a_mklist (ec rfl en) (mz mkn) ?_ | refine a_mid ?_)
    have g0 : h1[h.length]? = some .res := s1.get (by simp)
    refine a_mksl (id := h.length) (n := (l.map (eInt .i64)).length) rfl g0 rfl rfl rfl (by rw [List.length_map]; omega) ?_
    simp only [List.length_map]
    rw [flat_rep]
    have s2 := Sep.set (A := [(h.length + 2, .res), (h.length + 1, .res)]) s1 (wayO (List.replicate l.length RW.nil))
    have ew : wayO (List.replicate l.length RW.nil) = .cells (List.replicate l.length (.list [] .full)) := by simp [wayO, RW.hv, RW.nil]
    rw [ew] at s2
    generalize h1.set h.length _ = h2 at s2 ⊢
    repeat (first | refine a_op (fun _ => rfl) ?_ | refine a_load rfl (by assumption) rfl ?_ | refine a_load_at rfl (by assumption) (by assumption) ?_ | refine a_iaddr_at rfl rfl (by assumption) ?_ | refine a_iaddr_l rfl rfl (by assumption) rfl ?_ | refine st_load_r rfl rfl ?_ | refine a_cmp rfl rfl rfl ?_ | refine a_eqi rfl rfl ?_ | refine st_not rfl ?_ | refine st_pick_t rfl rfl rfl ?_ | refine st_pick_f rfl rfl rfl ?_ | refine st_g rfl ?_ | refine a_gtf rfl ?_ | refine a_gft rfl ?_ | refine a_gu rfl ?_ | refine a_mklist (ec rfl en) (mz mkn) ?_ | refine a_mid ?_)
    have g1 : h2[h.length + 1]? = some .res := s2.get (by simp)
    refine a_mksl (id := h.length + 1) (n := (l.map (eInt .i64)).length) rfl g1 rfl rfl rfl (by rw [List.length_map]; omega) ?_
    simp only [List.length_map]
    rw [flat_rep]
    have s3 := Sep.set (A := [(h.length + 2, .res)]) s2 (overO (List.replicate l.length false))
    have eo : overO (List.replicate l.length false) = .cells (List.replicate l.length (.bool false)) := by simp [overO]
    rw [eo] at s3
    generalize h2.set (h.length + 1) _ = h3 at s3 ⊢
    repeat (first | refine a_op (fun _ => rfl) ?_ | refine a_load rfl (by assumption) rfl ?_ | refine a_load_at rfl (by assumption) (by assumption) ?_ | refine a_iaddr_at rfl rfl (by assumption) ?_ | refine a_iaddr_l rfl rfl (by assumption) rfl ?_ | refine st_load_r rfl rfl ?_ | refine a_cmp rfl rfl rfl ?_ | refine a_eqi rfl rfl ?_ | refine st_not rfl ?_ | refine st_pick_t rfl rfl rfl ?_ | refine st_pick_f rfl rfl rfl ?_ | refine st_g rfl ?_ | refine a_gtf rfl ?_ | refine a_gft rfl ?_ | refine a_gu rfl ?_ | refine a_mklist (ec rfl en) (mz mkn) ?_ | refine a_mid ?_)
    have g2 : h3[h.length + 2]? = some .res := s3.get (by simp)
    refine a_boxr rfl rfl rfl (id := h.length + 2) rfl g2 ?_
    repeat (first | refine a_op (fun _ => rfl) ?_ | refine a_load rfl (by assumption) rfl ?_ | refine a_load_at rfl (by assumption) (by assumption) ?_ | refine a_iaddr_at rfl rfl (by assumption) ?_ | refine a_iaddr_l rfl rfl (by assumption) rfl ?_ | refine st_load_r rfl rfl ?_ | refine a_cmp rfl rfl rfl ?_ | refine a_eqi rfl rfl ?_ | refine st_not rfl ?_ | refine st_pick_t rfl rfl rfl ?_ | refine st_pick_f rfl rfl rfl ?_ | refine st_g rfl ?_ | refine a_gtf rfl ?_ | refine a_gft rfl ?_ | refine a_gu rfl ?_ | refine a_mklist (ec rfl en) (mz mkn) ?_ | refine a_mid ?_)
    first | refine a_endq (by repeat (first | exact pr_nil | (apply pr_cons; rfl))) ?_ | refine a_end (by repeat (first | exact pr_nil | (apply pr_cons; rfl))) ?_
    have s4 := Sep.set (A := []) s3 (.cells [ln (eInt .i64) l, .bool false, ii 0, .arr h.length 0 l.length 1, .arr (h.length + 1) 0 l.length 1])
    refine sc_ret (x_ret _ rfl (kk _ ⟨h.length + 2, h.length, h.length + 1, l, false, 0, List.replicate l.length RW.nil, List.replicate l.length false⟩ ⟨fun r hr => ?_, by simp, by simp, hl, fun r hr => ?_⟩ ?_ ?_))
    · rw [List.eq_of_mem_replicate hr]; trivial
    · rw [List.eq_of_mem_replicate hr]; exact Nat.zero_le _
    · simp [PS.abs, RW.nil]
    · have hz : (List.replicate l.length (RW.nil : RW Int)).flatMap RW.lay = [] := by simp [RW.lay, RW.nil]
      unfold PS.lay
      simp only [hz, PS.obj, ew, eo, List.length_replicate, List.append_nil]
      refine Sep.perm s4 ?_
      simp only [List.nil_append, List.cons_append]
      exact (List.Perm.swap _ _ _).cons _
end Go.Hw.VK

