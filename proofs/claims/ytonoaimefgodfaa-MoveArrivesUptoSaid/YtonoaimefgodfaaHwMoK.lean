import Derived.Test.YtonoaimefgodfaaHwMoJ
set_option linter.unusedVariables false
set_option linter.unusedSimpArgs false
namespace Go.Hw.VM
open Go Go.Proofs

theorem r58 {h : Heap} {R : Lay} {I : Ids} {t : Ct} {B : Nat} {pl : Nat → Nat} (ok : t.ok I B) (hB : B ≤ 2000000) (hE : t.g.es.length ≤ 1000) (hP : Pl I.K I.m t.abs pl) (hs : Sep h (lay I t ++ R)) {Q : HV → Heap → Prop}
    (kk : ∀ h', Sep h' R → Q (eGMove_Told (toldF t.abs I.K I.m pl)) h') : HCalls Try.prog 58 [.ptr I.w 0, ii (I.m : Int)] h Q := by
  refine sc_func2 (rs := [.c 4 (some 4)]) Try.func58 rfl (by decide) (by kernel_rfl) (lb rfl) hk58 ?_
  show SC Try.prog Try.f58.ntmps _ hc58 _ [(0, .ptr I.w 0), (1, ii (I.m : Int))] h
  unfold hc58
  have hKK := ok.hK
  have hmm := ok.hm
  refine q_reg (a_alloc ?_)
  repeat (first | refine a_op (fun _ => rfl) ?_ | refine a_load rfl (by assumption) rfl ?_ | refine a_load_at rfl (by assumption) (by assumption) ?_ | refine a_iaddr_at rfl rfl (by assumption) ?_ | refine a_iaddr_l rfl rfl (by assumption) rfl ?_ | refine st_load_r rfl rfl ?_ | refine a_cmp rfl rfl rfl ?_ | refine a_eqi rfl rfl ?_ | refine st_not rfl ?_ | refine st_pick_t rfl rfl rfl ?_ | refine st_pick_f rfl rfl rfl ?_ | refine st_g rfl ?_ | refine a_gtf rfl ?_ | refine a_gft rfl ?_ | refine a_gu rfl ?_ | refine a_mklist (ec rfl en) (mz mkn) ?_ | refine a_mid ?_)
  first | refine a_endq (by repeat (first | exact pr_nil | (apply pr_cons; rfl))) ?_ | refine a_end (by repeat (first | exact pr_nil | (apply pr_cons; rfl))) ?_
  have s0 := hs.new told0
  change SC _ _ _ _ _ [(0, HV.ptr I.w 0), (1, ii (I.m : Int)), (4, .ptr h.length 0)] (h ++ [told0])
  generalize h.length = o4 at s0 ⊢
  generalize h ++ [told0] = h0 at s0 ⊢
  clear hs h
  refine a_dreg Try.mixed ?_
  have s1 := ((s0.new .res).new .res).new .res
  have l1 : (h0 ++ [HObj.res]).length = h0.length + 1 := by simp
  have l2 : (h0 ++ [HObj.res] ++ [HObj.res]).length = h0.length + 2 := by simp
  rw [l1, l2] at s1
  have eh : h0 ++ List.replicate 3 HObj.res = h0 ++ [HObj.res] ++ [HObj.res] ++ [HObj.res] := by simp
  rw [eh]
  generalize h0 ++ [HObj.res] ++ [HObj.res] ++ [HObj.res] = h1 at s1 ⊢
  repeat (first | refine a_op (fun _ => rfl) ?_ | refine a_load rfl (by assumption) rfl ?_ | refine a_load_at rfl (by assumption) (by assumption) ?_ | refine a_iaddr_at rfl rfl (by assumption) ?_ | refine a_iaddr_l rfl rfl (by assumption) rfl ?_ | refine st_load_r rfl rfl ?_ | refine a_cmp rfl rfl rfl ?_ | refine a_eqi rfl rfl ?_ | refine st_not rfl ?_ | refine st_pick_t rfl rfl rfl ?_ | refine st_pick_f rfl rfl rfl ?_ | refine st_g rfl ?_ | refine a_gtf rfl ?_ | refine a_gft rfl ?_ | refine a_gu rfl ?_ | refine a_mklist (ec rfl en) (mz mkn) ?_ | refine a_mid ?_)
  have g0 : h1[h0.length]? = some .res := s1.get (by simp)
  refine a_mksl (id := h0.length) (n := I.m) rfl g0 rfl rfl rfl (by omega) ?_
  rw [flat_rep, rep_range]
  have s2 := Sep.set (A := [(h0.length + 2, .res), (h0.length + 1, .res)]) (B := (o4, told0) :: (lay I t ++ R)) s1 (gotO I.m (GS t.abs fun _ => false))
  have ew : gotO I.m (GS t.abs fun _ => false) = .cells ((List.range I.m).map fun _ => .list [] .none) := rfl
  rw [ew] at s2
  generalize h1.set h0.length _ = h2 at s2 ⊢
  repeat (first | refine a_op (fun _ => rfl) ?_ | refine a_load rfl (by assumption) rfl ?_ | refine a_load_at rfl (by assumption) (by assumption) ?_ | refine a_iaddr_at rfl rfl (by assumption) ?_ | refine a_iaddr_l rfl rfl (by assumption) rfl ?_ | refine st_load_r rfl rfl ?_ | refine a_cmp rfl rfl rfl ?_ | refine a_eqi rfl rfl ?_ | refine st_not rfl ?_ | refine st_pick_t rfl rfl rfl ?_ | refine st_pick_f rfl rfl rfl ?_ | refine st_g rfl ?_ | refine a_gtf rfl ?_ | refine a_gft rfl ?_ | refine a_gu rfl ?_ | refine a_mklist (ec rfl en) (mz mkn) ?_ | refine a_mid ?_)
  have g1 : h2[h0.length + 1]? = some .res := s2.get (by simp)
  refine a_mksl (id := h0.length + 1) (n := I.m) rfl g1 rfl rfl rfl (by omega) ?_
  rw [flat_rep, rep_range]
  have s3 := Sep.set (A := [(h0.length + 2, .res)]) (B := (h0.length, .cells ((List.range I.m).map fun _ => .list [] .none)) :: (o4, told0) :: (lay I t ++ R)) s2 (atO I.m (AS pl fun _ => false))
  have eo : atO I.m (AS pl fun _ => false) = .cells ((List.range I.m).map fun _ => ii 0) := rfl
  rw [eo] at s3
  generalize h2.set (h0.length + 1) _ = h3 at s3 ⊢
  repeat (first | refine a_op (fun _ => rfl) ?_ | refine a_load rfl (by assumption) rfl ?_ | refine a_load_at rfl (by assumption) (by assumption) ?_ | refine a_iaddr_at rfl rfl (by assumption) ?_ | refine a_iaddr_l rfl rfl (by assumption) rfl ?_ | refine st_load_r rfl rfl ?_ | refine a_cmp rfl rfl rfl ?_ | refine a_eqi rfl rfl ?_ | refine st_not rfl ?_ | refine st_pick_t rfl rfl rfl ?_ | refine st_pick_f rfl rfl rfl ?_ | refine st_g rfl ?_ | refine a_gtf rfl ?_ | refine a_gft rfl ?_ | refine a_gu rfl ?_ | refine a_mklist (ec rfl en) (mz mkn) ?_ | refine a_mid ?_)
  have g2 : h3[h0.length + 2]? = some .res := s3.get (by simp)
  refine a_allocr (id := h0.length + 2) rfl g2 ?_
  refine a_store rfl rfl (List.getElem?_set_self (lt_of_get g2)) ⟨rfl, lb rfl, rfl⟩ ?_
  repeat (first | refine a_op (fun _ => rfl) ?_ | refine a_load rfl (by assumption) rfl ?_ | refine a_load_at rfl (by assumption) (by assumption) ?_ | refine a_iaddr_at rfl rfl (by assumption) ?_ | refine a_iaddr_l rfl rfl (by assumption) rfl ?_ | refine st_load_r rfl rfl ?_ | refine a_cmp rfl rfl rfl ?_ | refine a_eqi rfl rfl ?_ | refine st_not rfl ?_ | refine st_pick_t rfl rfl rfl ?_ | refine st_pick_f rfl rfl rfl ?_ | refine st_g rfl ?_ | refine a_gtf rfl ?_ | refine a_gft rfl ?_ | refine a_gu rfl ?_ | refine a_mklist (ec rfl en) (mz mkn) ?_ | refine a_mid ?_)
  first | refine a_endq (by repeat (first | exact pr_nil | (apply pr_cons; rfl))) ?_ | refine a_end (by repeat (first | exact pr_nil | (apply pr_cons; rfl))) ?_
  have s4 := Sep.set (A := []) (B := (h0.length + 1, .cells ((List.range I.m).map fun _ => ii 0)) :: (h0.length, .cells ((List.range I.m).map fun _ => .list [] .none)) :: (o4, told0) :: (lay I t ++ R)) (Sep.set (A := []) (B := (h0.length + 1, .cells ((List.range I.m).map fun _ => ii 0)) :: (h0.length, .cells ((List.range I.m).map fun _ => .list [] .none)) :: (o4, told0) :: (lay I t ++ R)) s3 told0) (outO I.m h0.length (h0.length + 1) 0 0)
  change SC _ _ _ _ _ [(0, HV.ptr I.w 0), (4, .ptr o4 0), (5, .ptr (h0.length + 2) 0)] ((h3.set (h0.length + 2) told0).set (h0.length + 2) (outO I.m h0.length (h0.length + 1) 0 0))
  generalize (h3.set (h0.length + 2) told0).set (h0.length + 2) _ = h4 at s4 ⊢
  rw [← ew, ← eo] at s4
  generalize h0.length + 1 = aid at s4 ⊢
  generalize h0.length + 2 = o5 at s4 ⊢
  generalize h0.length = gid at s4 ⊢
  have s5 : Sep h4 (outL I t.abs pl gid aid o5 (fun _ => false) 0 0 ++ (lay I t ++ ((o4, told0) :: R))) := by
    refine s4.perm (perm_c fun c e ca cc c0 cp => ?_)
    simp only [ca, cc, c0]
    omega
  clear s0 s1 s2 s3 s4 ew eo l1 l2 eh g0 g1 g2
  refine q_reg ?_
  repeat (first | refine a_op (fun _ => rfl) ?_ | refine a_load rfl (by assumption) rfl ?_ | refine a_load_at rfl (by assumption) (by assumption) ?_ | refine a_iaddr_at rfl rfl (by assumption) ?_ | refine a_iaddr_l rfl rfl (by assumption) rfl ?_ | refine st_load_r rfl rfl ?_ | refine a_cmp rfl rfl rfl ?_ | refine a_eqi rfl rfl ?_ | refine st_not rfl ?_ | refine st_pick_t rfl rfl rfl ?_ | refine st_pick_f rfl rfl rfl ?_ | refine st_g rfl ?_ | refine a_gtf rfl ?_ | refine a_gft rfl ?_ | refine a_gu rfl ?_ | refine a_mklist (ec rfl en) (mz mkn) ?_ | refine a_mid ?_)
  first | refine a_endq (by repeat (first | exact pr_nil | (apply pr_cons; rfl))) ?_ | refine a_end (by repeat (first | exact pr_nil | (apply pr_cons; rfl))) ?_
  have gw : h4[I.w]? = some (netO I) := s5.get (List.mem_append_right _ (mem_w _))
  refine sc_seq (q_reg ?_)
  repeat (first | refine a_op (fun _ => rfl) ?_ | refine a_load rfl (by assumption) rfl ?_ | refine a_load_at rfl (by assumption) (by assumption) ?_ | refine a_iaddr_at rfl rfl (by assumption) ?_ | refine a_iaddr_l rfl rfl (by assumption) rfl ?_ | refine st_load_r rfl rfl ?_ | refine a_cmp rfl rfl rfl ?_ | refine a_eqi rfl rfl ?_ | refine st_not rfl ?_ | refine st_pick_t rfl rfl rfl ?_ | refine st_pick_f rfl rfl rfl ?_ | refine st_g rfl ?_ | refine a_gtf rfl ?_ | refine a_gft rfl ?_ | refine a_gu rfl ?_ | refine a_mklist (ec rfl en) (mz mkn) ?_ | refine a_mid ?_)
  first | refine a_endq (by repeat (first | exact pr_nil | (apply pr_cons; rfl))) ?_ | refine a_end (by repeat (first | exact pr_nil | (apply pr_cons; rfl))) ?_
  have hbw : ∀ w, 0 ≤ bodW t.abs w ∧ bodW t.abs w ≤ (B : Int) := fun w => by
    have := (ok.bod w).len
    have : (t.early w).es.length ≤ B := by
      have h1 : (body I t w).got.l.length + (t.early w).es.length ≤ B := this
      omega
    refine ⟨Int.natCast_nonneg _, ?_⟩
    show ((t.early w).es.length : Int) ≤ B
    omega
  have hhb : ∀ i w, 0 ≤ hereW t.abs i w ∧ hereW t.abs i w ≤ (B : Int) := fun i w => by
    unfold hereW
    have := hbw w
    split <;> omega
  have hhs : ∀ i n, n ≤ I.m → 0 ≤ sumUp n (hereW t.abs i) ∧ sumUp n (hereW t.abs i) ≤ 2000000000 := fun i n hn => by
    have := sumUp_bound (n := n) (f := hereW t.abs i) (B := (B : Int)) fun w _ => hhb i w
    refine ⟨this.1, Int.le_trans this.2 ?_⟩
    rw [← Int.natCast_mul]
    have : B * n ≤ 2000000 * 1000 := Nat.mul_le_mul hB (by omega)
    omega
  have hwl : ∀ i, (t.waits i).l.length ≤ 2000000 := fun i => by have := (ok.waits i).2; omega
  have hnb : ∀ i, 0 ≤ nodeW t.abs I.m i ∧ nodeW t.abs I.m i ≤ 2002000000 := fun i => by
    have h1 := hhs i I.m (Nat.le_refl _)
    have h2 := hwl i
    have h3 : nodeW t.abs I.m i = ((t.waits i).l.length : Int) + sumUp I.m (hereW t.abs i) := rfl
    rw [h3]
    omega
  have hns : ∀ k, k ≤ I.K → 0 ≤ sumUp k (nodeW t.abs I.m) ∧ sumUp k (nodeW t.abs I.m) ≤ 2002000000000 := fun k hk => by
    have := sumUp_bound (n := k) (f := nodeW t.abs I.m) (B := 2002000000) fun i _ => hnb i
    omega
  refine sc_block (sc_loop (X := { x : Nat × (Nat → Bool) × Heap // x.1 ≤ I.K ∧ (∀ i w, i < x.1 → w < I.m → t.here i w = true → x.2.1 w = true) ∧ Sep x.2.2 (outL I t.abs pl gid aid o5 x.2.1 0 (sumUp x.1 (nodeW t.abs I.m)) ++ (lay I t ++ ((o4, told0) :: R))) })
    (fun x => ([(0, .ptr I.w 0), (4, .ptr o4 0), (5, .ptr o5 0), (6, .func 72 [.ptr o5 0]), (24, .arr I.nid 0 I.K 4), (25, ii I.K), (26, ii x.1.1)], x.1.2.2)) (fun x => I.K - x.1.1)
    ⟨(0, fun _ => false, h4), Nat.zero_le _, fun i w hi => by omega, s5⟩ (WeakF.refl _ _) ?_)
  rintro ⟨⟨k, S, h5⟩, hk, hS, s6⟩
  simp only at hk hS s6
  clear s5 gw h4
  refine q_reg ?_
  repeat (first | refine a_op (fun _ => rfl) ?_ | refine a_load rfl (by assumption) rfl ?_ | refine a_load_at rfl (by assumption) (by assumption) ?_ | refine a_iaddr_at rfl rfl (by assumption) ?_ | refine a_iaddr_l rfl rfl (by assumption) rfl ?_ | refine st_load_r rfl rfl ?_ | refine a_cmp rfl rfl rfl ?_ | refine a_eqi rfl rfl ?_ | refine st_not rfl ?_ | refine st_pick_t rfl rfl rfl ?_ | refine st_pick_f rfl rfl rfl ?_ | refine st_g rfl ?_ | refine a_gtf rfl ?_ | refine a_gft rfl ?_ | refine a_gu rfl ?_ | refine a_mklist (ec rfl en) (mz mkn) ?_ | refine a_mid ?_)
  first | refine a_endq (by repeat (first | exact pr_nil | (apply pr_cons; rfl))) ?_ | refine a_end (by repeat (first | exact pr_nil | (apply pr_cons; rfl))) ?_
  refine sc_seq (sc_cond rfl (fun hz => ?_) (fun hz => ?_))
  · have hkl : k < I.K := by have := of_decide_eq_true hz; dsimp only at this; omega
    have gn : h5[I.nid]? = some (nodesO I t.waits) := s6.get (List.mem_append_right _ (mem_n _))
    refine sc_skip (sq_n (sc_seq (sc_block (q_reg ?_))))
    repeat (first | refine a_op (fun _ => rfl) ?_ | refine a_load rfl (by assumption) rfl ?_ | refine a_load_at rfl (by assumption) (by assumption) ?_ | refine a_iaddr_at rfl rfl (by assumption) ?_ | refine a_iaddr_l rfl rfl (by assumption) rfl ?_ | refine st_load_r rfl rfl ?_ | refine a_cmp rfl rfl rfl ?_ | refine a_eqi rfl rfl ?_ | refine st_not rfl ?_ | refine st_pick_t rfl rfl rfl ?_ | refine st_pick_f rfl rfl rfl ?_ | refine st_g rfl ?_ | refine a_gtf rfl ?_ | refine a_gft rfl ?_ | refine a_gu rfl ?_ | refine a_mklist (ec rfl en) (mz mkn) ?_ | refine a_mid ?_)
    refine a_iaddr_n rfl rfl hkl ?_
    refine a_load_fmn (F := nodeC I t.waits) rfl gn (nodeC_len I t.waits) hkl rfl ?_
    refine a_alloc ?_
    repeat (first | refine a_op (fun _ => rfl) ?_ | refine a_load rfl (by assumption) rfl ?_ | refine a_load_at rfl (by assumption) (by assumption) ?_ | refine a_iaddr_at rfl rfl (by assumption) ?_ | refine a_iaddr_l rfl rfl (by assumption) rfl ?_ | refine st_load_r rfl rfl ?_ | refine a_cmp rfl rfl rfl ?_ | refine a_eqi rfl rfl ?_ | refine st_not rfl ?_ | refine st_pick_t rfl rfl rfl ?_ | refine st_pick_f rfl rfl rfl ?_ | refine st_g rfl ?_ | refine a_gtf rfl ?_ | refine a_gft rfl ?_ | refine a_gu rfl ?_ | refine a_mklist (ec rfl en) (mz mkn) ?_ | refine a_mid ?_)
    refine a_store rfl rfl (List.getElem?_concat_length) ⟨rfl, lb rfl, rfl⟩ ?_
    repeat (first | refine a_op (fun _ => rfl) ?_ | refine a_load rfl (by assumption) rfl ?_ | refine a_load_at rfl (by assumption) (by assumption) ?_ | refine a_iaddr_at rfl rfl (by assumption) ?_ | refine a_iaddr_l rfl rfl (by assumption) rfl ?_ | refine st_load_r rfl rfl ?_ | refine a_cmp rfl rfl rfl ?_ | refine a_eqi rfl rfl ?_ | refine st_not rfl ?_ | refine st_pick_t rfl rfl rfl ?_ | refine st_pick_f rfl rfl rfl ?_ | refine st_g rfl ?_ | refine a_gtf rfl ?_ | refine a_gft rfl ?_ | refine a_gu rfl ?_ | refine a_mklist (ec rfl en) (mz mkn) ?_ | refine a_mid ?_)
    first | refine a_endq (by repeat (first | exact pr_nil | (apply pr_cons; rfl))) ?_ | refine a_end (by repeat (first | exact pr_nil | (apply pr_cons; rfl))) ?_
    have s7 := Sep.set (A := []) (s6.new (.cells [.list [] .full, .list [] .full, .list [] .full, .list [] .full])) (.cells [.arr (I.hid k) 0 I.m 1, .arr (I.sid k) 0 I.m 2, .arr (I.qid k) 0 I.m 1, (t.waits k).hv (eIt I.bid)])
    change SC _ _ _ _ _ [(0, HV.ptr I.w 0), (4, .ptr o4 0), (5, .ptr o5 0), (6, .func 72 [.ptr o5 0]), (7, ii (k : Int)), (8, .ptr h5.length 0), (24, .arr I.nid 0 I.K 4), (25, ii (I.K : Int)), (26, ii (k : Int))]
      ((h5 ++ [HObj.cells [.list [] .full, .list [] .full, .list [] .full, .list [] .full]]).set h5.length (.cells [.arr (I.hid k) 0 I.m 1, .arr (I.sid k) 0 I.m 2, .arr (I.qid k) 0 I.m 1, (t.waits k).hv (eIt I.bid)]))
    generalize h5.length = o8 at s7 ⊢
    generalize (h5 ++ [_]).set o8 _ = h6 at s7 ⊢
    simp only [List.nil_append] at s7
    have g8 : h6[o8]? = some (.cells [.arr (I.hid k) 0 I.m 1, .arr (I.sid k) 0 I.m 2, .arr (I.qid k) 0 I.m 1, (t.waits k).hv (eIt I.bid)]) := s7.get (by simp)
    have go : h6[o5]? = some (outO I.m gid aid 0 (sumUp k (nodeW t.abs I.m))) := s7.get (by simp)
    have hb1 := hns k hk
    have hb2 := hwl k
    refine q_reg ?_
    repeat (first | refine a_op (fun _ => rfl) ?_ | refine a_load rfl (by assumption) rfl ?_ | refine a_load_at rfl (by assumption) (by assumption) ?_ | refine a_iaddr_at rfl rfl (by assumption) ?_ | refine a_iaddr_l rfl rfl (by assumption) rfl ?_ | refine st_load_r rfl rfl ?_ | refine a_cmp rfl rfl rfl ?_ | refine a_eqi rfl rfl ?_ | refine st_not rfl ?_ | refine st_pick_t rfl rfl rfl ?_ | refine st_pick_f rfl rfl rfl ?_ | refine st_g rfl ?_ | refine a_gtf rfl ?_ | refine a_gft rfl ?_ | refine a_gu rfl ?_ | refine a_mklist (ec rfl en) (mz mkn) ?_ | refine a_mid ?_)
    refine a_add (n := ((t.waits k).l.length : Int)) rfl (by show some (ii (((t.waits k).l.map (eIt I.bid)).length : Int)) = _; rw [List.length_map]) (by omega) ?_
    repeat (first | refine a_op (fun _ => rfl) ?_ | refine a_load rfl (by assumption) rfl ?_ | refine a_load_at rfl (by assumption) (by assumption) ?_ | refine a_iaddr_at rfl rfl (by assumption) ?_ | refine a_iaddr_l rfl rfl (by assumption) rfl ?_ | refine st_load_r rfl rfl ?_ | refine a_cmp rfl rfl rfl ?_ | refine a_eqi rfl rfl ?_ | refine st_not rfl ?_ | refine st_pick_t rfl rfl rfl ?_ | refine st_pick_f rfl rfl rfl ?_ | refine st_g rfl ?_ | refine a_gtf rfl ?_ | refine a_gft rfl ?_ | refine a_gu rfl ?_ | refine a_mklist (ec rfl en) (mz mkn) ?_ | refine a_mid ?_)
    refine a_store rfl rfl go ⟨rfl, lb rfl, rfl⟩ ?_
    repeat (first | refine a_op (fun _ => rfl) ?_ | refine a_load rfl (by assumption) rfl ?_ | refine a_load_at rfl (by assumption) (by assumption) ?_ | refine a_iaddr_at rfl rfl (by assumption) ?_ | refine a_iaddr_l rfl rfl (by assumption) rfl ?_ | refine st_load_r rfl rfl ?_ | refine a_cmp rfl rfl rfl ?_ | refine a_eqi rfl rfl ?_ | refine st_not rfl ?_ | refine st_pick_t rfl rfl rfl ?_ | refine st_pick_f rfl rfl rfl ?_ | refine st_g rfl ?_ | refine a_gtf rfl ?_ | refine a_gft rfl ?_ | refine a_gu rfl ?_ | refine a_mklist (ec rfl en) (mz mkn) ?_ | refine a_mid ?_)
    first | refine a_endq (by repeat (first | exact pr_nil | (apply pr_cons; rfl))) ?_ | refine a_end (by repeat (first | exact pr_nil | (apply pr_cons; rfl))) ?_
    have s8 := Sep.set (A := [(o8, .cells [.arr (I.hid k) 0 I.m 1, .arr (I.sid k) 0 I.m 2, .arr (I.qid k) 0 I.m 1, (t.waits k).hv (eIt I.bid)])]) s7 (outO I.m gid aid 0 (sumUp k (nodeW t.abs I.m) + (t.waits k).l.length))
    change SC _ _ _ _ _ _ (h6.set o5 (outO I.m gid aid 0 (sumUp k (nodeW t.abs I.m) + (t.waits k).l.length)))
    generalize h6.set o5 _ = h7 at s8 ⊢
    have g8 : h7[o8]? = some (.cells [.arr (I.hid k) 0 I.m 1, .arr (I.sid k) 0 I.m 2, .arr (I.qid k) 0 I.m 1, (t.waits k).hv (eIt I.bid)]) := s8.get (by simp)
    have s9 : Sep h7 (outL I t.abs pl gid aid o5 S 0 (sumUp k (nodeW t.abs I.m) + (t.waits k).l.length) ++ (lay I t ++ ((o4, told0) :: R))) := s8.sub (List.sublist_cons_self _ _)
    refine q_reg ?_
    repeat (first | refine a_op (fun _ => rfl) ?_ | refine a_load rfl (by assumption) rfl ?_ | refine a_load_at rfl (by assumption) (by assumption) ?_ | refine a_iaddr_at rfl rfl (by assumption) ?_ | refine a_iaddr_l rfl rfl (by assumption) rfl ?_ | refine st_load_r rfl rfl ?_ | refine a_cmp rfl rfl rfl ?_ | refine a_eqi rfl rfl ?_ | refine st_not rfl ?_ | refine st_pick_t rfl rfl rfl ?_ | refine st_pick_f rfl rfl rfl ?_ | refine st_g rfl ?_ | refine a_gtf rfl ?_ | refine a_gft rfl ?_ | refine a_gu rfl ?_ | refine a_mklist (ec rfl en) (mz mkn) ?_ | refine a_mid ?_)
    first | refine a_endq (by repeat (first | exact pr_nil | (apply pr_cons; rfl))) ?_ | refine a_end (by repeat (first | exact pr_nil | (apply pr_cons; rfl))) ?_
    refine sc_block (sc_loop (X := { x : Nat × (Nat → Bool) × Heap // x.1 ≤ I.m ∧ (∀ w, S w = true → x.2.1 w = true) ∧ (∀ w, w < x.1 → t.here k w = true → x.2.1 w = true) ∧ Sep x.2.2 (outL I t.abs pl gid aid o5 x.2.1 0 (sumUp k (nodeW t.abs I.m) + (t.waits k).l.length + sumUp x.1 (hereW t.abs k)) ++ (lay I t ++ ((o4, told0) :: R))) })
      (fun x => ([(0, .ptr I.w 0), (4, .ptr o4 0), (5, .ptr o5 0), (6, .func 72 [.ptr o5 0]), (7, ii k), (24, .arr I.nid 0 I.K 4), (25, ii I.K), (26, ii k), (39, .arr (I.hid k) 0 I.m 1), (40, ii I.m), (41, ii x.1.1)], x.1.2.2)) (fun x => I.m - x.1.1)
      ⟨(0, S, h7), Nat.zero_le _, fun _ h => h, fun w hw => by omega, by
        have : sumUp k (nodeW t.abs I.m) + (t.waits k).l.length + sumUp 0 (hereW t.abs k) = sumUp k (nodeW t.abs I.m) + (t.waits k).l.length := by simp [sumUp]
        rw [this]; exact s9⟩ (WeakF.refl _ _) ?_)
    clear s7 g8 go
    rintro ⟨⟨j, S2, h8⟩, hj, hSS, hin, sA⟩
    simp only at hj hSS hin sA
    refine q_reg ?_
    repeat (first | refine a_op (fun _ => rfl) ?_ | refine a_load rfl (by assumption) rfl ?_ | refine a_load_at rfl (by assumption) (by assumption) ?_ | refine a_iaddr_at rfl rfl (by assumption) ?_ | refine a_iaddr_l rfl rfl (by assumption) rfl ?_ | refine st_load_r rfl rfl ?_ | refine a_cmp rfl rfl rfl ?_ | refine a_eqi rfl rfl ?_ | refine st_not rfl ?_ | refine st_pick_t rfl rfl rfl ?_ | refine st_pick_f rfl rfl rfl ?_ | refine st_g rfl ?_ | refine a_gtf rfl ?_ | refine a_gft rfl ?_ | refine a_gu rfl ?_ | refine a_mklist (ec rfl en) (mz mkn) ?_ | refine a_mid ?_)
    first | refine a_endq (by repeat (first | exact pr_nil | (apply pr_cons; rfl))) ?_ | refine a_end (by repeat (first | exact pr_nil | (apply pr_cons; rfl))) ?_
    refine sc_seq (sc_cond rfl (fun hz2 => ?_) (fun hz2 => ?_))
    · have hjl : j < I.m := by have := of_decide_eq_true hz2; dsimp only at this; omega
      have gh : h8[I.hid k]? = some (hereO I (t.here k)) := sA.get (List.mem_append_right _ (mem_node hkl (by simp [nodeL]) _))
      have hb3 := hhs k j hj
      refine sc_skip (sq_n (sc_seq (sc_block (q_reg ?_))))
      repeat (first | refine a_op (fun _ => rfl) ?_ | refine a_load rfl (by assumption) rfl ?_ | refine a_load_at rfl (by assumption) (by assumption) ?_ | refine a_iaddr_at rfl rfl (by assumption) ?_ | refine a_iaddr_l rfl rfl (by assumption) rfl ?_ | refine st_load_r rfl rfl ?_ | refine a_cmp rfl rfl rfl ?_ | refine a_eqi rfl rfl ?_ | refine st_not rfl ?_ | refine st_pick_t rfl rfl rfl ?_ | refine st_pick_f rfl rfl rfl ?_ | refine st_g rfl ?_ | refine a_gtf rfl ?_ | refine a_gft rfl ?_ | refine a_gu rfl ?_ | refine a_mklist (ec rfl en) (mz mkn) ?_ | refine a_mid ?_)
      by_cases hh : t.here k j = true
      · refine a_load_rg (F := hereC I.bid (t.here k)) (v := .ptr (I.bid j) 0) rfl gh hjl (by unfold hereC; rw [hh]; rfl) ?_
        repeat (first | refine a_op (fun _ => rfl) ?_ | refine a_load rfl (by assumption) rfl ?_ | refine a_load_at rfl (by assumption) (by assumption) ?_ | refine a_iaddr_at rfl rfl (by assumption) ?_ | refine a_iaddr_l rfl rfl (by assumption) rfl ?_ | refine st_load_r rfl rfl ?_ | refine a_cmp rfl rfl rfl ?_ | refine a_eqi rfl rfl ?_ | refine st_not rfl ?_ | refine st_pick_t rfl rfl rfl ?_ | refine st_pick_f rfl rfl rfl ?_ | refine st_g rfl ?_ | refine a_gtf rfl ?_ | refine a_gft rfl ?_ | refine a_gu rfl ?_ | refine a_mklist (ec rfl en) (mz mkn) ?_ | refine a_mid ?_)
        first | refine a_endq (by repeat (first | exact pr_nil | (apply pr_cons; rfl))) ?_ | refine a_end (by repeat (first | exact pr_nil | (apply pr_cons; rfl))) ?_
        refine q_reg ?_
        repeat (first | refine a_op (fun _ => rfl) ?_ | refine a_load rfl (by assumption) rfl ?_ | refine a_load_at rfl (by assumption) (by assumption) ?_ | refine a_iaddr_at rfl rfl (by assumption) ?_ | refine a_iaddr_l rfl rfl (by assumption) rfl ?_ | refine st_load_r rfl rfl ?_ | refine a_cmp rfl rfl rfl ?_ | refine a_eqi rfl rfl ?_ | refine st_not rfl ?_ | refine st_pick_t rfl rfl rfl ?_ | refine st_pick_f rfl rfl rfl ?_ | refine st_g rfl ?_ | refine a_gtf rfl ?_ | refine a_gft rfl ?_ | refine a_gu rfl ?_ | refine a_mklist (ec rfl en) (mz mkn) ?_ | refine a_mid ?_)
        refine a_eqp1 rfl rfl ?_
        repeat (first | refine a_op (fun _ => rfl) ?_ | refine a_load rfl (by assumption) rfl ?_ | refine a_load_at rfl (by assumption) (by assumption) ?_ | refine a_iaddr_at rfl rfl (by assumption) ?_ | refine a_iaddr_l rfl rfl (by assumption) rfl ?_ | refine st_load_r rfl rfl ?_ | refine a_cmp rfl rfl rfl ?_ | refine a_eqi rfl rfl ?_ | refine st_not rfl ?_ | refine st_pick_t rfl rfl rfl ?_ | refine st_pick_f rfl rfl rfl ?_ | refine st_g rfl ?_ | refine a_gtf rfl ?_ | refine a_gft rfl ?_ | refine a_gu rfl ?_ | refine a_mklist (ec rfl en) (mz mkn) ?_ | refine a_mid ?_)
        first | refine a_endq (by repeat (first | exact pr_nil | (apply pr_cons; rfl))) ?_ | refine a_end (by repeat (first | exact pr_nil | (apply pr_cons; rfl))) ?_
        refine s_cond_t rfl (s_reg ?_)
        repeat (first | refine a_op (fun _ => rfl) ?_ | refine a_load rfl (by assumption) rfl ?_ | refine a_load_at rfl (by assumption) (by assumption) ?_ | refine a_iaddr_at rfl rfl (by assumption) ?_ | refine a_iaddr_l rfl rfl (by assumption) rfl ?_ | refine st_load_r rfl rfl ?_ | refine a_cmp rfl rfl rfl ?_ | refine a_eqi rfl rfl ?_ | refine st_not rfl ?_ | refine st_pick_t rfl rfl rfl ?_ | refine st_pick_f rfl rfl rfl ?_ | refine st_g rfl ?_ | refine a_gtf rfl ?_ | refine a_gft rfl ?_ | refine a_gu rfl ?_ | refine a_mklist (ec rfl en) (mz mkn) ?_ | refine a_mid ?_)
        refine a_callv rfl (ec rfl (ec rfl (ec rfl en))) (tell_at (a := k) ok hB hjl (hP.node k j hkl hjl hh) (by omega) sA (fun h9 sB => ?_))
        repeat (first | refine a_op (fun _ => rfl) ?_ | refine a_load rfl (by assumption) rfl ?_ | refine a_load_at rfl (by assumption) (by assumption) ?_ | refine a_iaddr_at rfl rfl (by assumption) ?_ | refine a_iaddr_l rfl rfl (by assumption) rfl ?_ | refine st_load_r rfl rfl ?_ | refine a_cmp rfl rfl rfl ?_ | refine a_eqi rfl rfl ?_ | refine st_not rfl ?_ | refine st_pick_t rfl rfl rfl ?_ | refine st_pick_f rfl rfl rfl ?_ | refine st_g rfl ?_ | refine a_gtf rfl ?_ | refine a_gft rfl ?_ | refine a_gu rfl ?_ | refine a_mklist (ec rfl en) (mz mkn) ?_ | refine a_mid ?_)
        first | refine a_endq (by repeat (first | exact pr_nil | (apply pr_cons; rfl))) ?_ | refine a_end (by repeat (first | exact pr_nil | (apply pr_cons; rfl))) ?_
        refine bl_n (id := 3) (sq_n (s_reg ?_))
        repeat (first | refine a_op (fun _ => rfl) ?_ | refine a_load rfl (by assumption) rfl ?_ | refine a_load_at rfl (by assumption) (by assumption) ?_ | refine a_iaddr_at rfl rfl (by assumption) ?_ | refine a_iaddr_l rfl rfl (by assumption) rfl ?_ | refine st_load_r rfl rfl ?_ | refine a_cmp rfl rfl rfl ?_ | refine a_eqi rfl rfl ?_ | refine st_not rfl ?_ | refine st_pick_t rfl rfl rfl ?_ | refine st_pick_f rfl rfl rfl ?_ | refine st_g rfl ?_ | refine a_gtf rfl ?_ | refine a_gft rfl ?_ | refine a_gu rfl ?_ | refine a_mklist (ec rfl en) (mz mkn) ?_ | refine a_mid ?_)
        refine a_add rfl rfl (by first | omega | (dsimp only; omega)) ?_
        repeat (first | refine a_op (fun _ => rfl) ?_ | refine a_load rfl (by assumption) rfl ?_ | refine a_load_at rfl (by assumption) (by assumption) ?_ | refine a_iaddr_at rfl rfl (by assumption) ?_ | refine a_iaddr_l rfl rfl (by assumption) rfl ?_ | refine st_load_r rfl rfl ?_ | refine a_cmp rfl rfl rfl ?_ | refine a_eqi rfl rfl ?_ | refine st_not rfl ?_ | refine st_pick_t rfl rfl rfl ?_ | refine st_pick_f rfl rfl rfl ?_ | refine st_g rfl ?_ | refine a_gtf rfl ?_ | refine a_gft rfl ?_ | refine a_gu rfl ?_ | refine a_mklist (ec rfl en) (mz mkn) ?_ | refine a_mid ?_)
        first | refine a_endq (by repeat (first | exact pr_nil | (apply pr_cons; rfl))) ?_ | refine a_end (by repeat (first | exact pr_nil | (apply pr_cons; rfl))) ?_
        refine lo_n ⟨(j + 1, fupd S2 j true, h9), hjl, fun w h => ?_, fun w hw hhw => ?_, ?_⟩ (by show I.m - (j + 1) < I.m - j; omega) (WeakF.refl _ _)
        · show fupd S2 j true w = true
          unfold fupd
          split
          · rfl
          · exact hSS w h
        · show fupd S2 j true w = true
          unfold fupd
          split
          · rfl
          · rename_i hne
            have hw : w < j + 1 := hw
            exact hin w (by omega) hhw
        · rw [sumUp_succ, show hereW t.abs k j = bodW t.abs j from if_pos hh, ← Int.add_assoc]
          exact sB
      · have hh : t.here k j = false := by simpa using hh
        refine a_load_rg (F := hereC I.bid (t.here k)) (v := .nilptr) rfl gh hjl (by unfold hereC; rw [hh]; rfl) ?_
        repeat (first | refine a_op (fun _ => rfl) ?_ | refine a_load rfl (by assumption) rfl ?_ | refine a_load_at rfl (by assumption) (by assumption) ?_ | refine a_iaddr_at rfl rfl (by assumption) ?_ | refine a_iaddr_l rfl rfl (by assumption) rfl ?_ | refine st_load_r rfl rfl ?_ | refine a_cmp rfl rfl rfl ?_ | refine a_eqi rfl rfl ?_ | refine st_not rfl ?_ | refine st_pick_t rfl rfl rfl ?_ | refine st_pick_f rfl rfl rfl ?_ | refine st_g rfl ?_ | refine a_gtf rfl ?_ | refine a_gft rfl ?_ | refine a_gu rfl ?_ | refine a_mklist (ec rfl en) (mz mkn) ?_ | refine a_mid ?_)
        first | refine a_endq (by repeat (first | exact pr_nil | (apply pr_cons; rfl))) ?_ | refine a_end (by repeat (first | exact pr_nil | (apply pr_cons; rfl))) ?_
        refine q_reg ?_
        repeat (first | refine a_op (fun _ => rfl) ?_ | refine a_load rfl (by assumption) rfl ?_ | refine a_load_at rfl (by assumption) (by assumption) ?_ | refine a_iaddr_at rfl rfl (by assumption) ?_ | refine a_iaddr_l rfl rfl (by assumption) rfl ?_ | refine st_load_r rfl rfl ?_ | refine a_cmp rfl rfl rfl ?_ | refine a_eqi rfl rfl ?_ | refine st_not rfl ?_ | refine st_pick_t rfl rfl rfl ?_ | refine st_pick_f rfl rfl rfl ?_ | refine st_g rfl ?_ | refine a_gtf rfl ?_ | refine a_gft rfl ?_ | refine a_gu rfl ?_ | refine a_mklist (ec rfl en) (mz mkn) ?_ | refine a_mid ?_)
        refine a_eqp0 rfl rfl ?_
        repeat (first | refine a_op (fun _ => rfl) ?_ | refine a_load rfl (by assumption) rfl ?_ | refine a_load_at rfl (by assumption) (by assumption) ?_ | refine a_iaddr_at rfl rfl (by assumption) ?_ | refine a_iaddr_l rfl rfl (by assumption) rfl ?_ | refine st_load_r rfl rfl ?_ | refine a_cmp rfl rfl rfl ?_ | refine a_eqi rfl rfl ?_ | refine st_not rfl ?_ | refine st_pick_t rfl rfl rfl ?_ | refine st_pick_f rfl rfl rfl ?_ | refine st_g rfl ?_ | refine a_gtf rfl ?_ | refine a_gft rfl ?_ | refine a_gu rfl ?_ | refine a_mklist (ec rfl en) (mz mkn) ?_ | refine a_mid ?_)
        first | refine a_endq (by repeat (first | exact pr_nil | (apply pr_cons; rfl))) ?_ | refine a_end (by repeat (first | exact pr_nil | (apply pr_cons; rfl))) ?_
        refine s_cond_f rfl (sc_skip (bl_n (id := 3) (sq_n (s_reg ?_))))
        repeat (first | refine a_op (fun _ => rfl) ?_ | refine a_load rfl (by assumption) rfl ?_ | refine a_load_at rfl (by assumption) (by assumption) ?_ | refine a_iaddr_at rfl rfl (by assumption) ?_ | refine a_iaddr_l rfl rfl (by assumption) rfl ?_ | refine st_load_r rfl rfl ?_ | refine a_cmp rfl rfl rfl ?_ | refine a_eqi rfl rfl ?_ | refine st_not rfl ?_ | refine st_pick_t rfl rfl rfl ?_ | refine st_pick_f rfl rfl rfl ?_ | refine st_g rfl ?_ | refine a_gtf rfl ?_ | refine a_gft rfl ?_ | refine a_gu rfl ?_ | refine a_mklist (ec rfl en) (mz mkn) ?_ | refine a_mid ?_)
        refine a_add rfl rfl (by first | omega | (dsimp only; omega)) ?_
        repeat (first | refine a_op (fun _ => rfl) ?_ | refine a_load rfl (by assumption) rfl ?_ | refine a_load_at rfl (by assumption) (by assumption) ?_ | refine a_iaddr_at rfl rfl (by assumption) ?_ | refine a_iaddr_l rfl rfl (by assumption) rfl ?_ | refine st_load_r rfl rfl ?_ | refine a_cmp rfl rfl rfl ?_ | refine a_eqi rfl rfl ?_ | refine st_not rfl ?_ | refine st_pick_t rfl rfl rfl ?_ | refine st_pick_f rfl rfl rfl ?_ | refine st_g rfl ?_ | refine a_gtf rfl ?_ | refine a_gft rfl ?_ | refine a_gu rfl ?_ | refine a_mklist (ec rfl en) (mz mkn) ?_ | refine a_mid ?_)
        first | refine a_endq (by repeat (first | exact pr_nil | (apply pr_cons; rfl))) ?_ | refine a_end (by repeat (first | exact pr_nil | (apply pr_cons; rfl))) ?_
        refine lo_n ⟨(j + 1, S2, h8), hjl, hSS, fun w hw hhw => ?_, ?_⟩ (by show I.m - (j + 1) < I.m - j; omega) (WeakF.refl _ _)
        · have hw : w < j + 1 := hw
          have hne : w ≠ j := fun e => by rw [e, hh] at hhw; cases hhw
          exact hin w (by omega) hhw
        · rw [sumUp_succ, show hereW t.abs k j = 0 from if_neg (by show ¬ t.here k j = true; rw [hh]; decide), Int.add_zero]
          exact sA
    · have hjl : ¬ j < I.m := by have := of_decide_eq_false hz2; dsimp only at this; omega
      have hjm : j = I.m := by omega
      subst hjm
      refine sc_exit (sq_x (lo_x (bl_x (bl_n (id := 1) (sq_n (s_reg ?_))))))
      repeat (first | refine a_op (fun _ => rfl) ?_ | refine a_load rfl (by assumption) rfl ?_ | refine a_load_at rfl (by assumption) (by assumption) ?_ | refine a_iaddr_at rfl rfl (by assumption) ?_ | refine a_iaddr_l rfl rfl (by assumption) rfl ?_ | refine st_load_r rfl rfl ?_ | refine a_cmp rfl rfl rfl ?_ | refine a_eqi rfl rfl ?_ | refine st_not rfl ?_ | refine st_pick_t rfl rfl rfl ?_ | refine st_pick_f rfl rfl rfl ?_ | refine st_g rfl ?_ | refine a_gtf rfl ?_ | refine a_gft rfl ?_ | refine a_gu rfl ?_ | refine a_mklist (ec rfl en) (mz mkn) ?_ | refine a_mid ?_)
      refine a_add rfl rfl (by first | omega | (dsimp only; omega)) ?_
      repeat (first | refine a_op (fun _ => rfl) ?_ | refine a_load rfl (by assumption) rfl ?_ | refine a_load_at rfl (by assumption) (by assumption) ?_ | refine a_iaddr_at rfl rfl (by assumption) ?_ | refine a_iaddr_l rfl rfl (by assumption) rfl ?_ | refine st_load_r rfl rfl ?_ | refine a_cmp rfl rfl rfl ?_ | refine a_eqi rfl rfl ?_ | refine st_not rfl ?_ | refine st_pick_t rfl rfl rfl ?_ | refine st_pick_f rfl rfl rfl ?_ | refine st_g rfl ?_ | refine a_gtf rfl ?_ | refine a_gft rfl ?_ | refine a_gu rfl ?_ | refine a_mklist (ec rfl en) (mz mkn) ?_ | refine a_mid ?_)
      first | refine a_endq (by repeat (first | exact pr_nil | (apply pr_cons; rfl))) ?_ | refine a_end (by repeat (first | exact pr_nil | (apply pr_cons; rfl))) ?_
      refine lo_n ⟨(k + 1, S2, h8), hkl, fun i w hi hw hhw => ?_, ?_⟩ (by show I.K - (k + 1) < I.K - k; omega) (WeakF.refl _ _)
      · have hi : i < k + 1 := hi
        by_cases hik : i = k
        · rw [hik] at hhw
          exact hin w hw hhw
        · exact hSS w (hS i w (by omega) hw hhw)
      · rw [sumUp_succ, show nodeW t.abs I.m k = ((t.waits k).l.length : Int) + sumUp I.m (hereW t.abs k) from rfl, ← Int.add_assoc]
        exact sA
  · have hkl : ¬ k < I.K := by have := of_decide_eq_false hz; dsimp only at this; omega
    have hkK : k = I.K := by omega
    subst hkK
    have hb := hns I.K (Nat.le_refl _)
    exact sc_exit (sq_x (lo_x (bl_x (sq_n (SC.weak ws (r58b ok hB hE hP hS rfl (by omega) s6 kk))))))
end Go.Hw.VM

