import Derived.Test.YtonoaimefgodfaaHwMoA
set_option linter.unusedVariables false
set_option linter.unusedSimpArgs false
namespace Go.Hw.VM
open Go Go.Proofs

theorem itS (ids : Nat → Nat) (x : It) : (eIt ids x).strip1 = eIt ids x := by
  unfold eIt itP
  split <;> rfl
theorem encw_it (ids : Nat → Nat) : EncW (eIt ids) 8 := ⟨fun _ => rfl, fun _ => rfl, itS ids⟩
abbrev wayO (ids : Nat → Nat) (g : GM Key (RW It)) : HObj := g.obj eKey (RW.hv (eIt ids))
structure GOk (B : Nat) (g : GM Key (RW It)) : Prop where
  rows : ∀ q ∈ g.es, q.2.2.ok 8 ∧ q.2.2.l.length ≤ B
  wf : g.wf
  stamps : g.stamps
theorem GOk.row {g : GM Key (RW It)} {B : Nat} (ok : GOk B g) (k : Key) : ((g.get k).getD RW.nil).ok 8 ∧ ((g.get k).getD RW.nil).l.length ≤ B := by
  cases hg : g.get k with
  | none => exact ⟨trivial, Nat.zero_le _⟩
  | some r =>
    obtain ⟨n, hn⟩ := GM.get_mem hg
    exact ok.rows _ hn
theorem GOk.put {g : GM Key (RW It)} {B B' : Nat} (ok : GOk B g) (k : Key) {r : RW It} (h1 : r.ok 8) (h2 : r.l.length ≤ B') (hB : B ≤ B') : GOk B' (g.put k r) := by
  refine ⟨fun q hq => ?_, GM.put_wf ok.wf k r, put_stamps ok.wf ok.stamps k r⟩
  rcases put_mem hq with hq | hq
  · exact ⟨(ok.rows q hq).1, Nat.le_trans (ok.rows q hq).2 hB⟩
  · rw [hq]; exact ⟨h1, h2⟩
theorem GOk.le {g : GM Key (RW It)} {B B' : Nat} (ok : GOk B g) (hB : B ≤ B') : GOk B' g := ⟨fun q hq => ⟨(ok.rows q hq).1, Nat.le_trans (ok.rows q hq).2 hB⟩, ok.wf, ok.stamps⟩
def wadd (g : GM Key (List It)) (k : Key) (x : It) : GM Key (List It) := g.put k ((g.get k).getD [] ++ [x])
theorem wadd_abs {g : GM Key (RW It)} {k : Key} {x : It} {r' : RW It} (h : r'.l = ((g.get k).getD RW.nil).l ++ [x]) : gmap RW.l (g.put k r') = wadd (gmap RW.l g) k x := by
  rw [gmap_put, h]
  unfold wadd
  rw [gmap_get]
  cases g.get k <;> rfl
theorem nat_ne {a b : Nat} (h : a ≠ b) : ((a : Int) == (b : Int)) = false := by
  simp only [beq_eq_false_iff_ne]
  omega
theorem r70 {h : Heap} {R : Lay} {ids : Nat → Nat} {A : HV} {w mid B a b : Nat} {g : GM Key (RW It)} {x : It} (ok : GOk B g) (hB : B ≤ 1000000000) (hab : a ≠ b) (hs : Sep h ((w, .cells [A, .map mid]) :: (mid, wayO ids g) :: (mlay g ++ R))) {Q : HV → Heap → Prop}
    (kk : ∀ (h' : Heap) (g' : GM Key (RW It)), GOk (B + 1) g' → gmap RW.l g' = wadd (gmap RW.l g) ((a : Int), (b : Int)) x → Sep h' ((w, .cells [A, .map mid]) :: (mid, wayO ids g') :: (mlay g' ++ R)) → Q (.tuple []) h') : HCalls Try.prog 70 [.ptr w 0, ii (a : Int), ii (b : Int), eIt ids x] h Q := by
  refine sc_func2 (rs := []) Try.func70 rfl (by decide) (by kernel_rfl) (lb rfl) hk70 ?_
  show SC Try.prog Try.f70.ntmps _ hc70 _ [(0, .ptr w 0), (1, ii (a : Int)), (2, ii (b : Int)), (3, .agg (itC x (itP ids x)))] h
  unfold hc70
  obtain ⟨p, hp⟩ : ∃ p, p = itP ids x := ⟨_, rfl⟩
  rw [← hp]
  have hpx : eIt ids x = .agg (itC x p) := by unfold eIt; rw [hp]
  have hpS : (HV.agg (itC x p)).strip1 = eIt ids x := by rw [← hpx, itS]
  refine q_reg (a_box rfl rfl rfl ?_)
  repeat (first | refine a_op (fun _ => rfl) ?_ | refine a_load rfl (by assumption) rfl ?_ | refine a_load_at rfl (by assumption) (by assumption) ?_ | refine a_iaddr_at rfl rfl (by assumption) ?_ | refine a_iaddr_l rfl rfl (by assumption) rfl ?_ | refine st_load_r rfl rfl ?_ | refine a_cmp rfl rfl rfl ?_ | refine a_eqi rfl rfl ?_ | refine st_not rfl ?_ | refine st_pick_t rfl rfl rfl ?_ | refine st_pick_f rfl rfl rfl ?_ | refine st_g rfl ?_ | refine a_gtf rfl ?_ | refine a_gft rfl ?_ | refine a_gu rfl ?_ | refine a_mklist (ec rfl en) (mz mkn) ?_ | refine a_mid ?_)
  first | refine a_endq (by repeat (first | exact pr_nil | (apply pr_cons; rfl))) ?_ | refine a_end (by repeat (first | exact pr_nil | (apply pr_cons; rfl))) ?_
  have s1 := hs.new (.cells (itC x p))
  change SC _ _ _ _ _ [(0, HV.ptr w 0), (1, ii (a : Int)), (2, ii (b : Int)), (7, .ptr h.length 0)] (h ++ [HObj.cells (itC x p)])
  generalize h.length = d at s1 ⊢
  generalize h ++ [HObj.cells (itC x p)] = h1 at s1 ⊢
  refine sc_seq (q_reg ?_)
  repeat (first | refine a_op (fun _ => rfl) ?_ | refine a_load rfl (by assumption) rfl ?_ | refine a_load_at rfl (by assumption) (by assumption) ?_ | refine a_iaddr_at rfl rfl (by assumption) ?_ | refine a_iaddr_l rfl rfl (by assumption) rfl ?_ | refine st_load_r rfl rfl ?_ | refine a_cmp rfl rfl rfl ?_ | refine a_eqi rfl rfl ?_ | refine st_not rfl ?_ | refine st_pick_t rfl rfl rfl ?_ | refine st_pick_f rfl rfl rfl ?_ | refine st_g rfl ?_ | refine a_gtf rfl ?_ | refine a_gft rfl ?_ | refine a_gu rfl ?_ | refine a_mklist (ec rfl en) (mz mkn) ?_ | refine a_mid ?_)
  first | refine a_endq (by repeat (first | exact pr_nil | (apply pr_cons; rfl))) ?_ | refine a_end (by repeat (first | exact pr_nil | (apply pr_cons; rfl))) ?_
  have e1 : (if false = true then !((a : Int) == (b : Int)) else (a : Int) == (b : Int)) = false := by rw [if_neg (by decide)]; exact nat_ne hab
  simp only [e1]
  refine s_cond_f rfl (sc_skip (sq_n (q_reg ?_)))
  repeat (first | refine a_op (fun _ => rfl) ?_ | refine a_load rfl (by assumption) rfl ?_ | refine a_load_at rfl (by assumption) (by assumption) ?_ | refine a_iaddr_at rfl rfl (by assumption) ?_ | refine a_iaddr_l rfl rfl (by assumption) rfl ?_ | refine st_load_r rfl rfl ?_ | refine a_cmp rfl rfl rfl ?_ | refine a_eqi rfl rfl ?_ | refine st_not rfl ?_ | refine st_pick_t rfl rfl rfl ?_ | refine st_pick_f rfl rfl rfl ?_ | refine st_g rfl ?_ | refine a_gtf rfl ?_ | refine a_gft rfl ?_ | refine a_gu rfl ?_ | refine a_mklist (ec rfl en) (mz mkn) ?_ | refine a_mid ?_)
  refine a_alloc ?_
  refine a_store rfl rfl (List.getElem?_concat_length) ⟨rfl, lb rfl, rfl⟩ ?_
  repeat (first | refine a_op (fun _ => rfl) ?_ | refine a_load rfl (by assumption) rfl ?_ | refine a_load_at rfl (by assumption) (by assumption) ?_ | refine a_iaddr_at rfl rfl (by assumption) ?_ | refine a_iaddr_l rfl rfl (by assumption) rfl ?_ | refine st_load_r rfl rfl ?_ | refine a_cmp rfl rfl rfl ?_ | refine a_eqi rfl rfl ?_ | refine st_not rfl ?_ | refine st_pick_t rfl rfl rfl ?_ | refine st_pick_f rfl rfl rfl ?_ | refine st_g rfl ?_ | refine a_gtf rfl ?_ | refine a_gft rfl ?_ | refine a_gu rfl ?_ | refine a_mklist (ec rfl en) (mz mkn) ?_ | refine a_mid ?_)
  first | refine a_endq (by repeat (first | exact pr_nil | (apply pr_cons; rfl))) ?_ | refine a_end (by repeat (first | exact pr_nil | (apply pr_cons; rfl))) ?_
  have s2 := Sep.set (A := []) (s1.new (.cells [ii 0, ii 0])) (.cells [ii (a : Int), ii (b : Int)])
  change SC _ _ _ _ _ [(0, HV.ptr w 0), (7, .ptr d 0), (8, .ptr h1.length 0)] ((h1 ++ [HObj.cells [ii 0, ii 0]]).set h1.length (.cells [ii (a : Int), ii (b : Int)]))
  generalize h1.length = v at s2 ⊢
  generalize (h1 ++ [HObj.cells [ii 0, ii 0]]).set v (.cells [ii (a : Int), ii (b : Int)]) = h2 at s2 ⊢
  simp only [List.nil_append] at s2
  clear s1 hs e1
  obtain ⟨hro, hrl⟩ := ok.row ((a : Int), (b : Int))
  obtain ⟨L1, L2, l1, l2⟩ := mlay_at g ((a : Int), (b : Int))
  obtain ⟨r0, hr0⟩ : ∃ r0, (g.get ((a : Int), (b : Int))).getD RW.nil = r0 := ⟨_, rfl⟩
  rw [hr0] at hro hrl l1
  have gd : h2[d]? = some (.cells (itC x p)) := s2.get (by simp)
  have gv : h2[v]? = some (.cells [ii (a : Int), ii (b : Int)]) := s2.get (by simp)
  have gw : h2[w]? = some (.cells [A, .map mid]) := s2.get (by simp)
  have gm : h2[mid]? = some (wayO ids g) := s2.get (by simp)
  refine a_dregl0 Try.mixed ?_
  repeat (first | refine a_op (fun _ => rfl) ?_ | refine a_load rfl (by assumption) rfl ?_ | refine a_load_at rfl (by assumption) (by assumption) ?_ | refine a_iaddr_at rfl rfl (by assumption) ?_ | refine a_iaddr_l rfl rfl (by assumption) rfl ?_ | refine st_load_r rfl rfl ?_ | refine a_cmp rfl rfl rfl ?_ | refine a_eqi rfl rfl ?_ | refine st_not rfl ?_ | refine st_pick_t rfl rfl rfl ?_ | refine st_pick_f rfl rfl rfl ?_ | refine st_g rfl ?_ | refine a_gtf rfl ?_ | refine a_gft rfl ?_ | refine a_gu rfl ?_ | refine a_mklist (ec rfl en) (mz mkn) ?_ | refine a_mid ?_)
  refine a_mapentry (fk := eKey) (fv := RW.hv (eIt ids)) (z0 := RW.nil) (v0 := r0) (q := ((a : Int), (b : Int))) (g := g) enck_key ok.wf ok.stamps rfl rfl gm rfl hr0 (fun stamp hst => ?_)
  have s3 : Sep (h2.set mid (wayO ids (g.put ((a : Int), (b : Int)) r0))) (((w, .cells [A, .map mid]) :: (mid, wayO ids (g.put ((a : Int), (b : Int)) r0)) :: L1) ++ (r0.lay ++ (L2 ++ R))) := by
    refine (s2.sub ((List.sublist_cons_self _ _).trans (List.sublist_cons_self _ _))).upd (M := (w, .cells [A, .map mid]) :: (mlay g ++ R)) (i := mid) (o := wayO ids g) (perm_c fun c e ca cc c0 cp => ?_) (perm_c fun c e ca cc c0 cp => ?_)
    · simp only [ca, cc, c0]; omega
    · simp only [wayO, l1, ca, cc, c0]; omega
  generalize h2.set mid _ = h3 at s3 ⊢
  repeat (first | refine a_op (fun _ => rfl) ?_ | refine a_load rfl (by assumption) rfl ?_ | refine a_load_at rfl (by assumption) (by assumption) ?_ | refine a_iaddr_at rfl rfl (by assumption) ?_ | refine a_iaddr_l rfl rfl (by assumption) rfl ?_ | refine st_load_r rfl rfl ?_ | refine a_cmp rfl rfl rfl ?_ | refine a_eqi rfl rfl ?_ | refine st_not rfl ?_ | refine st_pick_t rfl rfl rfl ?_ | refine st_pick_f rfl rfl rfl ?_ | refine st_g rfl ?_ | refine a_gtf rfl ?_ | refine a_gft rfl ?_ | refine a_gu rfl ?_ | refine a_mklist (ec rfl en) (mz mkn) ?_ | refine a_mid ?_)
  refine a_app (f := eIt ids) (rw_ := r0) (ys := [x]) (encw_it ids) rfl (by show some (HV.list [(HV.agg (itC x p)).strip1] Tok.full) = some (HV.list [eIt ids x] Tok.full); rw [hpS]) hro s3 (by simp; omega) (fun r' h4 hl' hr' s5 => ?_)
  repeat (first | refine a_op (fun _ => rfl) ?_ | refine a_load rfl (by assumption) rfl ?_ | refine a_load_at rfl (by assumption) (by assumption) ?_ | refine a_iaddr_at rfl rfl (by assumption) ?_ | refine a_iaddr_l rfl rfl (by assumption) rfl ?_ | refine st_load_r rfl rfl ?_ | refine a_cmp rfl rfl rfl ?_ | refine a_eqi rfl rfl ?_ | refine st_not rfl ?_ | refine st_pick_t rfl rfl rfl ?_ | refine st_pick_f rfl rfl rfl ?_ | refine st_g rfl ?_ | refine a_gtf rfl ?_ | refine a_gft rfl ?_ | refine a_gu rfl ?_ | refine a_mklist (ec rfl en) (mz mkn) ?_ | refine a_mid ?_)
  have gm4 : h4[mid]? = some (wayO ids (g.put ((a : Int), (b : Int)) r0)) := s5.get (by simp)
  refine a_entryset (fk := eKey) (fv := RW.hv (eIt ids)) (n := stamp) (v := r') rfl rfl rfl rfl gm4 (hst r') ?_
  repeat (first | refine a_op (fun _ => rfl) ?_ | refine a_load rfl (by assumption) rfl ?_ | refine a_load_at rfl (by assumption) (by assumption) ?_ | refine a_iaddr_at rfl rfl (by assumption) ?_ | refine a_iaddr_l rfl rfl (by assumption) rfl ?_ | refine st_load_r rfl rfl ?_ | refine a_cmp rfl rfl rfl ?_ | refine a_eqi rfl rfl ?_ | refine st_not rfl ?_ | refine st_pick_t rfl rfl rfl ?_ | refine st_pick_f rfl rfl rfl ?_ | refine st_g rfl ?_ | refine a_gtf rfl ?_ | refine a_gft rfl ?_ | refine a_gu rfl ?_ | refine a_mklist (ec rfl en) (mz mkn) ?_ | refine a_mid ?_)
  first | refine a_endq (by repeat (first | exact pr_nil | (apply pr_cons; rfl))) ?_ | refine a_end (by repeat (first | exact pr_nil | (apply pr_cons; rfl))) ?_
  refine x_ret _ rfl (kk _ (g.put ((a : Int), (b : Int)) r') (ok.put _ hr' (by rw [hl']; simp; omega) (by omega)) (wadd_abs (by rw [hl', hr0])) ?_)
  refine s5.upd (M := (w, .cells [A, .map mid]) :: (L1 ++ (r'.lay ++ (L2 ++ R)))) (i := mid) (o := wayO ids (g.put ((a : Int), (b : Int)) r0)) (perm_c fun c e ca cc c0 cp => ?_) (perm_c fun c e ca cc c0 cp => ?_)
  · simp only [wayO, ca, cc, c0]; omega
  · simp only [wayO, l2, ca, cc, c0]; omega
end Go.Hw.VM

