import Derived.Test.YtonoaimefgodfaaHwMoF
set_option linter.unusedVariables false
set_option linter.unusedSimpArgs false
namespace Go.Hw.VM
open Go Go.Proofs

theorem r57c {h : Heap} {R : Lay} {I : Ids} {t : Ct} {B bx md a b : Nat} {nn w : Int} {E : Env} (ok : t.ok I B) (hB : B ≤ 600000000) (hb : b < I.K) (hkd : ∀ q ∈ t.g.es, ∀ x ∈ q.2.2.l, x.kind = 1 ∨ x.kind = 2 ∨ x.kind = 3) (hq : (t.waits b).l.length ≤ 1000)
    (hs : Sep h (lay I t ++ ((md, .cells [ii 3, ii (a : Int), ii (b : Int), ii w, ii nn]) :: (bx, .cells [.ptr I.w 0]) :: R))) {Q : HV → Heap → Prop}
    (kk : ∀ (h' : Heap) (t' : Ct), t'.ok I (B + 4000) → t'.abs = nextF t.abs a b → Sep h' (lay I t' ++ R) → Q (.tuple []) h') :
    SC Try.prog Try.f57.ntmps bx p57c (BlkS 0 (RetS2 [] bx Q)) ((2, .ptr bx 0) :: (3, .ptr md 0) :: E) h := by
  unfold p57c
  have gd : h[md]? = some (.cells [ii 3, ii (a : Int), ii (b : Int), ii w, ii nn]) := hs.get (by simp)
  refine q_reg ?_
  repeat (first | refine a_op (fun _ => rfl) ?_ | refine a_load rfl (by assumption) rfl ?_ | refine a_load_at rfl (by assumption) (by assumption) ?_ | refine a_iaddr_at rfl rfl (by assumption) ?_ | refine a_iaddr_l rfl rfl (by assumption) rfl ?_ | refine st_load_r rfl rfl ?_ | refine a_cmp rfl rfl rfl ?_ | refine a_eqi rfl rfl ?_ | refine st_not rfl ?_ | refine st_pick_t rfl rfl rfl ?_ | refine st_pick_f rfl rfl rfl ?_ | refine st_g rfl ?_ | refine a_gtf rfl ?_ | refine a_gft rfl ?_ | refine a_gu rfl ?_ | refine a_mklist (ec rfl en) (mz mkn) ?_ | refine a_mid ?_)
  refine a_alloc ?_
  refine a_store rfl rfl (List.getElem?_concat_length) ⟨rfl, lb rfl, rfl⟩ ?_
  repeat (first | refine a_op (fun _ => rfl) ?_ | refine a_load rfl (by assumption) rfl ?_ | refine a_load_at rfl (by assumption) (by assumption) ?_ | refine a_iaddr_at rfl rfl (by assumption) ?_ | refine a_iaddr_l rfl rfl (by assumption) rfl ?_ | refine st_load_r rfl rfl ?_ | refine a_cmp rfl rfl rfl ?_ | refine a_eqi rfl rfl ?_ | refine st_not rfl ?_ | refine st_pick_t rfl rfl rfl ?_ | refine st_pick_f rfl rfl rfl ?_ | refine st_g rfl ?_ | refine a_gtf rfl ?_ | refine a_gft rfl ?_ | refine a_gu rfl ?_ | refine a_mklist (ec rfl en) (mz mkn) ?_ | refine a_mid ?_)
  first | refine a_endq (by repeat (first | exact pr_nil | (apply pr_cons; rfl))) ?_ | refine a_end (by repeat (first | exact pr_nil | (apply pr_cons; rfl))) ?_
  have s2 := Sep.set (A := []) (hs.new (.cells [ii 0, ii 0])) (.cells [ii (a : Int), ii (b : Int)])
  change SC _ _ _ _ _ [(2, HV.ptr bx 0), (3, .ptr md 0), (11, .ptr h.length 0)] ((h ++ [HObj.cells [ii 0, ii 0]]).set h.length (.cells [ii (a : Int), ii (b : Int)]))
  generalize h.length = c at s2 ⊢
  generalize (h ++ [HObj.cells [ii 0, ii 0]]).set c (.cells [ii (a : Int), ii (b : Int)]) = h2 at s2 ⊢
  clear hs gd h
  obtain ⟨RR, hRR⟩ : ∃ RR : Lay, RR = (c, HObj.cells [ii (a : Int), ii (b : Int)]) :: (md, .cells [ii 3, ii (a : Int), ii (b : Int), ii w, ii nn]) :: (bx, .cells [.ptr I.w 0]) :: R := ⟨_, rfl⟩
  have s2 : Sep h2 (lay I t ++ RR) := by rw [hRR]; exact s2.perm List.perm_middle.symm
  have mc : (c, HObj.cells [ii (a : Int), ii (b : Int)]) ∈ RR := by rw [hRR]; simp
  have mm : (md, HObj.cells [ii 3, ii (a : Int), ii (b : Int), ii w, ii nn]) ∈ RR := by rw [hRR]; simp
  have mb : (bx, HObj.cells [.ptr I.w 0]) ∈ RR := by rw [hRR]; simp
  have hsub : R.Sublist RR := by rw [hRR]; exact (List.sublist_cons_self _ _).trans ((List.sublist_cons_self _ _).trans (List.sublist_cons_self _ _))
  clear hRR
  have gc : h2[c]? = some (.cells [ii (a : Int), ii (b : Int)]) := s2.get (List.mem_append_right _ mc)
  have gb : h2[bx]? = some (.cells [.ptr I.w 0]) := s2.get (List.mem_append_right _ mb)
  have gw : h2[I.w]? = some (netO I) := s2.get (mem_w _)
  have gm : h2[I.mid]? = some (wayO I.bid t.g) := s2.get (mem_m _)
  obtain ⟨⟨l0, tok⟩, hr0⟩ : ∃ r0, (t.g.get ((a : Int), (b : Int))).getD RW.nil = r0 := ⟨_, rfl⟩
  refine a_dreg0 Try.mixed ?_
  repeat (first | refine a_op (fun _ => rfl) ?_ | refine a_load rfl (by assumption) rfl ?_ | refine a_load_at rfl (by assumption) (by assumption) ?_ | refine a_iaddr_at rfl rfl (by assumption) ?_ | refine a_iaddr_l rfl rfl (by assumption) rfl ?_ | refine st_load_r rfl rfl ?_ | refine a_cmp rfl rfl rfl ?_ | refine a_eqi rfl rfl ?_ | refine st_not rfl ?_ | refine st_pick_t rfl rfl rfl ?_ | refine st_pick_f rfl rfl rfl ?_ | refine st_g rfl ?_ | refine a_gtf rfl ?_ | refine a_gft rfl ?_ | refine a_gu rfl ?_ | refine a_mklist (ec rfl en) (mz mkn) ?_ | refine a_mid ?_)
  refine a_lookupE (fk := eKey) (fv := RW.hv (eIt I.bid)) (z0 := RW.nil) (q := ((a : Int), (b : Int))) (g := t.g) enck_key rfl rfl gm rfl hr0 ?_
  repeat (first | refine a_op (fun _ => rfl) ?_ | refine a_load rfl (by assumption) rfl ?_ | refine a_load_at rfl (by assumption) (by assumption) ?_ | refine a_iaddr_at rfl rfl (by assumption) ?_ | refine a_iaddr_l rfl rfl (by assumption) rfl ?_ | refine st_load_r rfl rfl ?_ | refine a_cmp rfl rfl rfl ?_ | refine a_eqi rfl rfl ?_ | refine st_not rfl ?_ | refine st_pick_t rfl rfl rfl ?_ | refine st_pick_f rfl rfl rfl ?_ | refine st_g rfl ?_ | refine a_gtf rfl ?_ | refine a_gft rfl ?_ | refine a_gu rfl ?_ | refine a_mklist (ec rfl en) (mz mkn) ?_ | refine a_mid ?_)
  first | refine a_endq (by repeat (first | exact pr_nil | (apply pr_cons; rfl))) ?_ | refine a_end (by repeat (first | exact pr_nil | (apply pr_cons; rfl))) ?_
  obtain ⟨hro, hrl⟩ := ok.g.row ((a : Int), (b : Int))
  rw [hr0] at hro hrl
  have hmem : ∀ x ∈ l0, x.ok I ∧ (x.kind = 1 ∨ x.kind = 2 ∨ x.kind = 3) := by
    cases hg : t.g.get ((a : Int), (b : Int)) with
    | none =>
      rw [hg] at hr0
      injection hr0 with h1 h2
      intro x hx
      rw [← h1] at hx
      simp [RW.nil] at hx
    | some r =>
      rw [hg] at hr0
      have hr0 : r = ⟨l0, tok⟩ := hr0
      obtain ⟨n, hn⟩ := GM.get_mem hg
      intro x hx
      rw [hr0] at hn
      exact ⟨ok.itg _ hn x hx, hkd _ hn x hx⟩
  have hget : (t.abs.ways.get ((a : Int), (b : Int))).getD [] = l0 := by
    show ((gmap RW.l t.g).get _).getD [] = _
    rw [gmap_get]
    cases hg : t.g.get ((a : Int), (b : Int)) with
    | none => rw [hg] at hr0; injection hr0
    | some r => rw [hg] at hr0; have hr0 : r = ⟨l0, tok⟩ := hr0; rw [hr0]; rfl
  cases l0 with
  | nil =>
    refine s_cond_f rfl (sc_skip (bl_n (x_ret _ rfl (kk h2 t (ok.le (by omega)) (nextF_nil hget).symm (s2.sub (hsub.append_left _))))))
  | cons x r =>
    rw [nextF_cons hget] at kk
    obtain ⟨hxo, hxk⟩ := hmem x (by simp)
    refine sc_cond (t := decide (((((x :: r).map (eIt I.bid)).length : Nat) : Int) > 0)) rfl (fun _ => ?_) (fun hc => ?_)
    · refine a_dreg Try.mixed ?_
      have s3 := s2.new .res
      change HO _ h2.length _ _ (h2 ++ [.res]) _
      generalize h2.length = v at s3 ⊢
      generalize h2 ++ [HObj.res] = h3 at s3 ⊢
      have gc : h3[c]? = some (.cells [ii (a : Int), ii (b : Int)]) := s3.get (List.mem_cons_of_mem _ (List.mem_append_right _ mc))
      have gb : h3[bx]? = some (.cells [.ptr I.w 0]) := s3.get (List.mem_cons_of_mem _ (List.mem_append_right _ mb))
      have gw : h3[I.w]? = some (netO I) := s3.get (List.mem_cons_of_mem _ (mem_w _))
      have gm : h3[I.mid]? = some (wayO I.bid t.g) := s3.get (List.mem_cons_of_mem _ (mem_m _))
      have gv : h3[v]? = some .res := s3.get (by simp)
      repeat (first | refine a_op (fun _ => rfl) ?_ | refine a_load rfl (by assumption) rfl ?_ | refine a_load_at rfl (by assumption) (by assumption) ?_ | refine a_iaddr_at rfl rfl (by assumption) ?_ | refine a_iaddr_l rfl rfl (by assumption) rfl ?_ | refine st_load_r rfl rfl ?_ | refine a_cmp rfl rfl rfl ?_ | refine a_eqi rfl rfl ?_ | refine st_not rfl ?_ | refine st_pick_t rfl rfl rfl ?_ | refine st_pick_f rfl rfl rfl ?_ | refine st_g rfl ?_ | refine a_gtf rfl ?_ | refine a_gft rfl ?_ | refine a_gu rfl ?_ | refine a_mklist (ec rfl en) (mz mkn) ?_ | refine a_mid ?_)
      refine a_lookupE (fk := eKey) (fv := RW.hv (eIt I.bid)) (z0 := RW.nil) (q := ((a : Int), (b : Int))) (g := t.g) enck_key rfl rfl gm rfl hr0 ?_
      refine a_iaddr_l (i := 0) (l := x :: r) (a := x) (f := eIt I.bid) rfl rfl rfl rfl ?_
      repeat (first | refine a_op (fun _ => rfl) ?_ | refine a_load rfl (by assumption) rfl ?_ | refine a_load_at rfl (by assumption) (by assumption) ?_ | refine a_iaddr_at rfl rfl (by assumption) ?_ | refine a_iaddr_l rfl rfl (by assumption) rfl ?_ | refine st_load_r rfl rfl ?_ | refine a_cmp rfl rfl rfl ?_ | refine a_eqi rfl rfl ?_ | refine st_not rfl ?_ | refine st_pick_t rfl rfl rfl ?_ | refine st_pick_f rfl rfl rfl ?_ | refine st_g rfl ?_ | refine a_gtf rfl ?_ | refine a_gft rfl ?_ | refine a_gu rfl ?_ | refine a_mklist (ec rfl en) (mz mkn) ?_ | refine a_mid ?_)
      refine a_allocr (id := v) rfl gv ?_
      refine a_store rfl rfl (List.getElem?_set_self (lt_of_get gv)) ⟨rfl, lb rfl, rfl⟩ ?_
      repeat (first | refine a_op (fun _ => rfl) ?_ | refine a_load rfl (by assumption) rfl ?_ | refine a_load_at rfl (by assumption) (by assumption) ?_ | refine a_iaddr_at rfl rfl (by assumption) ?_ | refine a_iaddr_l rfl rfl (by assumption) rfl ?_ | refine st_load_r rfl rfl ?_ | refine a_cmp rfl rfl rfl ?_ | refine a_eqi rfl rfl ?_ | refine st_not rfl ?_ | refine st_pick_t rfl rfl rfl ?_ | refine st_pick_f rfl rfl rfl ?_ | refine st_g rfl ?_ | refine a_gtf rfl ?_ | refine a_gft rfl ?_ | refine a_gu rfl ?_ | refine a_mklist (ec rfl en) (mz mkn) ?_ | refine a_mid ?_)
      first | refine a_endq (by repeat (first | exact pr_nil | (apply pr_cons; rfl))) ?_ | refine a_end (by repeat (first | exact pr_nil | (apply pr_cons; rfl))) ?_
      have s4 := Sep.set (A := []) (Sep.set (A := []) s3 (.cells (itC ⟨0, 0, 0, 0, 0, 0, 0⟩ .nilptr))) (.cells (itC x (itP I.bid x)))
      change SC _ _ _ _ _ [(2, HV.ptr bx 0), (3, .ptr md 0), (11, .ptr c 0), (12, .ptr v 0)] ((h3.set v (HObj.cells (itC ⟨0, 0, 0, 0, 0, 0, 0⟩ .nilptr))).set v (.cells (itC x (itP I.bid x))))
      generalize (h3.set v _).set v _ = h4 at s4 ⊢
      have s4 : Sep h4 (lay I t ++ ((v, .cells (itC x (itP I.bid x))) :: RR)) := s4.perm List.perm_middle.symm
      have gc : h4[c]? = some (.cells [ii (a : Int), ii (b : Int)]) := s4.get (List.mem_append_right _ (List.mem_cons_of_mem _ mc))
      have gb : h4[bx]? = some (.cells [.ptr I.w 0]) := s4.get (List.mem_append_right _ (List.mem_cons_of_mem _ mb))
      have gw : h4[I.w]? = some (netO I) := s4.get (mem_w _)
      have gm : h4[I.mid]? = some (wayO I.bid t.g) := s4.get (mem_m _)
      refine a_dreg0 Try.mixed ?_
      repeat (first | refine a_op (fun _ => rfl) ?_ | refine a_load rfl (by assumption) rfl ?_ | refine a_load_at rfl (by assumption) (by assumption) ?_ | refine a_iaddr_at rfl rfl (by assumption) ?_ | refine a_iaddr_l rfl rfl (by assumption) rfl ?_ | refine st_load_r rfl rfl ?_ | refine a_cmp rfl rfl rfl ?_ | refine a_eqi rfl rfl ?_ | refine st_not rfl ?_ | refine st_pick_t rfl rfl rfl ?_ | refine st_pick_f rfl rfl rfl ?_ | refine st_g rfl ?_ | refine a_gtf rfl ?_ | refine a_gft rfl ?_ | refine a_gu rfl ?_ | refine a_mklist (ec rfl en) (mz mkn) ?_ | refine a_mid ?_)
      refine a_lookupE (fk := eKey) (fv := RW.hv (eIt I.bid)) (z0 := RW.nil) (q := ((a : Int), (b : Int))) (g := t.g) enck_key rfl rfl gm rfl hr0 ?_
      refine a_cut (q := 1) (f := eIt I.bid) (w := ⟨x :: r, tok⟩) (encw_it I.bid) rfl rfl (by simp) ?_
      refine a_mapset (fk := eKey) (fv := RW.hv (eIt I.bid)) (q := ((a : Int), (b : Int))) (g := t.g) (v := ⟨r, cutTok true 1 tok⟩) enck_key rfl rfl rfl rfl gm ?_
      repeat (first | refine a_op (fun _ => rfl) ?_ | refine a_load rfl (by assumption) rfl ?_ | refine a_load_at rfl (by assumption) (by assumption) ?_ | refine a_iaddr_at rfl rfl (by assumption) ?_ | refine a_iaddr_l rfl rfl (by assumption) rfl ?_ | refine st_load_r rfl rfl ?_ | refine a_cmp rfl rfl rfl ?_ | refine a_eqi rfl rfl ?_ | refine st_not rfl ?_ | refine st_pick_t rfl rfl rfl ?_ | refine st_pick_f rfl rfl rfl ?_ | refine st_g rfl ?_ | refine a_gtf rfl ?_ | refine a_gft rfl ?_ | refine a_gu rfl ?_ | refine a_mklist (ec rfl en) (mz mkn) ?_ | refine a_mid ?_)
      first | refine a_endq (by repeat (first | exact pr_nil | (apply pr_cons; rfl))) ?_ | refine a_end (by repeat (first | exact pr_nil | (apply pr_cons; rfl))) ?_
      obtain ⟨L1, L2, l1, l2⟩ := mlay_at t.g ((a : Int), (b : Int))
      rw [hr0] at l1
      have hcl : (⟨r, cutTok true 1 tok⟩ : RW It).lay = (⟨x :: r, tok⟩ : RW It).lay := RW.cut_lay (w := (⟨x :: r, tok⟩ : RW It)) (q := 1) (by simp)
      have s5 : Sep (h4.set I.mid (wayO I.bid (t.g.put ((a : Int), (b : Int)) ⟨r, cutTok true 1 tok⟩))) (lay I { t with g := t.g.put ((a : Int), (b : Int)) ⟨r, cutTok true 1 tok⟩ } ++ ((v, .cells (itC x (itP I.bid x))) :: RR)) := by
        rw [lay_way] at s4 ⊢
        refine s4.upd (M := (I.w, netO I) :: (mlay t.g ++ (restL I t ++ ((v, .cells (itC x (itP I.bid x))) :: RR)))) (i := I.mid) (o := wayO I.bid t.g) (perm_c fun c e ca cc c0 cp => ?_) (perm_c fun c e ca cc c0 cp => ?_)
        · simp only [wayO, ca, cc, c0]; omega
        · have e1 : restL I { t with g := t.g.put ((a : Int), (b : Int)) ⟨r, cutTok true 1 tok⟩ } = restL I t := rfl
          simp only [wayO, l1, l2, hcl, e1, ca, cc, c0]; omega
      change SC _ _ _ _ _ [(2, HV.ptr bx 0), (3, .ptr md 0), (12, .ptr v 0)] (h4.set I.mid (wayO I.bid (t.g.put ((a : Int), (b : Int)) ⟨r, cutTok true 1 tok⟩)))
      generalize h4.set I.mid _ = h5 at s5 ⊢
      have ok1 : ({ t with g := t.g.put ((a : Int), (b : Int)) ⟨r, cutTok true 1 tok⟩ } : Ct).ok I B := by
        refine ⟨ok.bod, ok.g.put _ (RW.cut_ok (w := (⟨x :: r, tok⟩ : RW It)) (q := 1) hro) (by simp at hrl; show r.length ≤ B; omega) (Nat.le_refl B), ok.waits, fun q hq y hy => ?_, ok.itw, ok.hK, ok.hm⟩
        rcases put_mem hq with hq | hq
        · exact ok.itg q hq y hy
        · rw [hq] at hy
          exact (hmem y (List.mem_cons_of_mem _ hy)).1
      have hab : ({ t with g := t.g.put ((a : Int), (b : Int)) ⟨r, cutTok true 1 tok⟩ } : Ct).abs = wayF t.abs a b r := by
        simp only [Ct.abs, wayF, gmap_put]
      rw [← hab] at kk
      have gd : h5[md]? = some (.cells [ii 3, ii (a : Int), ii (b : Int), ii w, ii nn]) := s5.get (List.mem_append_right _ (List.mem_cons_of_mem _ mm))
      have gb : h5[bx]? = some (.cells [.ptr I.w 0]) := s5.get (List.mem_append_right _ (List.mem_cons_of_mem _ mb))
      have gv : h5[v]? = some (.cells (itC x (itP I.bid x))) := s5.get (List.mem_append_right _ (by simp))
      refine s_reg ?_
      repeat (first | refine a_op (fun _ => rfl) ?_ | refine a_load rfl (by assumption) rfl ?_ | refine a_load_at rfl (by assumption) (by assumption) ?_ | refine a_iaddr_at rfl rfl (by assumption) ?_ | refine a_iaddr_l rfl rfl (by assumption) rfl ?_ | refine st_load_r rfl rfl ?_ | refine a_cmp rfl rfl rfl ?_ | refine a_eqi rfl rfl ?_ | refine st_not rfl ?_ | refine st_pick_t rfl rfl rfl ?_ | refine st_pick_f rfl rfl rfl ?_ | refine st_g rfl ?_ | refine a_gtf rfl ?_ | refine a_gft rfl ?_ | refine a_gu rfl ?_ | refine a_mklist (ec rfl en) (mz mkn) ?_ | refine a_mid ?_)
      refine a_callE (ws := [.ptr I.w 0, ii (a : Int), ii (b : Int), eIt I.bid x]) (ec rfl (ec rfl (ec rfl (ec rfl en)))) (by show [HV.ptr I.w 0, ii (a : Int), ii (b : Int), (HV.agg (itC x (itP I.bid x))).strip1] = _; rw [itA]) (r71 ok1 (by omega) hb hxo hxk hq s5 (fun h6 t2 ok2 hab2 s6 => ?_))
      repeat (first | refine a_op (fun _ => rfl) ?_ | refine a_load rfl (by assumption) rfl ?_ | refine a_load_at rfl (by assumption) (by assumption) ?_ | refine a_iaddr_at rfl rfl (by assumption) ?_ | refine a_iaddr_l rfl rfl (by assumption) rfl ?_ | refine st_load_r rfl rfl ?_ | refine a_cmp rfl rfl rfl ?_ | refine a_eqi rfl rfl ?_ | refine st_not rfl ?_ | refine st_pick_t rfl rfl rfl ?_ | refine st_pick_f rfl rfl rfl ?_ | refine st_g rfl ?_ | refine a_gtf rfl ?_ | refine a_gft rfl ?_ | refine a_gu rfl ?_ | refine a_mklist (ec rfl en) (mz mkn) ?_ | refine a_mid ?_)
      first | refine a_endq (by repeat (first | exact pr_nil | (apply pr_cons; rfl))) ?_ | refine a_end (by repeat (first | exact pr_nil | (apply pr_cons; rfl))) ?_
      exact bl_n (x_ret _ rfl (kk h6 t2 ok2 hab2 (s6.sub (((hsub.trans (List.sublist_cons_self _ _))).append_left _))))
    · have := of_decide_eq_false hc
      simp at this
structure DOk (I : Ids) (t : Nw) (kd : Int) (a b w : Nat) : Prop where
  kind : kd = 1 ∨ kd = 2 ∨ kd = 3
  frm : kd = 1 → 1 ≤ a ∧ a < I.K
  to_ : kd = 2 → 1 ≤ b
  tol : b < I.K
  who : w < I.m
  sq : t.sq a w ≤ 100000000
  st : ∀ i, i < I.K → t.st i w ≤ 100000000
  its : ∀ q ∈ t.ways.es, ∀ x ∈ q.2.2, x.kind = 1 ∨ x.kind = 2 ∨ x.kind = 3
  wl : (t.waits b).length ≤ 1000
theorem r57 {h : Heap} {R : Lay} {I : Ids} {t : Ct} {B a b w : Nat} {kd nn : Int} (ok : t.ok I B) (hB : B ≤ 600000000) (hd : DOk I t.abs kd a b w) (hK : 0 < I.K) (hs : Sep h (lay I t ++ R)) {Q : HV → Heap → Prop}
    (kk : ∀ (h' : Heap) (t' : Ct), t'.ok I (B + 4000) → t'.abs = doF I.K t.abs kd a b w nn → Sep h' (lay I t' ++ R) → Q (.tuple []) h') : HCalls Try.prog 57 [.ptr I.w 0, .agg [ii kd, ii (a : Int), ii (b : Int), ii (w : Int), ii nn]] h Q := by
  refine sc_func2 (rs := []) Try.func57 rfl (by decide) (by kernel_rfl) (lb rfl) hk57 ?_
  show SC Try.prog Try.f57.ntmps _ hc57 _ [(0, .ptr I.w 0), (1, .agg [ii kd, ii (a : Int), ii (b : Int), ii (w : Int), ii nn])] h
  unfold hc57
  refine q_reg (a_box rfl rfl rfl (a_box rfl rfl rfl ?_))
  repeat (first | refine a_op (fun _ => rfl) ?_ | refine a_load rfl (by assumption) rfl ?_ | refine a_load_at rfl (by assumption) (by assumption) ?_ | refine a_iaddr_at rfl rfl (by assumption) ?_ | refine a_iaddr_l rfl rfl (by assumption) rfl ?_ | refine st_load_r rfl rfl ?_ | refine a_cmp rfl rfl rfl ?_ | refine a_eqi rfl rfl ?_ | refine st_not rfl ?_ | refine st_pick_t rfl rfl rfl ?_ | refine st_pick_f rfl rfl rfl ?_ | refine st_g rfl ?_ | refine a_gtf rfl ?_ | refine a_gft rfl ?_ | refine a_gu rfl ?_ | refine a_mklist (ec rfl en) (mz mkn) ?_ | refine a_mid ?_)
  first | refine a_endq (by repeat (first | exact pr_nil | (apply pr_cons; rfl))) ?_ | refine a_end (by repeat (first | exact pr_nil | (apply pr_cons; rfl))) ?_
  have s1 := (hs.new (.cells [.ptr I.w 0])).new (.cells [ii kd, ii (a : Int), ii (b : Int), ii (w : Int), ii nn])
  change SC _ _ _ _ _ [(2, HV.ptr h.length 0), (3, .ptr (h ++ [HObj.cells [.ptr I.w 0]]).length 0)] ((h ++ [HObj.cells [.ptr I.w 0]]) ++ [HObj.cells [ii kd, ii (a : Int), ii (b : Int), ii (w : Int), ii nn]])
  generalize (h ++ [HObj.cells [.ptr I.w 0]]) ++ [HObj.cells [ii kd, ii (a : Int), ii (b : Int), ii (w : Int), ii nn]] = h1 at s1 ⊢
  generalize (h ++ [HObj.cells [.ptr I.w 0]]).length = md at s1 ⊢
  generalize h.length = bx at s1 ⊢
  clear hs h
  have s1 : Sep h1 (lay I t ++ ((md, .cells [ii kd, ii (a : Int), ii (b : Int), ii (w : Int), ii nn]) :: (bx, .cells [.ptr I.w 0]) :: R)) := by
    refine s1.perm (perm_c fun c e ca cc c0 cp => ?_)
    simp only [ca, cc, c0]; omega
  have gd : h1[md]? = some (.cells [ii kd, ii (a : Int), ii (b : Int), ii (w : Int), ii nn]) := s1.get (by simp)
  have gb : h1[bx]? = some (.cells [.ptr I.w 0]) := s1.get (by simp)
  have gw : h1[I.w]? = some (netO I) := s1.get (mem_w _)
  have gn : h1[I.nid]? = some (nodesO I t.waits) := s1.get (mem_n _)
  have hw := hd.who
  refine q_reg ?_
  repeat (first | refine a_op (fun _ => rfl) ?_ | refine a_load rfl (by assumption) rfl ?_ | refine a_load_at rfl (by assumption) (by assumption) ?_ | refine a_iaddr_at rfl rfl (by assumption) ?_ | refine a_iaddr_l rfl rfl (by assumption) rfl ?_ | refine st_load_r rfl rfl ?_ | refine a_cmp rfl rfl rfl ?_ | refine a_eqi rfl rfl ?_ | refine st_not rfl ?_ | refine st_pick_t rfl rfl rfl ?_ | refine st_pick_f rfl rfl rfl ?_ | refine st_g rfl ?_ | refine a_gtf rfl ?_ | refine a_gft rfl ?_ | refine a_gu rfl ?_ | refine a_mklist (ec rfl en) (mz mkn) ?_ | refine a_mid ?_)
  first | refine a_endq (by repeat (first | exact pr_nil | (apply pr_cons; rfl))) ?_ | refine a_end (by repeat (first | exact pr_nil | (apply pr_cons; rfl))) ?_
  refine a_dreg0 Try.mixed ?_
  refine a_op (fun _ => rfl) (a_load rfl gd rfl (st_geq rfl rfl (fun _ => ?_) (fun hc => absurd hc (by omega))))
  repeat (first | refine a_op (fun _ => rfl) ?_ | refine a_load rfl (by assumption) rfl ?_ | refine a_load_at rfl (by assumption) (by assumption) ?_ | refine a_iaddr_at rfl rfl (by assumption) ?_ | refine a_iaddr_l rfl rfl (by assumption) rfl ?_ | refine st_load_r rfl rfl ?_ | refine a_cmp rfl rfl rfl ?_ | refine a_eqi rfl rfl ?_ | refine st_not rfl ?_ | refine st_pick_t rfl rfl rfl ?_ | refine st_pick_f rfl rfl rfl ?_ | refine st_g rfl ?_ | refine a_gtf rfl ?_ | refine a_gft rfl ?_ | refine a_gu rfl ?_ | refine a_mklist (ec rfl en) (mz mkn) ?_ | refine a_mid ?_)
  refine a_iaddr_n (i := 0) rfl rfl hK ?_
  repeat (first | refine a_op (fun _ => rfl) ?_ | refine a_load rfl (by assumption) rfl ?_ | refine a_load_at rfl (by assumption) (by assumption) ?_ | refine a_iaddr_at rfl rfl (by assumption) ?_ | refine a_iaddr_l rfl rfl (by assumption) rfl ?_ | refine st_load_r rfl rfl ?_ | refine a_cmp rfl rfl rfl ?_ | refine a_eqi rfl rfl ?_ | refine st_not rfl ?_ | refine st_pick_t rfl rfl rfl ?_ | refine st_pick_f rfl rfl rfl ?_ | refine st_g rfl ?_ | refine a_gtf rfl ?_ | refine a_gft rfl ?_ | refine a_gu rfl ?_ | refine a_mklist (ec rfl en) (mz mkn) ?_ | refine a_mid ?_)
  refine a_load_fm (i := 0) (w := 4) (j := 1) rfl gn (nodeC_len I t.waits) hK (by decide) rfl ?_
  repeat (first | refine a_op (fun _ => rfl) ?_ | refine a_load rfl (by assumption) rfl ?_ | refine a_load_at rfl (by assumption) (by assumption) ?_ | refine a_iaddr_at rfl rfl (by assumption) ?_ | refine a_iaddr_l rfl rfl (by assumption) rfl ?_ | refine st_load_r rfl rfl ?_ | refine a_cmp rfl rfl rfl ?_ | refine a_eqi rfl rfl ?_ | refine st_not rfl ?_ | refine st_pick_t rfl rfl rfl ?_ | refine st_pick_f rfl rfl rfl ?_ | refine st_g rfl ?_ | refine a_gtf rfl ?_ | refine a_gft rfl ?_ | refine a_gu rfl ?_ | refine a_mklist (ec rfl en) (mz mkn) ?_ | refine a_mid ?_)
  rw [show decide ((w : Int) < (I.m : Int)) = true from decide_eq_true (by omega)]
  repeat (first | refine a_op (fun _ => rfl) ?_ | refine a_load rfl (by assumption) rfl ?_ | refine a_load_at rfl (by assumption) (by assumption) ?_ | refine a_iaddr_at rfl rfl (by assumption) ?_ | refine a_iaddr_l rfl rfl (by assumption) rfl ?_ | refine st_load_r rfl rfl ?_ | refine a_cmp rfl rfl rfl ?_ | refine a_eqi rfl rfl ?_ | refine st_not rfl ?_ | refine st_pick_t rfl rfl rfl ?_ | refine st_pick_f rfl rfl rfl ?_ | refine st_g rfl ?_ | refine a_gtf rfl ?_ | refine a_gft rfl ?_ | refine a_gu rfl ?_ | refine a_mklist (ec rfl en) (mz mkn) ?_ | refine a_mid ?_)
  first | refine a_endq (by repeat (first | exact pr_nil | (apply pr_cons; rfl))) ?_ | refine a_end (by repeat (first | exact pr_nil | (apply pr_cons; rfl))) ?_
  refine q_reg ?_
  repeat (first | refine a_op (fun _ => rfl) ?_ | refine a_load rfl (by assumption) rfl ?_ | refine a_load_at rfl (by assumption) (by assumption) ?_ | refine a_iaddr_at rfl rfl (by assumption) ?_ | refine a_iaddr_l rfl rfl (by assumption) rfl ?_ | refine st_load_r rfl rfl ?_ | refine a_cmp rfl rfl rfl ?_ | refine a_eqi rfl rfl ?_ | refine st_not rfl ?_ | refine st_pick_t rfl rfl rfl ?_ | refine st_pick_f rfl rfl rfl ?_ | refine st_g rfl ?_ | refine a_gtf rfl ?_ | refine a_gft rfl ?_ | refine a_gu rfl ?_ | refine a_mklist (ec rfl en) (mz mkn) ?_ | refine a_mid ?_)
  first | refine a_endq (by repeat (first | exact pr_nil | (apply pr_cons; rfl))) ?_ | refine a_end (by repeat (first | exact pr_nil | (apply pr_cons; rfl))) ?_
  refine sc_block (q_reg ?_)
  repeat (first | refine a_op (fun _ => rfl) ?_ | refine a_load rfl (by assumption) rfl ?_ | refine a_load_at rfl (by assumption) (by assumption) ?_ | refine a_iaddr_at rfl rfl (by assumption) ?_ | refine a_iaddr_l rfl rfl (by assumption) rfl ?_ | refine st_load_r rfl rfl ?_ | refine a_cmp rfl rfl rfl ?_ | refine a_eqi rfl rfl ?_ | refine st_not rfl ?_ | refine st_pick_t rfl rfl rfl ?_ | refine st_pick_f rfl rfl rfl ?_ | refine st_g rfl ?_ | refine a_gtf rfl ?_ | refine a_gft rfl ?_ | refine a_gu rfl ?_ | refine a_mklist (ec rfl en) (mz mkn) ?_ | refine a_mid ?_)
  first | refine a_endq (by repeat (first | exact pr_nil | (apply pr_cons; rfl))) ?_ | refine a_end (by repeat (first | exact pr_nil | (apply pr_cons; rfl))) ?_
  rcases hd.kind with rfl | rfl | rfl
  · obtain ⟨f1, f2⟩ := hd.frm rfl
    exact s_cond_t rfl (r57a ok hB f1 f2 hw hd.sq s1 (fun h' t' o1 o2 o3 => kk h' t' o1 o2 o3))
  · refine s_cond_f rfl (q_reg ?_)
    repeat (first | refine a_op (fun _ => rfl) ?_ | refine a_load rfl (by assumption) rfl ?_ | refine a_load_at rfl (by assumption) (by assumption) ?_ | refine a_iaddr_at rfl rfl (by assumption) ?_ | refine a_iaddr_l rfl rfl (by assumption) rfl ?_ | refine st_load_r rfl rfl ?_ | refine a_cmp rfl rfl rfl ?_ | refine a_eqi rfl rfl ?_ | refine st_not rfl ?_ | refine st_pick_t rfl rfl rfl ?_ | refine st_pick_f rfl rfl rfl ?_ | refine st_g rfl ?_ | refine a_gtf rfl ?_ | refine a_gft rfl ?_ | refine a_gu rfl ?_ | refine a_mklist (ec rfl en) (mz mkn) ?_ | refine a_mid ?_)
    first | refine a_endq (by repeat (first | exact pr_nil | (apply pr_cons; rfl))) ?_ | refine a_end (by repeat (first | exact pr_nil | (apply pr_cons; rfl))) ?_
    exact s_cond_t rfl (r57b ok hB (hd.to_ rfl) hd.tol hw hd.st s1 (fun h' t' o1 o2 o3 => kk h' t' o1 o2 o3))
  · refine s_cond_f rfl (q_reg ?_)
    repeat (first | refine a_op (fun _ => rfl) ?_ | refine a_load rfl (by assumption) rfl ?_ | refine a_load_at rfl (by assumption) (by assumption) ?_ | refine a_iaddr_at rfl rfl (by assumption) ?_ | refine a_iaddr_l rfl rfl (by assumption) rfl ?_ | refine st_load_r rfl rfl ?_ | refine a_cmp rfl rfl rfl ?_ | refine a_eqi rfl rfl ?_ | refine st_not rfl ?_ | refine st_pick_t rfl rfl rfl ?_ | refine st_pick_f rfl rfl rfl ?_ | refine st_g rfl ?_ | refine a_gtf rfl ?_ | refine a_gft rfl ?_ | refine a_gu rfl ?_ | refine a_mklist (ec rfl en) (mz mkn) ?_ | refine a_mid ?_)
    first | refine a_endq (by repeat (first | exact pr_nil | (apply pr_cons; rfl))) ?_ | refine a_end (by repeat (first | exact pr_nil | (apply pr_cons; rfl))) ?_
    refine s_cond_f rfl (q_reg ?_)
    repeat (first | refine a_op (fun _ => rfl) ?_ | refine a_load rfl (by assumption) rfl ?_ | refine a_load_at rfl (by assumption) (by assumption) ?_ | refine a_iaddr_at rfl rfl (by assumption) ?_ | refine a_iaddr_l rfl rfl (by assumption) rfl ?_ | refine st_load_r rfl rfl ?_ | refine a_cmp rfl rfl rfl ?_ | refine a_eqi rfl rfl ?_ | refine st_not rfl ?_ | refine st_pick_t rfl rfl rfl ?_ | refine st_pick_f rfl rfl rfl ?_ | refine st_g rfl ?_ | refine a_gtf rfl ?_ | refine a_gft rfl ?_ | refine a_gu rfl ?_ | refine a_mklist (ec rfl en) (mz mkn) ?_ | refine a_mid ?_)
    first | refine a_endq (by repeat (first | exact pr_nil | (apply pr_cons; rfl))) ?_ | refine a_end (by repeat (first | exact pr_nil | (apply pr_cons; rfl))) ?_
    exact s_cond_t rfl (r57c ok hB hd.tol (its_of.2 hd.its) hd.wl s1 (fun h' t' o1 o2 o3 => kk h' t' o1 o2 o3))
end Go.Hw.VM

