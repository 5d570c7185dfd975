import Derived.Test.YtonoaimefgodfaaHwMkD
set_option linter.unusedVariables false
set_option linter.unusedSimpArgs false
namespace Go.Hw.VK
open Go Go.Proofs

def doF (t : Tw) (kd : Int) (a b : Nat) (nn : Int) : Tw :=
  if kd ≠ 3 ∧ a = b then t
  else if kd = 1 then
    if nn ≤ t.coins.getD a 0 ∧ ((t.ways.get ((a : Int), (b : Int))).getD []).length < 200 then { t with coins := t.coins.set a (t.coins.getD a 0 - nn), ways := wadd t.ways ((a : Int), (b : Int)) ⟨nn, false⟩ } else t
  else if kd = 2 then comeF t a b
  else if (t.sides.getD a sd0).begun then t
  else { t with sides := t.sides.set a { (t.sides.getD a sd0) with begun := true, state := t.coins.getD a 0 }, ways := sayF t.coins.length a t.ways }
set_option maxRecDepth 8000 in
theorem r60 {h : Heap} {R : Lay} {T : PT} {B : Nat} (ok : T.ok B) (hB : B ≤ 90000) (hn : T.sides.l.length = T.coins.length) {a b : Nat} (ha : a < T.coins.length) (hb : b < T.coins.length) {kd nn : Int} (hk : kd = 1 ∨ kd = 2 ∨ kd = 3) (hnn : kd = 1 → 1 ≤ nn ∧ nn ≤ 1000000000)
    (hco : ∀ c ∈ T.coins, -1000000000 ≤ c ∧ c ≤ 1000000000) (hit : ∀ q ∈ T.g.es, ∀ x ∈ q.2.2.l, -1000000000 ≤ x.n ∧ x.n ≤ 1000000000) (hs : Sep h (T.lay ++ R)) {Q : HV → Heap → Prop}
    (kk : ∀ (h' : Heap) (T' : PT), T'.p = T.p → T'.ok (B + 8) → T'.abs = doF T.abs kd a b nn → Sep h' (T'.lay ++ R) → Q (.tuple []) h') : HCalls Try.prog 60 [.ptr T.p 0, .agg [ii kd, ii (a : Int), ii (b : Int), ii nn]] h Q := by
  refine r60h hk ha hb hs (fun h1 h2 h' hs' => kk h' T rfl (ok.le (by omega)) ?_ hs') (fun hor h' m bx w hs' => ?_)
  · unfold doF
    rw [if_pos ⟨h1, h2⟩]
  clear hs h
  have hne : ¬ (kd ≠ 3 ∧ a = b) := by
    rintro ⟨h1, h2⟩
    rcases hor with h | h
    · exact h1 h
    · exact h h2
  unfold doF at kk
  rw [if_neg hne] at kk
  obtain ⟨X, hX⟩ : ∃ X : Lay, X = [(w, HObj.cells [ii (a : Int), ii (b : Int)]), (m, HObj.cells [ii kd, ii (a : Int), ii (b : Int), ii nn]), (bx, HObj.cells [.ptr T.p 0])] := ⟨_, rfl⟩
  rw [← hX] at hs'
  have hsub : (R : Lay).Sublist (X ++ R) := List.sublist_append_right _ _
  have gw : h'[w]? = some (.cells [ii (a : Int), ii (b : Int)]) := hs'.get (by simp [hX])
  have gb : h'[bx]? = some (.cells [.ptr T.p 0]) := hs'.get (by simp [hX])
  have gd : h'[m]? = some (.cells [ii kd, ii (a : Int), ii (b : Int), ii nn]) := hs'.get (by simp [hX])
  have gp : h'[T.p]? = some T.obj := hs'.get (by simp [PT.lay])
  have gc : h'[T.c]? = some (coinO T.coins) := hs'.get (by simp [PT.lay])
  have gm : h'[T.m]? = some (T.g.obj eKey (RW.hv eItem)) := hs'.get (by simp [PT.lay])
  obtain ⟨ca, hca⟩ : ∃ c, T.coins[a]? = some c := ⟨_, List.getElem?_eq_getElem ha⟩
  have hca2 := hco ca (List.mem_of_getElem? hca)
  have hcG : T.abs.coins.getD a 0 = ca := by
    show T.coins.getD a 0 = _
    simp [List.getD_eq_getElem?_getD, hca]
  have hstop : T.abs = T.abs → Q (.tuple []) h' → RetS2 [] bx Q .normal [] h' := fun _ h => x_ret _ rfl h
  unfold hc60t
  refine q_reg ?_
  repeat (first | refine a_op (fun _ => rfl) ?_ | refine a_load rfl (by assumption) rfl ?_ | refine a_load_at rfl (by assumption) (by assumption) ?_ | refine a_iaddr_at rfl rfl (by assumption) ?_ | refine a_iaddr_l rfl rfl (by assumption) rfl ?_ | refine st_load_r rfl rfl ?_ | refine a_cmp rfl rfl rfl ?_ | refine a_eqi rfl rfl ?_ | refine st_not rfl ?_ | refine st_pick_t rfl rfl rfl ?_ | refine st_pick_f rfl rfl rfl ?_ | refine st_g rfl ?_ | refine a_gtf rfl ?_ | refine a_gft rfl ?_ | refine a_gu rfl ?_ | refine a_mklist (ec rfl en) (mz mkn) ?_ | refine a_mid ?_)
  first | refine a_endq (by repeat (first | exact pr_nil | (apply pr_cons; rfl))) ?_ | refine a_end (by repeat (first | exact pr_nil | (apply pr_cons; rfl))) ?_
  rcases hk with rfl | rfl | rfl
  · -- coins are paid
    replace hnn := hnn rfl
    rw [if_pos rfl, hcG] at kk
    have hget : (T.abs.ways.get ((a : Int), (b : Int))).getD [] = ((T.g.get ((a : Int), (b : Int))).getD RW.nil).l := by
      show ((gmap RW.l T.g).get _).getD [] = _
      rw [gmap_get]
      cases T.g.get ((a : Int), (b : Int)) <;> rfl
    rw [hget] at kk
    obtain ⟨hro, hrl⟩ := ok.row ((a : Int), (b : Int))
    obtain ⟨r0, hr0⟩ : ∃ r0, (T.g.get ((a : Int), (b : Int))).getD RW.nil = r0 := ⟨_, rfl⟩
    rw [hr0] at hro hrl kk
    refine sc_block (q_reg ?_)
    repeat (first | refine a_op (fun _ => rfl) ?_ | refine a_load rfl (by assumption) rfl ?_ | refine a_load_at rfl (by assumption) (by assumption) ?_ | refine a_iaddr_at rfl rfl (by assumption) ?_ | refine a_iaddr_l rfl rfl (by assumption) rfl ?_ | refine st_load_r rfl rfl ?_ | refine a_cmp rfl rfl rfl ?_ | refine a_eqi rfl rfl ?_ | refine st_not rfl ?_ | refine st_pick_t rfl rfl rfl ?_ | refine st_pick_f rfl rfl rfl ?_ | refine st_g rfl ?_ | refine a_gtf rfl ?_ | refine a_gft rfl ?_ | refine a_gu rfl ?_ | refine a_mklist (ec rfl en) (mz mkn) ?_ | refine a_mid ?_)
    first | refine a_endq (by repeat (first | exact pr_nil | (apply pr_cons; rfl))) ?_ | refine a_end (by repeat (first | exact pr_nil | (apply pr_cons; rfl))) ?_
    refine s_cond_t rfl (a_dreg0 Try.mixed ?_)
    refine a_op (fun _ => rfl) (a_load rfl gd rfl (st_geq rfl rfl (fun _ => ?_) (fun hc => absurd hc (by omega))))
    repeat (first | refine a_op (fun _ => rfl) ?_ | refine a_load rfl (by assumption) rfl ?_ | refine a_load_at rfl (by assumption) (by assumption) ?_ | refine a_iaddr_at rfl rfl (by assumption) ?_ | refine a_iaddr_l rfl rfl (by assumption) rfl ?_ | refine st_load_r rfl rfl ?_ | refine a_cmp rfl rfl rfl ?_ | refine a_eqi rfl rfl ?_ | refine st_not rfl ?_ | refine st_pick_t rfl rfl rfl ?_ | refine st_pick_f rfl rfl rfl ?_ | refine st_g rfl ?_ | refine a_gtf rfl ?_ | refine a_gft rfl ?_ | refine a_gu rfl ?_ | refine a_mklist (ec rfl en) (mz mkn) ?_ | refine a_mid ?_)
    by_cases hle : nn ≤ ca
    · rw [show decide (nn ≤ ca) = true from decide_eq_true hle]
      repeat (first | refine a_op (fun _ => rfl) ?_ | refine a_load rfl (by assumption) rfl ?_ | refine a_load_at rfl (by assumption) (by assumption) ?_ | refine a_iaddr_at rfl rfl (by assumption) ?_ | refine a_iaddr_l rfl rfl (by assumption) rfl ?_ | refine st_load_r rfl rfl ?_ | refine a_cmp rfl rfl rfl ?_ | refine a_eqi rfl rfl ?_ | refine st_not rfl ?_ | refine st_pick_t rfl rfl rfl ?_ | refine st_pick_f rfl rfl rfl ?_ | refine st_g rfl ?_ | refine a_gtf rfl ?_ | refine a_gft rfl ?_ | refine a_gu rfl ?_ | refine a_mklist (ec rfl en) (mz mkn) ?_ | refine a_mid ?_)
      refine a_lookupE (fk := eKey) (fv := RW.hv eItem) (z0 := RW.nil) (q := ((a : Int), (b : Int))) (g := T.g) enck_key rfl rfl gm rfl hr0 ?_
      repeat (first | refine a_op (fun _ => rfl) ?_ | refine a_load rfl (by assumption) rfl ?_ | refine a_load_at rfl (by assumption) (by assumption) ?_ | refine a_iaddr_at rfl rfl (by assumption) ?_ | refine a_iaddr_l rfl rfl (by assumption) rfl ?_ | refine st_load_r rfl rfl ?_ | refine a_cmp rfl rfl rfl ?_ | refine a_eqi rfl rfl ?_ | refine st_not rfl ?_ | refine st_pick_t rfl rfl rfl ?_ | refine st_pick_f rfl rfl rfl ?_ | refine st_g rfl ?_ | refine a_gtf rfl ?_ | refine a_gft rfl ?_ | refine a_gu rfl ?_ | refine a_mklist (ec rfl en) (mz mkn) ?_ | refine a_mid ?_)
      first | refine a_endq (by repeat (first | exact pr_nil | (apply pr_cons; rfl))) ?_ | refine a_end (by repeat (first | exact pr_nil | (apply pr_cons; rfl))) ?_
      refine sc_cond (t := decide (((r0.l.map eItem).length : Int) < 200)) rfl (fun hl => ?_) (fun hl => ?_)
      · have hl : r0.l.length < 200 := by have := of_decide_eq_true hl; rw [List.length_map] at this; omega
        rw [if_pos ⟨hle, hl⟩] at kk
        refine a_dreg0 Try.mixed ?_
        repeat (first | refine a_op (fun _ => rfl) ?_ | refine a_load rfl (by assumption) rfl ?_ | refine a_load_at rfl (by assumption) (by assumption) ?_ | refine a_iaddr_at rfl rfl (by assumption) ?_ | refine a_iaddr_l rfl rfl (by assumption) rfl ?_ | refine st_load_r rfl rfl ?_ | refine a_cmp rfl rfl rfl ?_ | refine a_eqi rfl rfl ?_ | refine st_not rfl ?_ | refine st_pick_t rfl rfl rfl ?_ | refine st_pick_f rfl rfl rfl ?_ | refine st_g rfl ?_ | refine a_gtf rfl ?_ | refine a_gft rfl ?_ | refine a_gu rfl ?_ | refine a_mklist (ec rfl en) (mz mkn) ?_ | refine a_mid ?_)
        refine a_sub rfl rfl (by omega) ?_
        repeat (first | refine a_op (fun _ => rfl) ?_ | refine a_load rfl (by assumption) rfl ?_ | refine a_load_at rfl (by assumption) (by assumption) ?_ | refine a_iaddr_at rfl rfl (by assumption) ?_ | refine a_iaddr_l rfl rfl (by assumption) rfl ?_ | refine st_load_r rfl rfl ?_ | refine a_cmp rfl rfl rfl ?_ | refine a_eqi rfl rfl ?_ | refine st_not rfl ?_ | refine st_pick_t rfl rfl rfl ?_ | refine st_pick_f rfl rfl rfl ?_ | refine st_g rfl ?_ | refine a_gtf rfl ?_ | refine a_gft rfl ?_ | refine a_gu rfl ?_ | refine a_mklist (ec rfl en) (mz mkn) ?_ | refine a_mid ?_)
        refine a_store_at (f := ii) (l := T.coins) (a := ca - nn) rfl rfl gc rfl rfl ha ?_
        repeat (first | refine a_op (fun _ => rfl) ?_ | refine a_load rfl (by assumption) rfl ?_ | refine a_load_at rfl (by assumption) (by assumption) ?_ | refine a_iaddr_at rfl rfl (by assumption) ?_ | refine a_iaddr_l rfl rfl (by assumption) rfl ?_ | refine st_load_r rfl rfl ?_ | refine a_cmp rfl rfl rfl ?_ | refine a_eqi rfl rfl ?_ | refine st_not rfl ?_ | refine st_pick_t rfl rfl rfl ?_ | refine st_pick_f rfl rfl rfl ?_ | refine st_g rfl ?_ | refine a_gtf rfl ?_ | refine a_gft rfl ?_ | refine a_gu rfl ?_ | refine a_mklist (ec rfl en) (mz mkn) ?_ | refine a_mid ?_)
        first | refine a_endq (by repeat (first | exact pr_nil | (apply pr_cons; rfl))) ?_ | refine a_end (by repeat (first | exact pr_nil | (apply pr_cons; rfl))) ?_
        have s2 := Sep.set (A := [(T.p, T.obj)]) (i := T.c) (o := coinO T.coins) (B := (T.m, T.g.obj eKey (RW.hv eItem)) :: (mlay T.g ++ (T.sides.lay ++ (T.sides.l.flatMap PS.lay ++ (X ++ R))))) (by simpa [PT.lay] using hs') (coinO (T.coins.set a (ca - nn)))
        generalize hh2 : h'.set T.c _ = h2 at s2 ⊢
        obtain ⟨T1, hT1⟩ : ∃ T1 : PT, T1 = { T with coins := T.coins.set a (ca - nn) } := ⟨_, rfl⟩
        have s3 : Sep h2 (T1.lay ++ (X ++ R)) := by
          rw [hT1]
          simpa [PT.lay, PT.obj] using s2
        have ok1 : T1.ok B := by rw [hT1]; exact ⟨ok.rows, ok.wf, ok.stamps, ok.sides, by simpa using ok.nc⟩
        have e1 : T.p = T1.p := by rw [hT1]
        have e2 : T.m = T1.m := by rw [hT1]
        have e3 : T.g = T1.g := by rw [hT1]
        have hab : T1.abs = { T.abs with coins := T.abs.coins.set a (ca - nn) } := by rw [hT1]; rfl
        have gb : h2[bx]? = some (.cells [.ptr T1.p 0]) := s3.get (by simp [hX, e1])
        have gd : h2[m]? = some (.cells [ii 1, ii (a : Int), ii (b : Int), ii nn]) := s3.get (by simp [hX])
        have gw : h2[w]? = some (.cells [ii (a : Int), ii (b : Int)]) := s3.get (by simp [hX])
        have gp : h2[T1.p]? = some T1.obj := s3.get (by simp [PT.lay])
        have gm : h2[T1.m]? = some (T1.g.obj eKey (RW.hv eItem)) := s3.get (by simp [PT.lay])
        rw [e3] at hr0
        refine a_dregl0 Try.mixed ?_
        repeat (first | refine a_op (fun _ => rfl) ?_ | refine a_load rfl (by assumption) rfl ?_ | refine a_load_at rfl (by assumption) (by assumption) ?_ | refine a_iaddr_at rfl rfl (by assumption) ?_ | refine a_iaddr_l rfl rfl (by assumption) rfl ?_ | refine st_load_r rfl rfl ?_ | refine a_cmp rfl rfl rfl ?_ | refine a_eqi rfl rfl ?_ | refine st_not rfl ?_ | refine st_pick_t rfl rfl rfl ?_ | refine st_pick_f rfl rfl rfl ?_ | refine st_g rfl ?_ | refine a_gtf rfl ?_ | refine a_gft rfl ?_ | refine a_gu rfl ?_ | refine a_mklist (ec rfl en) (mz mkn) ?_ | refine a_mid ?_)
        refine a_mapentry (fk := eKey) (fv := RW.hv eItem) (z0 := RW.nil) (v0 := r0) (q := ((a : Int), (b : Int))) (g := T1.g) enck_key ok1.wf ok1.stamps rfl rfl gm rfl hr0 (fun stamp hst => ?_)
        obtain ⟨L1, L2, f1, back⟩ := PT.lay_at T1 ((a : Int), (b : Int)) (X ++ R)
        rw [f1, hr0] at s3
        have s4 := back h2 r0 s3
        have ok2 := ok1.put ((a : Int), (b : Int)) hro hrl (Nat.le_refl B)
        generalize h2.set T1.m _ = h3 at s4 ⊢
        obtain ⟨M1, M2, f2, back2⟩ := PT.lay_at { T1 with g := T1.g.put ((a : Int), (b : Int)) r0 } ((a : Int), (b : Int)) (X ++ R)
        have hr1 : ((T1.g.put ((a : Int), (b : Int)) r0).get ((a : Int), (b : Int))).getD RW.nil = r0 := by rw [GM.get_put, if_pos rfl]; rfl
        rw [f2] at s4
        simp only [hr1] at s4
        repeat (first | refine a_op (fun _ => rfl) ?_ | refine a_load rfl (by assumption) rfl ?_ | refine a_load_at rfl (by assumption) (by assumption) ?_ | refine a_iaddr_at rfl rfl (by assumption) ?_ | refine a_iaddr_l rfl rfl (by assumption) rfl ?_ | refine st_load_r rfl rfl ?_ | refine a_cmp rfl rfl rfl ?_ | refine a_eqi rfl rfl ?_ | refine st_not rfl ?_ | refine st_pick_t rfl rfl rfl ?_ | refine st_pick_f rfl rfl rfl ?_ | refine st_g rfl ?_ | refine a_gtf rfl ?_ | refine a_gft rfl ?_ | refine a_gu rfl ?_ | refine a_mklist (ec rfl en) (mz mkn) ?_ | refine a_mid ?_)
        refine a_app (f := eItem) (rw_ := r0) (ys := [⟨nn, false⟩]) enc_item.w rfl rfl hro s4 (by simp; omega) (fun r' h4 hl' hr' s5 => ?_)
        repeat (first | refine a_op (fun _ => rfl) ?_ | refine a_load rfl (by assumption) rfl ?_ | refine a_load_at rfl (by assumption) (by assumption) ?_ | refine a_iaddr_at rfl rfl (by assumption) ?_ | refine a_iaddr_l rfl rfl (by assumption) rfl ?_ | refine st_load_r rfl rfl ?_ | refine a_cmp rfl rfl rfl ?_ | refine a_eqi rfl rfl ?_ | refine st_not rfl ?_ | refine st_pick_t rfl rfl rfl ?_ | refine st_pick_f rfl rfl rfl ?_ | refine st_g rfl ?_ | refine a_gtf rfl ?_ | refine a_gft rfl ?_ | refine a_gu rfl ?_ | refine a_mklist (ec rfl en) (mz mkn) ?_ | refine a_mid ?_)
        have gm4 : h4[T1.m]? = some ((T1.g.put ((a : Int), (b : Int)) r0).obj eKey (RW.hv eItem)) := s5.get (by simp)
        refine a_entryset (fk := eKey) (fv := RW.hv eItem) (n := stamp) (v := r') rfl rfl rfl rfl gm4 (hst r') ?_
        repeat (first | refine a_op (fun _ => rfl) ?_ | refine a_load rfl (by assumption) rfl ?_ | refine a_load_at rfl (by assumption) (by assumption) ?_ | refine a_iaddr_at rfl rfl (by assumption) ?_ | refine a_iaddr_l rfl rfl (by assumption) rfl ?_ | refine st_load_r rfl rfl ?_ | refine a_cmp rfl rfl rfl ?_ | refine a_eqi rfl rfl ?_ | refine st_not rfl ?_ | refine st_pick_t rfl rfl rfl ?_ | refine st_pick_f rfl rfl rfl ?_ | refine st_g rfl ?_ | refine a_gtf rfl ?_ | refine a_gft rfl ?_ | refine a_gu rfl ?_ | refine a_mklist (ec rfl en) (mz mkn) ?_ | refine a_mid ?_)
        first | refine a_endq (by repeat (first | exact pr_nil | (apply pr_cons; rfl))) ?_ | refine a_end (by repeat (first | exact pr_nil | (apply pr_cons; rfl))) ?_
        have s6 := back2 h4 r' s5
        simp only [put_put] at s6
        refine bl_n (x_ret _ rfl (kk _ { T1 with g := T1.g.put ((a : Int), (b : Int)) r' } e1.symm ?_ ?_ (s6.sub (hsub.append_left _))))
        · exact ok1.put ((a : Int), (b : Int)) hr' (by rw [hl']; simp; omega) (by omega)
        · show (⟨T1.coins, gmap RW.l (T1.g.put _ r'), T1.sides.l.map PS.abs⟩ : Tw) = _
          rw [wadd_abs (by rw [hl', hr0]), hT1]
          rfl
      · have hl : ¬ r0.l.length < 200 := by have := of_decide_eq_false hl; rw [List.length_map] at this; omega
        rw [if_neg (fun h => hl h.2)] at kk
        exact sc_skip (bl_n (x_ret _ rfl (kk h' T rfl (ok.le (by omega)) rfl (hs'.sub (hsub.append_left _)))))
    · rw [show decide (nn ≤ ca) = false from decide_eq_false hle]
      repeat (first | refine a_op (fun _ => rfl) ?_ | refine a_load rfl (by assumption) rfl ?_ | refine a_load_at rfl (by assumption) (by assumption) ?_ | refine a_iaddr_at rfl rfl (by assumption) ?_ | refine a_iaddr_l rfl rfl (by assumption) rfl ?_ | refine st_load_r rfl rfl ?_ | refine a_cmp rfl rfl rfl ?_ | refine a_eqi rfl rfl ?_ | refine st_not rfl ?_ | refine st_pick_t rfl rfl rfl ?_ | refine st_pick_f rfl rfl rfl ?_ | refine st_g rfl ?_ | refine a_gtf rfl ?_ | refine a_gft rfl ?_ | refine a_gu rfl ?_ | refine a_mklist (ec rfl en) (mz mkn) ?_ | refine a_mid ?_)
      first | refine a_endq (by repeat (first | exact pr_nil | (apply pr_cons; rfl))) ?_ | refine a_end (by repeat (first | exact pr_nil | (apply pr_cons; rfl))) ?_
      rw [if_neg (fun h => hle h.1)] at kk
      exact s_cond_f rfl (sc_skip (bl_n (x_ret _ rfl (kk h' T rfl (ok.le (by omega)) rfl (hs'.sub (hsub.append_left _))))))
  · -- what is first comes
    rw [if_neg (by decide), if_pos rfl] at kk
    refine sc_block (q_reg ?_)
    repeat (first | refine a_op (fun _ => rfl) ?_ | refine a_load rfl (by assumption) rfl ?_ | refine a_load_at rfl (by assumption) (by assumption) ?_ | refine a_iaddr_at rfl rfl (by assumption) ?_ | refine a_iaddr_l rfl rfl (by assumption) rfl ?_ | refine st_load_r rfl rfl ?_ | refine a_cmp rfl rfl rfl ?_ | refine a_eqi rfl rfl ?_ | refine st_not rfl ?_ | refine st_pick_t rfl rfl rfl ?_ | refine st_pick_f rfl rfl rfl ?_ | refine st_g rfl ?_ | refine a_gtf rfl ?_ | refine a_gft rfl ?_ | refine a_gu rfl ?_ | refine a_mklist (ec rfl en) (mz mkn) ?_ | refine a_mid ?_)
    first | refine a_endq (by repeat (first | exact pr_nil | (apply pr_cons; rfl))) ?_ | refine a_end (by repeat (first | exact pr_nil | (apply pr_cons; rfl))) ?_
    refine s_cond_f rfl (q_reg ?_)
    repeat (first | refine a_op (fun _ => rfl) ?_ | refine a_load rfl (by assumption) rfl ?_ | refine a_load_at rfl (by assumption) (by assumption) ?_ | refine a_iaddr_at rfl rfl (by assumption) ?_ | refine a_iaddr_l rfl rfl (by assumption) rfl ?_ | refine st_load_r rfl rfl ?_ | refine a_cmp rfl rfl rfl ?_ | refine a_eqi rfl rfl ?_ | refine st_not rfl ?_ | refine st_pick_t rfl rfl rfl ?_ | refine st_pick_f rfl rfl rfl ?_ | refine st_g rfl ?_ | refine a_gtf rfl ?_ | refine a_gft rfl ?_ | refine a_gu rfl ?_ | refine a_mklist (ec rfl en) (mz mkn) ?_ | refine a_mid ?_)
    first | refine a_endq (by repeat (first | exact pr_nil | (apply pr_cons; rfl))) ?_ | refine a_end (by repeat (first | exact pr_nil | (apply pr_cons; rfl))) ?_
    refine s_cond_t rfl (s_reg ?_)
    repeat (first | refine a_op (fun _ => rfl) ?_ | refine a_load rfl (by assumption) rfl ?_ | refine a_load_at rfl (by assumption) (by assumption) ?_ | refine a_iaddr_at rfl rfl (by assumption) ?_ | refine a_iaddr_l rfl rfl (by assumption) rfl ?_ | refine st_load_r rfl rfl ?_ | refine a_cmp rfl rfl rfl ?_ | refine a_eqi rfl rfl ?_ | refine st_not rfl ?_ | refine st_pick_t rfl rfl rfl ?_ | refine st_pick_f rfl rfl rfl ?_ | refine st_g rfl ?_ | refine a_gtf rfl ?_ | refine a_gft rfl ?_ | refine a_gu rfl ?_ | refine a_mklist (ec rfl en) (mz mkn) ?_ | refine a_mid ?_)
    refine a_call (ec rfl (ec rfl en)) (r75 (R := X ++ R) ok hB hn ha hb hco hit hs' (fun h2 T' e1 ok' hab s2 => ?_))
    repeat (first | refine a_op (fun _ => rfl) ?_ | refine a_load rfl (by assumption) rfl ?_ | refine a_load_at rfl (by assumption) (by assumption) ?_ | refine a_iaddr_at rfl rfl (by assumption) ?_ | refine a_iaddr_l rfl rfl (by assumption) rfl ?_ | refine st_load_r rfl rfl ?_ | refine a_cmp rfl rfl rfl ?_ | refine a_eqi rfl rfl ?_ | refine st_not rfl ?_ | refine st_pick_t rfl rfl rfl ?_ | refine st_pick_f rfl rfl rfl ?_ | refine st_g rfl ?_ | refine a_gtf rfl ?_ | refine a_gft rfl ?_ | refine a_gu rfl ?_ | refine a_mklist (ec rfl en) (mz mkn) ?_ | refine a_mid ?_)
    first | refine a_endq (by repeat (first | exact pr_nil | (apply pr_cons; rfl))) ?_ | refine a_end (by repeat (first | exact pr_nil | (apply pr_cons; rfl))) ?_
    exact bl_n (x_ret _ rfl (kk h2 T' e1 ok' hab (s2.sub (hsub.append_left _))))
  · -- one begins
    rw [if_neg (by decide), if_neg (by decide)] at kk
    have has : a < T.sides.l.length := by omega
    obtain ⟨sd, hsd⟩ : ∃ s, T.sides.l[a]? = some s := ⟨_, List.getElem?_eq_getElem has⟩
    have oks := ok.sides sd (List.mem_of_getElem? hsd)
    have hsG : T.abs.sides.getD a sd0 = sd.abs := by
      show (T.sides.l.map PS.abs).getD a sd0 = _
      simp [List.getD_eq_getElem?_getD, hsd]
    rw [hsG, hcG] at kk
    obtain ⟨R', pin, hR', pout⟩ := PT.side_at T hsd (X ++ R)
    refine sc_block (q_reg ?_)
    repeat (first | refine a_op (fun _ => rfl) ?_ | refine a_load rfl (by assumption) rfl ?_ | refine a_load_at rfl (by assumption) (by assumption) ?_ | refine a_iaddr_at rfl rfl (by assumption) ?_ | refine a_iaddr_l rfl rfl (by assumption) rfl ?_ | refine st_load_r rfl rfl ?_ | refine a_cmp rfl rfl rfl ?_ | refine a_eqi rfl rfl ?_ | refine st_not rfl ?_ | refine st_pick_t rfl rfl rfl ?_ | refine st_pick_f rfl rfl rfl ?_ | refine st_g rfl ?_ | refine a_gtf rfl ?_ | refine a_gft rfl ?_ | refine a_gu rfl ?_ | refine a_mklist (ec rfl en) (mz mkn) ?_ | refine a_mid ?_)
    first | refine a_endq (by repeat (first | exact pr_nil | (apply pr_cons; rfl))) ?_ | refine a_end (by repeat (first | exact pr_nil | (apply pr_cons; rfl))) ?_
    refine s_cond_f rfl (q_reg ?_)
    repeat (first | refine a_op (fun _ => rfl) ?_ | refine a_load rfl (by assumption) rfl ?_ | refine a_load_at rfl (by assumption) (by assumption) ?_ | refine a_iaddr_at rfl rfl (by assumption) ?_ | refine a_iaddr_l rfl rfl (by assumption) rfl ?_ | refine st_load_r rfl rfl ?_ | refine a_cmp rfl rfl rfl ?_ | refine a_eqi rfl rfl ?_ | refine st_not rfl ?_ | refine st_pick_t rfl rfl rfl ?_ | refine st_pick_f rfl rfl rfl ?_ | refine st_g rfl ?_ | refine a_gtf rfl ?_ | refine a_gft rfl ?_ | refine a_gu rfl ?_ | refine a_mklist (ec rfl en) (mz mkn) ?_ | refine a_mid ?_)
    first | refine a_endq (by repeat (first | exact pr_nil | (apply pr_cons; rfl))) ?_ | refine a_end (by repeat (first | exact pr_nil | (apply pr_cons; rfl))) ?_
    refine s_cond_f rfl (q_reg ?_)
    repeat (first | refine a_op (fun _ => rfl) ?_ | refine a_load rfl (by assumption) rfl ?_ | refine a_load_at rfl (by assumption) (by assumption) ?_ | refine a_iaddr_at rfl rfl (by assumption) ?_ | refine a_iaddr_l rfl rfl (by assumption) rfl ?_ | refine st_load_r rfl rfl ?_ | refine a_cmp rfl rfl rfl ?_ | refine a_eqi rfl rfl ?_ | refine st_not rfl ?_ | refine st_pick_t rfl rfl rfl ?_ | refine st_pick_f rfl rfl rfl ?_ | refine st_g rfl ?_ | refine a_gtf rfl ?_ | refine a_gft rfl ?_ | refine a_gu rfl ?_ | refine a_mklist (ec rfl en) (mz mkn) ?_ | refine a_mid ?_)
    first | refine a_endq (by repeat (first | exact pr_nil | (apply pr_cons; rfl))) ?_ | refine a_end (by repeat (first | exact pr_nil | (apply pr_cons; rfl))) ?_
    refine s_cond_t rfl (a_dreg0 Try.mixed ?_)
    repeat (first | refine a_op (fun _ => rfl) ?_ | refine a_load rfl (by assumption) rfl ?_ | refine a_load_at rfl (by assumption) (by assumption) ?_ | refine a_iaddr_at rfl rfl (by assumption) ?_ | refine a_iaddr_l rfl rfl (by assumption) rfl ?_ | refine st_load_r rfl rfl ?_ | refine a_cmp rfl rfl rfl ?_ | refine a_eqi rfl rfl ?_ | refine st_not rfl ?_ | refine st_pick_t rfl rfl rfl ?_ | refine st_pick_f rfl rfl rfl ?_ | refine st_g rfl ?_ | refine a_gtf rfl ?_ | refine a_gft rfl ?_ | refine a_gu rfl ?_ | refine a_mklist (ec rfl en) (mz mkn) ?_ | refine a_mid ?_)
    have s1 := hs'.perm pin
    refine a_call (ec rfl (ec rfl en)) (r49 (id := sd.id) (pl := ln (eInt .i64) sd.peers) (aw := .arr sd.wid 0 sd.ways.length 1) (ao := .arr sd.oid 0 sd.over.length 1) (b := sd.begun) (st := sd.state) (n := ca) (R := [(sd.wid, wayO sd.ways), (sd.oid, overO sd.over)] ++ (sd.ways.flatMap RW.lay ++ R')) (by simpa [PS.lay] using s1) (fun hbg => ?_) (fun h2 hbg s2 => ?_))
    · repeat (first | refine a_op (fun _ => rfl) ?_ | refine a_load rfl (by assumption) rfl ?_ | refine a_load_at rfl (by assumption) (by assumption) ?_ | refine a_iaddr_at rfl rfl (by assumption) ?_ | refine a_iaddr_l rfl rfl (by assumption) rfl ?_ | refine st_load_r rfl rfl ?_ | refine a_cmp rfl rfl rfl ?_ | refine a_eqi rfl rfl ?_ | refine st_not rfl ?_ | refine st_pick_t rfl rfl rfl ?_ | refine st_pick_f rfl rfl rfl ?_ | refine st_g rfl ?_ | refine a_gtf rfl ?_ | refine a_gft rfl ?_ | refine a_gu rfl ?_ | refine a_mklist (ec rfl en) (mz mkn) ?_ | refine a_mid ?_)
      first | refine a_endq (by repeat (first | exact pr_nil | (apply pr_cons; rfl))) ?_ | refine a_end (by repeat (first | exact pr_nil | (apply pr_cons; rfl))) ?_
      rw [if_pos (show sd.abs.begun = true from hbg)] at kk
      exact s_cond_f rfl (sc_skip (bl_n (x_ret _ rfl (kk h' T rfl (ok.le (by omega)) rfl (hs'.sub (hsub.append_left _))))))
    · rw [if_neg (by rw [show sd.abs.begun = sd.begun from rfl, hbg]; decide)] at kk
      have s3 : Sep h2 (({ sd with begun := true, state := ca } : PS).lay ++ R') := by simpa [PS.lay] using s2
      have s4 := s3.perm (pout { sd with begun := true, state := ca } rfl)
      have ok2 := ok.side (b := a) (s' := { sd with begun := true, state := ca }) ⟨oks.rows, oks.nw, oks.no, oks.np, oks.lens⟩
      repeat (first | refine a_op (fun _ => rfl) ?_ | refine a_load rfl (by assumption) rfl ?_ | refine a_load_at rfl (by assumption) (by assumption) ?_ | refine a_iaddr_at rfl rfl (by assumption) ?_ | refine a_iaddr_l rfl rfl (by assumption) rfl ?_ | refine st_load_r rfl rfl ?_ | refine a_cmp rfl rfl rfl ?_ | refine a_eqi rfl rfl ?_ | refine st_not rfl ?_ | refine st_pick_t rfl rfl rfl ?_ | refine st_pick_f rfl rfl rfl ?_ | refine st_g rfl ?_ | refine a_gtf rfl ?_ | refine a_gft rfl ?_ | refine a_gu rfl ?_ | refine a_mklist (ec rfl en) (mz mkn) ?_ | refine a_mid ?_)
      first | refine a_endq (by repeat (first | exact pr_nil | (apply pr_cons; rfl))) ?_ | refine a_end (by repeat (first | exact pr_nil | (apply pr_cons; rfl))) ?_
      obtain ⟨T1, hT1⟩ : ∃ T1 : PT, T1 = { T with sides := ⟨T.sides.l.set a { sd with begun := true, state := ca }, T.sides.tok⟩ } := ⟨_, rfl⟩
      rw [← hT1] at s4 ok2
      have e1 : T.p = T1.p := by rw [hT1]
      have gb : h2[bx]? = some (.cells [.ptr T1.p 0]) := s4.get (by simp [hX, e1])
      have gd : h2[m]? = some (.cells [ii 3, ii (a : Int), ii (b : Int), ii nn]) := s4.get (by simp [hX])
      refine s_cond_t rfl (s_reg ?_)
      repeat (first | refine a_op (fun _ => rfl) ?_ | refine a_load rfl (by assumption) rfl ?_ | refine a_load_at rfl (by assumption) (by assumption) ?_ | refine a_iaddr_at rfl rfl (by assumption) ?_ | refine a_iaddr_l rfl rfl (by assumption) rfl ?_ | refine st_load_r rfl rfl ?_ | refine a_cmp rfl rfl rfl ?_ | refine a_eqi rfl rfl ?_ | refine st_not rfl ?_ | refine st_pick_t rfl rfl rfl ?_ | refine st_pick_f rfl rfl rfl ?_ | refine st_g rfl ?_ | refine a_gtf rfl ?_ | refine a_gft rfl ?_ | refine a_gu rfl ?_ | refine a_mklist (ec rfl en) (mz mkn) ?_ | refine a_mid ?_)
      refine a_call (ec rfl (ec rfl en)) (r76 (T := T1) ok2 (by omega) s4 (fun h8 g' ok' hg' s9 => ?_))
      repeat (first | refine a_op (fun _ => rfl) ?_ | refine a_load rfl (by assumption) rfl ?_ | refine a_load_at rfl (by assumption) (by assumption) ?_ | refine a_iaddr_at rfl rfl (by assumption) ?_ | refine a_iaddr_l rfl rfl (by assumption) rfl ?_ | refine st_load_r rfl rfl ?_ | refine a_cmp rfl rfl rfl ?_ | refine a_eqi rfl rfl ?_ | refine st_not rfl ?_ | refine st_pick_t rfl rfl rfl ?_ | refine st_pick_f rfl rfl rfl ?_ | refine st_g rfl ?_ | refine a_gtf rfl ?_ | refine a_gft rfl ?_ | refine a_gu rfl ?_ | refine a_mklist (ec rfl en) (mz mkn) ?_ | refine a_mid ?_)
      first | refine a_endq (by repeat (first | exact pr_nil | (apply pr_cons; rfl))) ?_ | refine a_end (by repeat (first | exact pr_nil | (apply pr_cons; rfl))) ?_
      refine bl_n (x_ret _ rfl (kk h8 { T1 with g := g' } e1.symm ok' ?_ (s9.sub (hsub.append_left _))))
      show (⟨T1.coins, gmap RW.l g', T1.sides.l.map PS.abs⟩ : Tw) = _
      rw [hg', hT1]
      simp only [PT.abs, List.map_set]
      rfl
end Go.Hw.VK

