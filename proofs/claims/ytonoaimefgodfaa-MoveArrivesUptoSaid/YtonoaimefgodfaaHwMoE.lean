import Derived.Test.YtonoaimefgodfaaHwMoD
set_option linter.unusedVariables false
set_option linter.unusedSimpArgs false
namespace Go.Hw.VM
open Go Go.Proofs

def knowF (t : Nw) (a : Nat) (x : It) : Nw := { t with sn := fupd t.sn a (fupd (t.sn a) x.who x.node), st := fupd t.st a (fupd (t.st a) x.who x.turn) }
def emptyF (t : Nw) (a : Nat) : Nw := { t with waits := fupd t.waits a [] }
def allF (t : Nw) (a : Nat) : Nw := (t.waits a).foldl (fun t y => letterF t a y) (emptyF t a)
def learnF (t : Nw) (a : Nat) (x : It) : Nw := if x.turn ≤ t.st a x.who then t else allF (knowF t a x) a
def hereF (t : Nw) (a w : Nat) (v : Bool) : Nw := { t with here := fupd t.here a (fupd (t.here a) w v) }
def comeF (t : Nw) (a : Nat) (x : It) : Nw := if x.kind = 1 then letterF t a x else if x.kind = 3 then learnF t a x else if x.kind = 2 then allF (learnF (hereF t a x.who true) a x) a else t
theorem sureC_upd (sn st : Nat → Nat) (w a b : Nat) : fupd (sureC sn st) w (putAt (sureC sn st w) 0 [ii (a : Int), ii (b : Int)]) = sureC (fupd sn w a) (fupd st w b) := by
  funext k
  by_cases h : k = w
  · subst h; simp [fupd, sureC, putAt]
  · simp [fupd, sureC, h]
theorem hereC_upd (bid : Nat → Nat) (f : Nat → Bool) (w : Nat) (v : Bool) : fupd (hereC bid f) w (if v then .ptr (bid w) 0 else .nilptr) = hereC bid (fupd f w v) := by
  funext k
  by_cases h : k = w
  · subst h; simp [fupd, hereC]
  · simp [fupd, hereC, h]
theorem r84 {h : Heap} {R : Lay} {I : Ids} {t : Ct} {B a : Nat} {x : It} (ok : t.ok I B) (hB : B ≤ 800000000) (ha : a < I.K) (hx : x.who < I.m) (hq : (t.waits a).l.length ≤ 1000) (hs : Sep h (lay I t ++ R)) {Q : HV → Heap → Prop}
    (kk : ∀ (h' : Heap) (t' : Ct), t'.ok I (B + 2000) → t'.abs = learnF t.abs a x → Sep h' (lay I t' ++ R) → Q (.tuple []) h') : HCalls Try.prog 84 [.ptr I.w 0, ii (a : Int), eIt I.bid x] h Q := by
  refine sc_func2 (rs := []) Try.func84 rfl (by decide) (by kernel_rfl) (lb rfl) hk84 ?_
  show SC Try.prog Try.f84.ntmps _ hc84 _ [(0, .ptr I.w 0), (1, ii (a : Int)), (2, .agg (itC x (itP I.bid x)))] h
  unfold hc84
  generalize itP I.bid x = p
  refine q_reg (a_box rfl rfl rfl ?_)
  repeat (first | refine a_op (fun _ => rfl) ?_ | refine a_load rfl (by assumption) rfl ?_ | refine a_load_at rfl (by assumption) (by assumption) ?_ | refine a_iaddr_at rfl rfl (by assumption) ?_ | refine a_iaddr_l rfl rfl (by assumption) rfl ?_ | refine st_load_r rfl rfl ?_ | refine a_cmp rfl rfl rfl ?_ | refine a_eqi rfl rfl ?_ | refine st_not rfl ?_ | refine st_pick_t rfl rfl rfl ?_ | refine st_pick_f rfl rfl rfl ?_ | refine st_g rfl ?_ | refine a_gtf rfl ?_ | refine a_gft rfl ?_ | refine a_gu rfl ?_ | refine a_mklist (ec rfl en) (mz mkn) ?_ | refine a_mid ?_)
  first | refine a_endq (by repeat (first | exact pr_nil | (apply pr_cons; rfl))) ?_ | refine a_end (by repeat (first | exact pr_nil | (apply pr_cons; rfl))) ?_
  have s1 := hs.new (.cells (itC x p))
  change SC _ _ _ _ _ [(0, HV.ptr I.w 0), (1, ii (a : Int)), (5, .ptr h.length 0)] (h ++ [HObj.cells (itC x p)])
  generalize h.length = d at s1 ⊢
  generalize h ++ [HObj.cells (itC x p)] = h1 at s1 ⊢
  clear hs h
  have s1 : Sep h1 (lay I t ++ ((d, .cells (itC x p)) :: R)) := s1.perm List.perm_middle.symm
  have hsub : (lay I t ++ R).Sublist (lay I t ++ ((d, .cells (itC x p)) :: R)) := (List.sublist_cons_self _ _).append_left _
  have gd : h1[d]? = some (.cells (itC x p)) := s1.get (by simp)
  have gw : h1[I.w]? = some (netO I) := s1.get (mem_w _)
  have gn : h1[I.nid]? = some (nodesO I t.waits) := s1.get (mem_n _)
  have gs : h1[I.sid a]? = some (sureO I (t.sn a) (t.st a)) := s1.get (mem_node ha (by simp [nodeL]) _)
  refine q_reg ?_
  repeat (first | refine a_op (fun _ => rfl) ?_ | refine a_load rfl (by assumption) rfl ?_ | refine a_load_at rfl (by assumption) (by assumption) ?_ | refine a_iaddr_at rfl rfl (by assumption) ?_ | refine a_iaddr_l rfl rfl (by assumption) rfl ?_ | refine st_load_r rfl rfl ?_ | refine a_cmp rfl rfl rfl ?_ | refine a_eqi rfl rfl ?_ | refine st_not rfl ?_ | refine st_pick_t rfl rfl rfl ?_ | refine st_pick_f rfl rfl rfl ?_ | refine st_g rfl ?_ | refine a_gtf rfl ?_ | refine a_gft rfl ?_ | refine a_gu rfl ?_ | refine a_mklist (ec rfl en) (mz mkn) ?_ | refine a_mid ?_)
  refine a_iaddr_n rfl rfl ha ?_
  repeat (first | refine a_op (fun _ => rfl) ?_ | refine a_load rfl (by assumption) rfl ?_ | refine a_load_at rfl (by assumption) (by assumption) ?_ | refine a_iaddr_at rfl rfl (by assumption) ?_ | refine a_iaddr_l rfl rfl (by assumption) rfl ?_ | refine st_load_r rfl rfl ?_ | refine a_cmp rfl rfl rfl ?_ | refine a_eqi rfl rfl ?_ | refine st_not rfl ?_ | refine st_pick_t rfl rfl rfl ?_ | refine st_pick_f rfl rfl rfl ?_ | refine st_g rfl ?_ | refine a_gtf rfl ?_ | refine a_gft rfl ?_ | refine a_gu rfl ?_ | refine a_mklist (ec rfl en) (mz mkn) ?_ | refine a_mid ?_)
  first | refine a_endq (by repeat (first | exact pr_nil | (apply pr_cons; rfl))) ?_ | refine a_end (by repeat (first | exact pr_nil | (apply pr_cons; rfl))) ?_
  refine sc_seq (a_dreg0 Try.mixed ?_)
  repeat (first | refine a_op (fun _ => rfl) ?_ | refine a_load rfl (by assumption) rfl ?_ | refine a_load_at rfl (by assumption) (by assumption) ?_ | refine a_iaddr_at rfl rfl (by assumption) ?_ | refine a_iaddr_l rfl rfl (by assumption) rfl ?_ | refine st_load_r rfl rfl ?_ | refine a_cmp rfl rfl rfl ?_ | refine a_eqi rfl rfl ?_ | refine st_not rfl ?_ | refine st_pick_t rfl rfl rfl ?_ | refine st_pick_f rfl rfl rfl ?_ | refine st_g rfl ?_ | refine a_gtf rfl ?_ | refine a_gft rfl ?_ | refine a_gu rfl ?_ | refine a_mklist (ec rfl en) (mz mkn) ?_ | refine a_mid ?_)
  refine a_load_fm (i := a) (w := 4) (j := 1) rfl gn (nodeC_len I t.waits) ha (by decide) rfl ?_
  repeat (first | refine a_op (fun _ => rfl) ?_ | refine a_load rfl (by assumption) rfl ?_ | refine a_load_at rfl (by assumption) (by assumption) ?_ | refine a_iaddr_at rfl rfl (by assumption) ?_ | refine a_iaddr_l rfl rfl (by assumption) rfl ?_ | refine st_load_r rfl rfl ?_ | refine a_cmp rfl rfl rfl ?_ | refine a_eqi rfl rfl ?_ | refine st_not rfl ?_ | refine st_pick_t rfl rfl rfl ?_ | refine st_pick_f rfl rfl rfl ?_ | refine st_g rfl ?_ | refine a_gtf rfl ?_ | refine a_gft rfl ?_ | refine a_gu rfl ?_ | refine a_mklist (ec rfl en) (mz mkn) ?_ | refine a_mid ?_)
  refine a_iaddr_n rfl rfl hx ?_
  repeat (first | refine a_op (fun _ => rfl) ?_ | refine a_load rfl (by assumption) rfl ?_ | refine a_load_at rfl (by assumption) (by assumption) ?_ | refine a_iaddr_at rfl rfl (by assumption) ?_ | refine a_iaddr_l rfl rfl (by assumption) rfl ?_ | refine st_load_r rfl rfl ?_ | refine a_cmp rfl rfl rfl ?_ | refine a_eqi rfl rfl ?_ | refine st_not rfl ?_ | refine st_pick_t rfl rfl rfl ?_ | refine st_pick_f rfl rfl rfl ?_ | refine st_g rfl ?_ | refine a_gtf rfl ?_ | refine a_gft rfl ?_ | refine a_gu rfl ?_ | refine a_mklist (ec rfl en) (mz mkn) ?_ | refine a_mid ?_)
  refine a_load_fm (i := x.who) (w := 2) (j := 1) rfl gs (sureC_len _ _) hx (by decide) rfl ?_
  repeat (first | refine a_op (fun _ => rfl) ?_ | refine a_load rfl (by assumption) rfl ?_ | refine a_load_at rfl (by assumption) (by assumption) ?_ | refine a_iaddr_at rfl rfl (by assumption) ?_ | refine a_iaddr_l rfl rfl (by assumption) rfl ?_ | refine st_load_r rfl rfl ?_ | refine a_cmp rfl rfl rfl ?_ | refine a_eqi rfl rfl ?_ | refine st_not rfl ?_ | refine st_pick_t rfl rfl rfl ?_ | refine st_pick_f rfl rfl rfl ?_ | refine st_g rfl ?_ | refine a_gtf rfl ?_ | refine a_gft rfl ?_ | refine a_gu rfl ?_ | refine a_mklist (ec rfl en) (mz mkn) ?_ | refine a_mid ?_)
  first | refine a_endq (by repeat (first | exact pr_nil | (apply pr_cons; rfl))) ?_ | refine a_end (by repeat (first | exact pr_nil | (apply pr_cons; rfl))) ?_
  refine sc_cond rfl (fun hc => ?_) (fun hc => ?_)
  · have hc : x.turn ≤ t.st a x.who := by have := of_decide_eq_true hc; omega
    refine sc_ret (sq_r (x_ret _ rfl (kk h1 t (ok.le (by omega)) ?_ (s1.sub hsub))))
    unfold learnF
    rw [if_pos (show x.turn ≤ t.abs.st a x.who from hc)]
  have hc : ¬ x.turn ≤ t.st a x.who := by have := of_decide_eq_false hc; omega
  unfold learnF at kk
  rw [if_neg (show ¬ x.turn ≤ t.abs.st a x.who from hc)] at kk
  refine sc_skip (sq_n (a_dreg0 Try.mixed ?_))
  repeat (first | refine a_op (fun _ => rfl) ?_ | refine a_load rfl (by assumption) rfl ?_ | refine a_load_at rfl (by assumption) (by assumption) ?_ | refine a_iaddr_at rfl rfl (by assumption) ?_ | refine a_iaddr_l rfl rfl (by assumption) rfl ?_ | refine st_load_r rfl rfl ?_ | refine a_cmp rfl rfl rfl ?_ | refine a_eqi rfl rfl ?_ | refine st_not rfl ?_ | refine st_pick_t rfl rfl rfl ?_ | refine st_pick_f rfl rfl rfl ?_ | refine st_g rfl ?_ | refine a_gtf rfl ?_ | refine a_gft rfl ?_ | refine a_gu rfl ?_ | refine a_mklist (ec rfl en) (mz mkn) ?_ | refine a_mid ?_)
  refine a_load_fm (i := a) (w := 4) (j := 1) rfl gn (nodeC_len I t.waits) ha (by decide) rfl ?_
  repeat (first | refine a_op (fun _ => rfl) ?_ | refine a_load rfl (by assumption) rfl ?_ | refine a_load_at rfl (by assumption) (by assumption) ?_ | refine a_iaddr_at rfl rfl (by assumption) ?_ | refine a_iaddr_l rfl rfl (by assumption) rfl ?_ | refine st_load_r rfl rfl ?_ | refine a_cmp rfl rfl rfl ?_ | refine a_eqi rfl rfl ?_ | refine st_not rfl ?_ | refine st_pick_t rfl rfl rfl ?_ | refine st_pick_f rfl rfl rfl ?_ | refine st_g rfl ?_ | refine a_gtf rfl ?_ | refine a_gft rfl ?_ | refine a_gu rfl ?_ | refine a_mklist (ec rfl en) (mz mkn) ?_ | refine a_mid ?_)
  refine a_iaddr_n rfl rfl hx ?_
  refine a_store_fm (i := x.who) (w := 2) (j := 0) (F := sureC (t.sn a) (t.st a)) rfl rfl gs (sureC_len _ _) hx (by rfl) (by decide) rfl ?_
  repeat (first | refine a_op (fun _ => rfl) ?_ | refine a_load rfl (by assumption) rfl ?_ | refine a_load_at rfl (by assumption) (by assumption) ?_ | refine a_iaddr_at rfl rfl (by assumption) ?_ | refine a_iaddr_l rfl rfl (by assumption) rfl ?_ | refine st_load_r rfl rfl ?_ | refine a_cmp rfl rfl rfl ?_ | refine a_eqi rfl rfl ?_ | refine st_not rfl ?_ | refine st_pick_t rfl rfl rfl ?_ | refine st_pick_f rfl rfl rfl ?_ | refine st_g rfl ?_ | refine a_gtf rfl ?_ | refine a_gft rfl ?_ | refine a_gu rfl ?_ | refine a_mklist (ec rfl en) (mz mkn) ?_ | refine a_mid ?_)
  first | refine a_endq (by repeat (first | exact pr_nil | (apply pr_cons; rfl))) ?_ | refine a_end (by repeat (first | exact pr_nil | (apply pr_cons; rfl))) ?_
  obtain ⟨M, pin, pout⟩ := sure_at I t ha ((d, .cells (itC x p)) :: R)
  have s2 := Sep.set (A := []) (B := M) (s1.perm pin) (sureO I (fupd (t.sn a) x.who x.node) (fupd (t.st a) x.who x.turn))
  have s2 := (s2.perm (pout (fupd (t.sn a) x.who x.node) (fupd (t.st a) x.who x.turn)).symm).sub ((List.sublist_cons_self _ _).append_left _)
  have e2 : fupd (sureC (t.sn a) (t.st a)) x.who (putAt (sureC (t.sn a) (t.st a) x.who) 0 (HV.agg [ii (x.node : Int), ii (x.turn : Int)]).cells) = sureC (fupd (t.sn a) x.who x.node) (fupd (t.st a) x.who x.turn) := sureC_upd ..
  change SC _ _ _ _ _ [(0, HV.ptr I.w 0), (1, ii (a : Int)), (6, .ptr I.nid (a * 4))] (h1.set (I.sid a) (.cells ((List.range I.m).flatMap (fupd (sureC (t.sn a) (t.st a)) x.who (putAt (sureC (t.sn a) (t.st a) x.who) 0 (HV.agg [ii (x.node : Int), ii (x.turn : Int)]).cells)))))
  rw [e2]
  generalize h1.set (I.sid a) _ = h2 at s2 ⊢
  have ok1 : ({ t with sn := fupd t.sn a (fupd (t.sn a) x.who x.node), st := fupd t.st a (fupd (t.st a) x.who x.turn) } : Ct).ok I B := ⟨ok.bod, ok.g, ok.waits, ok.itg, ok.itw, ok.hK, ok.hm⟩
  have hab : ({ t with sn := fupd t.sn a (fupd (t.sn a) x.who x.node), st := fupd t.st a (fupd (t.st a) x.who x.turn) } : Ct).abs = knowF t.abs a x := rfl
  rw [← hab] at kk
  have hq1 : (({ t with sn := fupd t.sn a (fupd (t.sn a) x.who x.node), st := fupd t.st a (fupd (t.st a) x.who x.turn) } : Ct).waits a).l.length ≤ 1000 := hq
  clear hab gd gw gn gs s1 hc hq ok pin pout e2 hsub
  generalize ({ t with sn := fupd t.sn a (fupd (t.sn a) x.who x.node), st := fupd t.st a (fupd (t.st a) x.who x.turn) } : Ct) = t0 at *
  have gn : h2[I.nid]? = some (nodesO I t0.waits) := s2.get (mem_n _)
  refine q_reg ?_
  repeat (first | refine a_op (fun _ => rfl) ?_ | refine a_load rfl (by assumption) rfl ?_ | refine a_load_at rfl (by assumption) (by assumption) ?_ | refine a_iaddr_at rfl rfl (by assumption) ?_ | refine a_iaddr_l rfl rfl (by assumption) rfl ?_ | refine st_load_r rfl rfl ?_ | refine a_cmp rfl rfl rfl ?_ | refine a_eqi rfl rfl ?_ | refine st_not rfl ?_ | refine st_pick_t rfl rfl rfl ?_ | refine st_pick_f rfl rfl rfl ?_ | refine st_g rfl ?_ | refine a_gtf rfl ?_ | refine a_gft rfl ?_ | refine a_gu rfl ?_ | refine a_mklist (ec rfl en) (mz mkn) ?_ | refine a_mid ?_)
  refine a_load_fm (i := a) (w := 4) (j := 3) rfl gn (nodeC_len I t0.waits) ha (by decide) rfl ?_
  repeat (first | refine a_op (fun _ => rfl) ?_ | refine a_load rfl (by assumption) rfl ?_ | refine a_load_at rfl (by assumption) (by assumption) ?_ | refine a_iaddr_at rfl rfl (by assumption) ?_ | refine a_iaddr_l rfl rfl (by assumption) rfl ?_ | refine st_load_r rfl rfl ?_ | refine a_cmp rfl rfl rfl ?_ | refine a_eqi rfl rfl ?_ | refine st_not rfl ?_ | refine st_pick_t rfl rfl rfl ?_ | refine st_pick_f rfl rfl rfl ?_ | refine st_g rfl ?_ | refine a_gtf rfl ?_ | refine a_gft rfl ?_ | refine a_gu rfl ?_ | refine a_mklist (ec rfl en) (mz mkn) ?_ | refine a_mid ?_)
  first | refine a_endq (by repeat (first | exact pr_nil | (apply pr_cons; rfl))) ?_ | refine a_end (by repeat (first | exact pr_nil | (apply pr_cons; rfl))) ?_
  refine q_reg ?_
  repeat (first | refine a_op (fun _ => rfl) ?_ | refine a_load rfl (by assumption) rfl ?_ | refine a_load_at rfl (by assumption) (by assumption) ?_ | refine a_iaddr_at rfl rfl (by assumption) ?_ | refine a_iaddr_l rfl rfl (by assumption) rfl ?_ | refine st_load_r rfl rfl ?_ | refine a_cmp rfl rfl rfl ?_ | refine a_eqi rfl rfl ?_ | refine st_not rfl ?_ | refine st_pick_t rfl rfl rfl ?_ | refine st_pick_f rfl rfl rfl ?_ | refine st_g rfl ?_ | refine a_gtf rfl ?_ | refine a_gft rfl ?_ | refine a_gu rfl ?_ | refine a_mklist (ec rfl en) (mz mkn) ?_ | refine a_mid ?_)
  refine a_store_fm (i := a) (w := 4) (j := 3) (F := nodeC I t0.waits) (v := RW.nil.hv (eIt I.bid)) rfl rfl gn (nodeC_len I t0.waits) ha (by rfl) (by decide) rfl ?_
  repeat (first | refine a_op (fun _ => rfl) ?_ | refine a_load rfl (by assumption) rfl ?_ | refine a_load_at rfl (by assumption) (by assumption) ?_ | refine a_iaddr_at rfl rfl (by assumption) ?_ | refine a_iaddr_l rfl rfl (by assumption) rfl ?_ | refine st_load_r rfl rfl ?_ | refine a_cmp rfl rfl rfl ?_ | refine a_eqi rfl rfl ?_ | refine st_not rfl ?_ | refine st_pick_t rfl rfl rfl ?_ | refine st_pick_f rfl rfl rfl ?_ | refine st_g rfl ?_ | refine a_gtf rfl ?_ | refine a_gft rfl ?_ | refine a_gu rfl ?_ | refine a_mklist (ec rfl en) (mz mkn) ?_ | refine a_mid ?_)
  first | refine a_endq (by repeat (first | exact pr_nil | (apply pr_cons; rfl))) ?_ | refine a_end (by repeat (first | exact pr_nil | (apply pr_cons; rfl))) ?_
  obtain ⟨M, pin, pM, pout⟩ := wait_at I t0 ha R
  have s3 := Sep.set (A := []) (B := (t0.waits a).lay ++ M) (s2.perm pin) (nodesO I (fupd t0.waits a RW.nil))
  have s3 : Sep (h2.set I.nid (nodesO I (fupd t0.waits a RW.nil))) (lay I { t0 with waits := fupd t0.waits a RW.nil } ++ R) := (s3.sub ((List.sublist_append_right _ _).cons_cons _)).perm (pout RW.nil).symm
  have e2 : putAt (nodeC I t0.waits a) 3 ((RW.nil : RW It).hv (eIt I.bid)).cells = putAt (nodeC I t0.waits a) 3 [(RW.nil : RW It).hv (eIt I.bid)] := rfl
  rw [e2, nodeC_upd]
  obtain ⟨⟨l, tok⟩, hw0⟩ : ∃ r, t0.waits a = r := ⟨_, rfl⟩
  change SC _ _ _ _ _ [(0, HV.ptr I.w 0), (1, ii (a : Int)), (7, (t0.waits a).hv (eIt I.bid))] _
  have hits := ok1.itw a
  rw [hw0] at hits hq1 ⊢
  generalize h2.set I.nid _ = h3 at s3 ⊢
  have ok1 : ({ t0 with waits := fupd t0.waits a RW.nil } : Ct).ok I B := by
    refine ⟨ok1.bod, ok1.g, fun i => ?_, ok1.itg, fun i y hy => ?_, ok1.hK, ok1.hm⟩
    · simp only [fupd]
      split
      · exact ⟨trivial, Nat.zero_le _⟩
      · exact ok1.waits i
    · simp only [fupd] at hy
      split at hy
      · simp [RW.nil] at hy
      · exact ok1.itw i y hy
  have hF : allF t0.abs a = l.foldl (fun t y => letterF t a y) ({ t0 with waits := fupd t0.waits a RW.nil } : Ct).abs := by
    unfold allF
    rw [show t0.abs.waits a = l by show (t0.waits a).l = l; rw [hw0]]
    congr 1
    simp only [emptyF, Ct.abs, fupd_map]
    rfl
  have hq : l.length ≤ 1000 := hq1
  rw [hF] at kk
  clear hF gn s2 hq1 hw0 pin pM pout e2
  generalize ({ t0 with waits := fupd t0.waits a RW.nil } : Ct) = t1 at *
  refine q_reg ?_
  repeat (first | refine a_op (fun _ => rfl) ?_ | refine a_load rfl (by assumption) rfl ?_ | refine a_load_at rfl (by assumption) (by assumption) ?_ | refine a_iaddr_at rfl rfl (by assumption) ?_ | refine a_iaddr_l rfl rfl (by assumption) rfl ?_ | refine st_load_r rfl rfl ?_ | refine a_cmp rfl rfl rfl ?_ | refine a_eqi rfl rfl ?_ | refine st_not rfl ?_ | refine st_pick_t rfl rfl rfl ?_ | refine st_pick_f rfl rfl rfl ?_ | refine st_g rfl ?_ | refine a_gtf rfl ?_ | refine a_gft rfl ?_ | refine a_gu rfl ?_ | refine a_mklist (ec rfl en) (mz mkn) ?_ | refine a_mid ?_)
  first | refine a_endq (by repeat (first | exact pr_nil | (apply pr_cons; rfl))) ?_ | refine a_end (by repeat (first | exact pr_nil | (apply pr_cons; rfl))) ?_
  have hlen : l.length ≤ 1000 := hq
  refine sc_block (sc_loop (X := { y : Nat × Ct × Heap // y.1 ≤ l.length ∧ y.2.1.ok I (B + 2 * y.1) ∧ y.2.1.abs = (l.take y.1).foldl (fun t y => letterF t a y) t1.abs ∧ Sep y.2.2 (lay I y.2.1 ++ R) })
    (fun y => ([(0, .ptr I.w 0), (1, ii (a : Int)), (47, .list (l.map (eIt I.bid)) tok), (48, ii (l.map (eIt I.bid)).length), (49, ii y.1.1)], y.1.2.2)) (fun y => l.length - y.1.1)
    ⟨(0, t1, h3), Nat.zero_le _, ok1, rfl, s3⟩ (WeakF.refl _ _) ?_)
  clear ok1 s3
  rintro ⟨⟨k, t2, h4⟩, hk, ok2, hab, s4⟩
  simp only at hk ok2 hab s4
  refine q_reg ?_
  repeat (first | refine a_op (fun _ => rfl) ?_ | refine a_load rfl (by assumption) rfl ?_ | refine a_load_at rfl (by assumption) (by assumption) ?_ | refine a_iaddr_at rfl rfl (by assumption) ?_ | refine a_iaddr_l rfl rfl (by assumption) rfl ?_ | refine st_load_r rfl rfl ?_ | refine a_cmp rfl rfl rfl ?_ | refine a_eqi rfl rfl ?_ | refine st_not rfl ?_ | refine st_pick_t rfl rfl rfl ?_ | refine st_pick_f rfl rfl rfl ?_ | refine st_g rfl ?_ | refine a_gtf rfl ?_ | refine a_gft rfl ?_ | refine a_gu rfl ?_ | refine a_mklist (ec rfl en) (mz mkn) ?_ | refine a_mid ?_)
  first | refine a_endq (by repeat (first | exact pr_nil | (apply pr_cons; rfl))) ?_ | refine a_end (by repeat (first | exact pr_nil | (apply pr_cons; rfl))) ?_
  refine sc_seq (sc_cond rfl (fun hz => ?_) (fun hz => ?_))
  · have hkl : k < l.length := by have := of_decide_eq_true hz; dsimp only at this; rw [List.length_map] at this; omega
    obtain ⟨y, hy⟩ : ∃ y, l[k]? = some y := ⟨_, List.getElem?_eq_getElem hkl⟩
    have hyo := hits y (List.mem_of_getElem? hy)
    refine sc_skip (sq_n (sc_seq (sc_block (q_reg ?_))))
    repeat (first | refine a_op (fun _ => rfl) ?_ | refine a_load rfl (by assumption) rfl ?_ | refine a_load_at rfl (by assumption) (by assumption) ?_ | refine a_iaddr_at rfl rfl (by assumption) ?_ | refine a_iaddr_l rfl rfl (by assumption) rfl ?_ | refine st_load_r rfl rfl ?_ | refine a_cmp rfl rfl rfl ?_ | refine a_eqi rfl rfl ?_ | refine st_not rfl ?_ | refine st_pick_t rfl rfl rfl ?_ | refine st_pick_f rfl rfl rfl ?_ | refine st_g rfl ?_ | refine a_gtf rfl ?_ | refine a_gft rfl ?_ | refine a_gu rfl ?_ | refine a_mklist (ec rfl en) (mz mkn) ?_ | refine a_mid ?_)
    refine a_alloc ?_
    refine a_store rfl rfl (List.getElem?_concat_length) ⟨rfl, lb rfl, rfl⟩ ?_
    have hpx := itA I.bid y
    repeat (first | refine a_op (fun _ => rfl) ?_ | refine a_load rfl (by assumption) rfl ?_ | refine a_load_at rfl (by assumption) (by assumption) ?_ | refine a_iaddr_at rfl rfl (by assumption) ?_ | refine a_iaddr_l rfl rfl (by assumption) rfl ?_ | refine st_load_r rfl rfl ?_ | refine a_cmp rfl rfl rfl ?_ | refine a_eqi rfl rfl ?_ | refine st_not rfl ?_ | refine st_pick_t rfl rfl rfl ?_ | refine st_pick_f rfl rfl rfl ?_ | refine st_g rfl ?_ | refine a_gtf rfl ?_ | refine a_gft rfl ?_ | refine a_gu rfl ?_ | refine a_mklist (ec rfl en) (mz mkn) ?_ | refine a_mid ?_)
    first | refine a_endq (by repeat (first | exact pr_nil | (apply pr_cons; rfl))) ?_ | refine a_end (by repeat (first | exact pr_nil | (apply pr_cons; rfl))) ?_
    have s5 := Sep.set (A := []) (s4.new (.cells (itC ⟨0, 0, 0, 0, 0, 0, 0⟩ .nilptr))) (.cells (itC y (itP I.bid y)))
    change SC _ _ _ _ _ [(0, HV.ptr I.w 0), (1, ii (a : Int)), (9, .ptr h4.length 0), (47, .list (l.map (eIt I.bid)) tok), (48, ii (l.map (eIt I.bid)).length), (49, ii (k : Int))] ((h4 ++ [HObj.cells (itC ⟨0, 0, 0, 0, 0, 0, 0⟩ .nilptr)]).set h4.length (.cells (itC y (itP I.bid y))))
    generalize h4.length = v at s5 ⊢
    generalize (h4 ++ [HObj.cells (itC ⟨0, 0, 0, 0, 0, 0, 0⟩ .nilptr)]).set v (.cells (itC y (itP I.bid y))) = h5 at s5 ⊢
    simp only [List.nil_append] at s5
    have gv : h5[v]? = some (.cells (itC y (itP I.bid y))) := s5.get (by simp)
    refine s_reg ?_
    repeat (first | refine a_op (fun _ => rfl) ?_ | refine a_load rfl (by assumption) rfl ?_ | refine a_load_at rfl (by assumption) (by assumption) ?_ | refine a_iaddr_at rfl rfl (by assumption) ?_ | refine a_iaddr_l rfl rfl (by assumption) rfl ?_ | refine st_load_r rfl rfl ?_ | refine a_cmp rfl rfl rfl ?_ | refine a_eqi rfl rfl ?_ | refine st_not rfl ?_ | refine st_pick_t rfl rfl rfl ?_ | refine st_pick_f rfl rfl rfl ?_ | refine st_g rfl ?_ | refine a_gtf rfl ?_ | refine a_gft rfl ?_ | refine a_gu rfl ?_ | refine a_mklist (ec rfl en) (mz mkn) ?_ | refine a_mid ?_)
    refine a_callE (ws := [.ptr I.w 0, ii (a : Int), eIt I.bid y]) (ec rfl (ec rfl (ec rfl en))) (by show [HV.ptr I.w 0, ii (a : Int), (HV.agg (itC y (itP I.bid y))).strip1] = _; rw [hpx]) (r69 ok2 (by omega) ha hyo (s5.sub (List.sublist_cons_self _ _)) (fun h6 t3 ok3 hab3 s6 => ?_))
    repeat (first | refine a_op (fun _ => rfl) ?_ | refine a_load rfl (by assumption) rfl ?_ | refine a_load_at rfl (by assumption) (by assumption) ?_ | refine a_iaddr_at rfl rfl (by assumption) ?_ | refine a_iaddr_l rfl rfl (by assumption) rfl ?_ | refine st_load_r rfl rfl ?_ | refine a_cmp rfl rfl rfl ?_ | refine a_eqi rfl rfl ?_ | refine st_not rfl ?_ | refine st_pick_t rfl rfl rfl ?_ | refine st_pick_f rfl rfl rfl ?_ | refine st_g rfl ?_ | refine a_gtf rfl ?_ | refine a_gft rfl ?_ | refine a_gu rfl ?_ | refine a_mklist (ec rfl en) (mz mkn) ?_ | refine a_mid ?_)
    first | refine a_endq (by repeat (first | exact pr_nil | (apply pr_cons; rfl))) ?_ | refine a_end (by repeat (first | exact pr_nil | (apply pr_cons; rfl))) ?_
    refine s_reg ?_
    repeat (first | refine a_op (fun _ => rfl) ?_ | refine a_load rfl (by assumption) rfl ?_ | refine a_load_at rfl (by assumption) (by assumption) ?_ | refine a_iaddr_at rfl rfl (by assumption) ?_ | refine a_iaddr_l rfl rfl (by assumption) rfl ?_ | refine st_load_r rfl rfl ?_ | refine a_cmp rfl rfl rfl ?_ | refine a_eqi rfl rfl ?_ | refine st_not rfl ?_ | refine st_pick_t rfl rfl rfl ?_ | refine st_pick_f rfl rfl rfl ?_ | refine st_g rfl ?_ | refine a_gtf rfl ?_ | refine a_gft rfl ?_ | refine a_gu rfl ?_ | refine a_mklist (ec rfl en) (mz mkn) ?_ | refine a_mid ?_)
    refine a_add rfl rfl (by first | omega | (dsimp only; omega)) ?_
    repeat (first | refine a_op (fun _ => rfl) ?_ | refine a_load rfl (by assumption) rfl ?_ | refine a_load_at rfl (by assumption) (by assumption) ?_ | refine a_iaddr_at rfl rfl (by assumption) ?_ | refine a_iaddr_l rfl rfl (by assumption) rfl ?_ | refine st_load_r rfl rfl ?_ | refine a_cmp rfl rfl rfl ?_ | refine a_eqi rfl rfl ?_ | refine st_not rfl ?_ | refine st_pick_t rfl rfl rfl ?_ | refine st_pick_f rfl rfl rfl ?_ | refine st_g rfl ?_ | refine a_gtf rfl ?_ | refine a_gft rfl ?_ | refine a_gu rfl ?_ | refine a_mklist (ec rfl en) (mz mkn) ?_ | refine a_mid ?_)
    first | refine a_endq (by repeat (first | exact pr_nil | (apply pr_cons; rfl))) ?_ | refine a_end (by repeat (first | exact pr_nil | (apply pr_cons; rfl))) ?_
    refine lo_n ⟨(k + 1, t3, h6), hkl, ok3.le (by omega), ?_, s6⟩ (by show l.length - (k + 1) < l.length - k; omega) (WeakF.refl _ _)
    show t3.abs = (l.take (k + 1)).foldl _ t1.abs
    rw [hab3, hab, List.take_add_one, hy, Option.toList_some, List.foldl_append]
    rfl
  · have hkl : ¬ k < l.length := by have := of_decide_eq_false hz; dsimp only at this; rw [List.length_map] at this; omega
    rw [List.take_of_length_le (by omega)] at hab
    refine sc_exit (sq_x (lo_x (bl_x (x_ret _ rfl (kk h4 t2 (ok2.le (by omega)) hab s4)))))

theorem letterF_len (t : Nw) (a : Nat) (y : It) : ((letterF t a y).waits a).length ≤ (t.waits a).length + 1 := by
  unfold letterF
  split
  · exact Nat.le_succ _
  split
  · show (fupd t.waits a (t.waits a ++ [y]) a).length ≤ _
    rw [fupd_eq, List.length_append, List.length_singleton]
    exact Nat.le_refl _
  · exact Nat.le_succ _
theorem fold_len (a : Nat) : ∀ (l : List It) (t : Nw), ((l.foldl (fun t y => letterF t a y) t).waits a).length ≤ (t.waits a).length + l.length
  | [], t => Nat.le_refl _
  | y :: l, t => by
    have h1 := fold_len a l (letterF t a y)
    have h2 := letterF_len t a y
    simp only [List.foldl_cons, List.length_cons]
    omega
theorem allF_len (t : Nw) (a : Nat) : ((allF t a).waits a).length ≤ (t.waits a).length := by
  have := fold_len a (t.waits a) (emptyF t a)
  have e : ((emptyF t a).waits a).length = 0 := by show (fupd t.waits a [] a).length = 0; rw [fupd_eq]; rfl
  unfold allF
  omega
theorem learnF_len (t : Nw) (a : Nat) (x : It) : ((learnF t a x).waits a).length ≤ (t.waits a).length := by
  unfold learnF
  split
  · exact Nat.le_refl _
  · exact allF_len (knowF t a x) a
theorem r71 {h : Heap} {R : Lay} {I : Ids} {t : Ct} {B a : Nat} {f : Int} {x : It} (ok : t.ok I B) (hB : B ≤ 700000000) (ha : a < I.K) (hx : x.ok I) (hk : x.kind = 1 ∨ x.kind = 2 ∨ x.kind = 3) (hq : (t.waits a).l.length ≤ 1000) (hs : Sep h (lay I t ++ R)) {Q : HV → Heap → Prop}
    (kk : ∀ (h' : Heap) (t' : Ct), t'.ok I (B + 4000) → t'.abs = comeF t.abs a x → Sep h' (lay I t' ++ R) → Q (.tuple []) h') : HCalls Try.prog 71 [.ptr I.w 0, ii f, ii (a : Int), eIt I.bid x] h Q := by
  refine sc_func2 (rs := []) Try.func71 rfl (by decide) (by kernel_rfl) (lb rfl) hk71 ?_
  show SC Try.prog Try.f71.ntmps _ hc71 _ [(0, .ptr I.w 0), (1, ii f), (2, ii (a : Int)), (3, .agg (itC x (itP I.bid x)))] h
  unfold hc71
  have hpx := itA I.bid x
  have hp2 : x.kind = 2 → itP I.bid x = .ptr (I.bid x.who) 0 := fun h => by unfold itP; rw [if_pos h]
  generalize itP I.bid x = p at hpx hp2 ⊢
  refine q_reg (a_box rfl rfl rfl ?_)
  repeat (first | refine a_op (fun _ => rfl) ?_ | refine a_load rfl (by assumption) rfl ?_ | refine a_load_at rfl (by assumption) (by assumption) ?_ | refine a_iaddr_at rfl rfl (by assumption) ?_ | refine a_iaddr_l rfl rfl (by assumption) rfl ?_ | refine st_load_r rfl rfl ?_ | refine a_cmp rfl rfl rfl ?_ | refine a_eqi rfl rfl ?_ | refine st_not rfl ?_ | refine st_pick_t rfl rfl rfl ?_ | refine st_pick_f rfl rfl rfl ?_ | refine st_g rfl ?_ | refine a_gtf rfl ?_ | refine a_gft rfl ?_ | refine a_gu rfl ?_ | refine a_mklist (ec rfl en) (mz mkn) ?_ | refine a_mid ?_)
  first | refine a_endq (by repeat (first | exact pr_nil | (apply pr_cons; rfl))) ?_ | refine a_end (by repeat (first | exact pr_nil | (apply pr_cons; rfl))) ?_
  have s1 := hs.new (.cells (itC x p))
  change SC _ _ _ _ _ [(0, HV.ptr I.w 0), (2, ii (a : Int)), (7, .ptr h.length 0)] (h ++ [HObj.cells (itC x p)])
  generalize h.length = d at s1 ⊢
  generalize h ++ [HObj.cells (itC x p)] = h1 at s1 ⊢
  clear hs h
  have s1 : Sep h1 (lay I t ++ ((d, .cells (itC x p)) :: R)) := s1.perm List.perm_middle.symm
  have gd : h1[d]? = some (.cells (itC x p)) := s1.get (by simp)
  have gw : h1[I.w]? = some (netO I) := s1.get (mem_w _)
  have gn : h1[I.nid]? = some (nodesO I t.waits) := s1.get (mem_n _)
  have gh : h1[I.hid a]? = some (hereO I (t.here a)) := s1.get (mem_node ha (by simp [nodeL]) _)
  have hwho := hx.who
  refine q_reg ?_
  repeat (first | refine a_op (fun _ => rfl) ?_ | refine a_load rfl (by assumption) rfl ?_ | refine a_load_at rfl (by assumption) (by assumption) ?_ | refine a_iaddr_at rfl rfl (by assumption) ?_ | refine a_iaddr_l rfl rfl (by assumption) rfl ?_ | refine st_load_r rfl rfl ?_ | refine a_cmp rfl rfl rfl ?_ | refine a_eqi rfl rfl ?_ | refine st_not rfl ?_ | refine st_pick_t rfl rfl rfl ?_ | refine st_pick_f rfl rfl rfl ?_ | refine st_g rfl ?_ | refine a_gtf rfl ?_ | refine a_gft rfl ?_ | refine a_gu rfl ?_ | refine a_mklist (ec rfl en) (mz mkn) ?_ | refine a_mid ?_)
  refine a_iaddr_n rfl rfl ha ?_
  repeat (first | refine a_op (fun _ => rfl) ?_ | refine a_load rfl (by assumption) rfl ?_ | refine a_load_at rfl (by assumption) (by assumption) ?_ | refine a_iaddr_at rfl rfl (by assumption) ?_ | refine a_iaddr_l rfl rfl (by assumption) rfl ?_ | refine st_load_r rfl rfl ?_ | refine a_cmp rfl rfl rfl ?_ | refine a_eqi rfl rfl ?_ | refine st_not rfl ?_ | refine st_pick_t rfl rfl rfl ?_ | refine st_pick_f rfl rfl rfl ?_ | refine st_g rfl ?_ | refine a_gtf rfl ?_ | refine a_gft rfl ?_ | refine a_gu rfl ?_ | refine a_mklist (ec rfl en) (mz mkn) ?_ | refine a_mid ?_)
  first | refine a_endq (by repeat (first | exact pr_nil | (apply pr_cons; rfl))) ?_ | refine a_end (by repeat (first | exact pr_nil | (apply pr_cons; rfl))) ?_
  refine q_reg ?_
  repeat (first | refine a_op (fun _ => rfl) ?_ | refine a_load rfl (by assumption) rfl ?_ | refine a_load_at rfl (by assumption) (by assumption) ?_ | refine a_iaddr_at rfl rfl (by assumption) ?_ | refine a_iaddr_l rfl rfl (by assumption) rfl ?_ | refine st_load_r rfl rfl ?_ | refine a_cmp rfl rfl rfl ?_ | refine a_eqi rfl rfl ?_ | refine st_not rfl ?_ | refine st_pick_t rfl rfl rfl ?_ | refine st_pick_f rfl rfl rfl ?_ | refine st_g rfl ?_ | refine a_gtf rfl ?_ | refine a_gft rfl ?_ | refine a_gu rfl ?_ | refine a_mklist (ec rfl en) (mz mkn) ?_ | refine a_mid ?_)
  first | refine a_endq (by repeat (first | exact pr_nil | (apply pr_cons; rfl))) ?_ | refine a_end (by repeat (first | exact pr_nil | (apply pr_cons; rfl))) ?_
  refine sc_block (q_reg ?_)
  repeat (first | refine a_op (fun _ => rfl) ?_ | refine a_load rfl (by assumption) rfl ?_ | refine a_load_at rfl (by assumption) (by assumption) ?_ | refine a_iaddr_at rfl rfl (by assumption) ?_ | refine a_iaddr_l rfl rfl (by assumption) rfl ?_ | refine st_load_r rfl rfl ?_ | refine a_cmp rfl rfl rfl ?_ | refine a_eqi rfl rfl ?_ | refine st_not rfl ?_ | refine st_pick_t rfl rfl rfl ?_ | refine st_pick_f rfl rfl rfl ?_ | refine st_g rfl ?_ | refine a_gtf rfl ?_ | refine a_gft rfl ?_ | refine a_gu rfl ?_ | refine a_mklist (ec rfl en) (mz mkn) ?_ | refine a_mid ?_)
  first | refine a_endq (by repeat (first | exact pr_nil | (apply pr_cons; rfl))) ?_ | refine a_end (by repeat (first | exact pr_nil | (apply pr_cons; rfl))) ?_
  unfold comeF at kk
  rcases hk with hk | hk | hk
  · rw [if_pos hk] at kk
    refine s_cond_t (by show some (HV.bool (if false = true then !(x.kind == 1) else x.kind == 1)) = some (HV.bool true); rw [hk]; rfl) (s_reg ?_)
    repeat (first | refine a_op (fun _ => rfl) ?_ | refine a_load rfl (by assumption) rfl ?_ | refine a_load_at rfl (by assumption) (by assumption) ?_ | refine a_iaddr_at rfl rfl (by assumption) ?_ | refine a_iaddr_l rfl rfl (by assumption) rfl ?_ | refine st_load_r rfl rfl ?_ | refine a_cmp rfl rfl rfl ?_ | refine a_eqi rfl rfl ?_ | refine st_not rfl ?_ | refine st_pick_t rfl rfl rfl ?_ | refine st_pick_f rfl rfl rfl ?_ | refine st_g rfl ?_ | refine a_gtf rfl ?_ | refine a_gft rfl ?_ | refine a_gu rfl ?_ | refine a_mklist (ec rfl en) (mz mkn) ?_ | refine a_mid ?_)
    refine a_callE (ws := [.ptr I.w 0, ii (a : Int), eIt I.bid x]) (ec rfl (ec rfl (ec rfl en))) (by show [HV.ptr I.w 0, ii (a : Int), (HV.agg (itC x p)).strip1] = _; rw [hpx]) (r69 ok (by omega) ha hx (s1.sub ((List.sublist_cons_self _ _).append_left _)) (fun h2 t2 ok2 hab2 s2 => ?_))
    repeat (first | refine a_op (fun _ => rfl) ?_ | refine a_load rfl (by assumption) rfl ?_ | refine a_load_at rfl (by assumption) (by assumption) ?_ | refine a_iaddr_at rfl rfl (by assumption) ?_ | refine a_iaddr_l rfl rfl (by assumption) rfl ?_ | refine st_load_r rfl rfl ?_ | refine a_cmp rfl rfl rfl ?_ | refine a_eqi rfl rfl ?_ | refine st_not rfl ?_ | refine st_pick_t rfl rfl rfl ?_ | refine st_pick_f rfl rfl rfl ?_ | refine st_g rfl ?_ | refine a_gtf rfl ?_ | refine a_gft rfl ?_ | refine a_gu rfl ?_ | refine a_mklist (ec rfl en) (mz mkn) ?_ | refine a_mid ?_)
    first | refine a_endq (by repeat (first | exact pr_nil | (apply pr_cons; rfl))) ?_ | refine a_end (by repeat (first | exact pr_nil | (apply pr_cons; rfl))) ?_
    exact bl_n (x_ret _ rfl (kk h2 t2 (ok2.le (by omega)) hab2 s2))
  · rw [if_neg (by rw [hk]; decide), if_neg (by rw [hk]; decide), if_pos hk] at kk
    obtain rfl := hp2 hk
    refine s_cond_f (by show some (HV.bool (if false = true then !(x.kind == 1) else x.kind == 1)) = some (HV.bool false); rw [hk]; rfl) (q_reg ?_)
    repeat (first | refine a_op (fun _ => rfl) ?_ | refine a_load rfl (by assumption) rfl ?_ | refine a_load_at rfl (by assumption) (by assumption) ?_ | refine a_iaddr_at rfl rfl (by assumption) ?_ | refine a_iaddr_l rfl rfl (by assumption) rfl ?_ | refine st_load_r rfl rfl ?_ | refine a_cmp rfl rfl rfl ?_ | refine a_eqi rfl rfl ?_ | refine st_not rfl ?_ | refine st_pick_t rfl rfl rfl ?_ | refine st_pick_f rfl rfl rfl ?_ | refine st_g rfl ?_ | refine a_gtf rfl ?_ | refine a_gft rfl ?_ | refine a_gu rfl ?_ | refine a_mklist (ec rfl en) (mz mkn) ?_ | refine a_mid ?_)
    first | refine a_endq (by repeat (first | exact pr_nil | (apply pr_cons; rfl))) ?_ | refine a_end (by repeat (first | exact pr_nil | (apply pr_cons; rfl))) ?_
    refine s_cond_f (by show some (HV.bool (if false = true then !(x.kind == 3) else x.kind == 3)) = some (HV.bool false); rw [hk]; rfl) (q_reg ?_)
    repeat (first | refine a_op (fun _ => rfl) ?_ | refine a_load rfl (by assumption) rfl ?_ | refine a_load_at rfl (by assumption) (by assumption) ?_ | refine a_iaddr_at rfl rfl (by assumption) ?_ | refine a_iaddr_l rfl rfl (by assumption) rfl ?_ | refine st_load_r rfl rfl ?_ | refine a_cmp rfl rfl rfl ?_ | refine a_eqi rfl rfl ?_ | refine st_not rfl ?_ | refine st_pick_t rfl rfl rfl ?_ | refine st_pick_f rfl rfl rfl ?_ | refine st_g rfl ?_ | refine a_gtf rfl ?_ | refine a_gft rfl ?_ | refine a_gu rfl ?_ | refine a_mklist (ec rfl en) (mz mkn) ?_ | refine a_mid ?_)
    first | refine a_endq (by repeat (first | exact pr_nil | (apply pr_cons; rfl))) ?_ | refine a_end (by repeat (first | exact pr_nil | (apply pr_cons; rfl))) ?_
    refine s_cond_t (by show some (HV.bool (if false = true then !(x.kind == 2) else x.kind == 2)) = some (HV.bool true); rw [hk]; rfl) (a_dreg0 Try.mixed ?_)
    repeat (first | refine a_op (fun _ => rfl) ?_ | refine a_load rfl (by assumption) rfl ?_ | refine a_load_at rfl (by assumption) (by assumption) ?_ | refine a_iaddr_at rfl rfl (by assumption) ?_ | refine a_iaddr_l rfl rfl (by assumption) rfl ?_ | refine st_load_r rfl rfl ?_ | refine a_cmp rfl rfl rfl ?_ | refine a_eqi rfl rfl ?_ | refine st_not rfl ?_ | refine st_pick_t rfl rfl rfl ?_ | refine st_pick_f rfl rfl rfl ?_ | refine st_g rfl ?_ | refine a_gtf rfl ?_ | refine a_gft rfl ?_ | refine a_gu rfl ?_ | refine a_mklist (ec rfl en) (mz mkn) ?_ | refine a_mid ?_)
    refine a_load_fm (i := a) (w := 4) (j := 0) rfl gn (nodeC_len I t.waits) ha (by decide) rfl ?_
    repeat (first | refine a_op (fun _ => rfl) ?_ | refine a_load rfl (by assumption) rfl ?_ | refine a_load_at rfl (by assumption) (by assumption) ?_ | refine a_iaddr_at rfl rfl (by assumption) ?_ | refine a_iaddr_l rfl rfl (by assumption) rfl ?_ | refine st_load_r rfl rfl ?_ | refine a_cmp rfl rfl rfl ?_ | refine a_eqi rfl rfl ?_ | refine st_not rfl ?_ | refine st_pick_t rfl rfl rfl ?_ | refine st_pick_f rfl rfl rfl ?_ | refine st_g rfl ?_ | refine a_gtf rfl ?_ | refine a_gft rfl ?_ | refine a_gu rfl ?_ | refine a_mklist (ec rfl en) (mz mkn) ?_ | refine a_mid ?_)
    refine a_store_rg (F := hereC I.bid (t.here a)) rfl rfl gh rfl rfl hwho ?_
    repeat (first | refine a_op (fun _ => rfl) ?_ | refine a_load rfl (by assumption) rfl ?_ | refine a_load_at rfl (by assumption) (by assumption) ?_ | refine a_iaddr_at rfl rfl (by assumption) ?_ | refine a_iaddr_l rfl rfl (by assumption) rfl ?_ | refine st_load_r rfl rfl ?_ | refine a_cmp rfl rfl rfl ?_ | refine a_eqi rfl rfl ?_ | refine st_not rfl ?_ | refine st_pick_t rfl rfl rfl ?_ | refine st_pick_f rfl rfl rfl ?_ | refine st_g rfl ?_ | refine a_gtf rfl ?_ | refine a_gft rfl ?_ | refine a_gu rfl ?_ | refine a_mklist (ec rfl en) (mz mkn) ?_ | refine a_mid ?_)
    first | refine a_endq (by repeat (first | exact pr_nil | (apply pr_cons; rfl))) ?_ | refine a_end (by repeat (first | exact pr_nil | (apply pr_cons; rfl))) ?_
    obtain ⟨M, pin, pout⟩ := here_at I t ha ((d, .cells (itC x (.ptr (I.bid x.who) 0))) :: R)
    have s2 := (Sep.set (A := []) (B := M) (s1.perm pin) (hereO I (fupd (t.here a) x.who true))).perm (pout _).symm
    have e2 : fupd (hereC I.bid (t.here a)) x.who (HV.ptr (I.bid x.who) 0) = hereC I.bid (fupd (t.here a) x.who true) := hereC_upd I.bid (t.here a) x.who true
    rw [e2]
    generalize h1.set (I.hid a) _ = hz at s2 ⊢
    have gd : hz[d]? = some (.cells (itC x (.ptr (I.bid x.who) 0))) := s2.get (by simp)
    have okz : ({ t with here := fupd t.here a (fupd (t.here a) x.who true) } : Ct).ok I B := ⟨ok.bod, ok.g, ok.waits, ok.itg, ok.itw, ok.hK, ok.hm⟩
    refine q_reg ?_
    repeat (first | refine a_op (fun _ => rfl) ?_ | refine a_load rfl (by assumption) rfl ?_ | refine a_load_at rfl (by assumption) (by assumption) ?_ | refine a_iaddr_at rfl rfl (by assumption) ?_ | refine a_iaddr_l rfl rfl (by assumption) rfl ?_ | refine st_load_r rfl rfl ?_ | refine a_cmp rfl rfl rfl ?_ | refine a_eqi rfl rfl ?_ | refine st_not rfl ?_ | refine st_pick_t rfl rfl rfl ?_ | refine st_pick_f rfl rfl rfl ?_ | refine st_g rfl ?_ | refine a_gtf rfl ?_ | refine a_gft rfl ?_ | refine a_gu rfl ?_ | refine a_mklist (ec rfl en) (mz mkn) ?_ | refine a_mid ?_)
    refine a_callE (ws := [.ptr I.w 0, ii (a : Int), eIt I.bid x]) (ec rfl (ec rfl (ec rfl en))) (by show [HV.ptr I.w 0, ii (a : Int), (HV.agg (itC x (.ptr (I.bid x.who) 0))).strip1] = _; rw [hpx]) (r84 okz (by omega) ha hwho hq (s2.sub ((List.sublist_cons_self _ _).append_left _)) (fun h2 t0 ok1 hab2 s3 => ?_))
    repeat (first | refine a_op (fun _ => rfl) ?_ | refine a_load rfl (by assumption) rfl ?_ | refine a_load_at rfl (by assumption) (by assumption) ?_ | refine a_iaddr_at rfl rfl (by assumption) ?_ | refine a_iaddr_l rfl rfl (by assumption) rfl ?_ | refine st_load_r rfl rfl ?_ | refine a_cmp rfl rfl rfl ?_ | refine a_eqi rfl rfl ?_ | refine st_not rfl ?_ | refine st_pick_t rfl rfl rfl ?_ | refine st_pick_f rfl rfl rfl ?_ | refine st_g rfl ?_ | refine a_gtf rfl ?_ | refine a_gft rfl ?_ | refine a_gu rfl ?_ | refine a_mklist (ec rfl en) (mz mkn) ?_ | refine a_mid ?_)
    first | refine a_endq (by repeat (first | exact pr_nil | (apply pr_cons; rfl))) ?_ | refine a_end (by repeat (first | exact pr_nil | (apply pr_cons; rfl))) ?_
    have hab3 : t0.abs = learnF (hereF t.abs a x.who true) a x := hab2
    rw [← hab3] at kk
    have hq1 : (t0.waits a).l.length ≤ 1000 := by
      have := learnF_len (hereF t.abs a x.who true) a x
      rw [← hab3] at this
      have : (t0.waits a).l.length ≤ (t.waits a).l.length := this
      omega
    clear hab2 hab3 okz ok e2 s2 gd gh gn gw s1 pin pout hq
    have s2 := s3
    clear s3
    generalize hB1 : B + 2000 = B1 at ok1
    have gn : h2[I.nid]? = some (nodesO I t0.waits) := s2.get (mem_n _)
    refine q_reg ?_
    repeat (first | refine a_op (fun _ => rfl) ?_ | refine a_load rfl (by assumption) rfl ?_ | refine a_load_at rfl (by assumption) (by assumption) ?_ | refine a_iaddr_at rfl rfl (by assumption) ?_ | refine a_iaddr_l rfl rfl (by assumption) rfl ?_ | refine st_load_r rfl rfl ?_ | refine a_cmp rfl rfl rfl ?_ | refine a_eqi rfl rfl ?_ | refine st_not rfl ?_ | refine st_pick_t rfl rfl rfl ?_ | refine st_pick_f rfl rfl rfl ?_ | refine st_g rfl ?_ | refine a_gtf rfl ?_ | refine a_gft rfl ?_ | refine a_gu rfl ?_ | refine a_mklist (ec rfl en) (mz mkn) ?_ | refine a_mid ?_)
    refine a_load_fm (i := a) (w := 4) (j := 3) rfl gn (nodeC_len I t0.waits) ha (by decide) rfl ?_
    repeat (first | refine a_op (fun _ => rfl) ?_ | refine a_load rfl (by assumption) rfl ?_ | refine a_load_at rfl (by assumption) (by assumption) ?_ | refine a_iaddr_at rfl rfl (by assumption) ?_ | refine a_iaddr_l rfl rfl (by assumption) rfl ?_ | refine st_load_r rfl rfl ?_ | refine a_cmp rfl rfl rfl ?_ | refine a_eqi rfl rfl ?_ | refine st_not rfl ?_ | refine st_pick_t rfl rfl rfl ?_ | refine st_pick_f rfl rfl rfl ?_ | refine st_g rfl ?_ | refine a_gtf rfl ?_ | refine a_gft rfl ?_ | refine a_gu rfl ?_ | refine a_mklist (ec rfl en) (mz mkn) ?_ | refine a_mid ?_)
    first | refine a_endq (by repeat (first | exact pr_nil | (apply pr_cons; rfl))) ?_ | refine a_end (by repeat (first | exact pr_nil | (apply pr_cons; rfl))) ?_
    refine q_reg ?_
    repeat (first | refine a_op (fun _ => rfl) ?_ | refine a_load rfl (by assumption) rfl ?_ | refine a_load_at rfl (by assumption) (by assumption) ?_ | refine a_iaddr_at rfl rfl (by assumption) ?_ | refine a_iaddr_l rfl rfl (by assumption) rfl ?_ | refine st_load_r rfl rfl ?_ | refine a_cmp rfl rfl rfl ?_ | refine a_eqi rfl rfl ?_ | refine st_not rfl ?_ | refine st_pick_t rfl rfl rfl ?_ | refine st_pick_f rfl rfl rfl ?_ | refine st_g rfl ?_ | refine a_gtf rfl ?_ | refine a_gft rfl ?_ | refine a_gu rfl ?_ | refine a_mklist (ec rfl en) (mz mkn) ?_ | refine a_mid ?_)
    refine a_store_fm (i := a) (w := 4) (j := 3) (F := nodeC I t0.waits) (v := RW.nil.hv (eIt I.bid)) rfl rfl gn (nodeC_len I t0.waits) ha (by rfl) (by decide) rfl ?_
    repeat (first | refine a_op (fun _ => rfl) ?_ | refine a_load rfl (by assumption) rfl ?_ | refine a_load_at rfl (by assumption) (by assumption) ?_ | refine a_iaddr_at rfl rfl (by assumption) ?_ | refine a_iaddr_l rfl rfl (by assumption) rfl ?_ | refine st_load_r rfl rfl ?_ | refine a_cmp rfl rfl rfl ?_ | refine a_eqi rfl rfl ?_ | refine st_not rfl ?_ | refine st_pick_t rfl rfl rfl ?_ | refine st_pick_f rfl rfl rfl ?_ | refine st_g rfl ?_ | refine a_gtf rfl ?_ | refine a_gft rfl ?_ | refine a_gu rfl ?_ | refine a_mklist (ec rfl en) (mz mkn) ?_ | refine a_mid ?_)
    first | refine a_endq (by repeat (first | exact pr_nil | (apply pr_cons; rfl))) ?_ | refine a_end (by repeat (first | exact pr_nil | (apply pr_cons; rfl))) ?_
    obtain ⟨M, pin, pM, pout⟩ := wait_at I t0 ha R
    have s3 := Sep.set (A := []) (B := (t0.waits a).lay ++ M) (s2.perm pin) (nodesO I (fupd t0.waits a RW.nil))
    have s3 : Sep (h2.set I.nid (nodesO I (fupd t0.waits a RW.nil))) (lay I { t0 with waits := fupd t0.waits a RW.nil } ++ R) := (s3.sub ((List.sublist_append_right _ _).cons_cons _)).perm (pout RW.nil).symm
    have e2 : putAt (nodeC I t0.waits a) 3 ((RW.nil : RW It).hv (eIt I.bid)).cells = putAt (nodeC I t0.waits a) 3 [(RW.nil : RW It).hv (eIt I.bid)] := rfl
    rw [e2, nodeC_upd]
    obtain ⟨⟨l, tok⟩, hw0⟩ : ∃ r, t0.waits a = r := ⟨_, rfl⟩
    change SC _ _ _ _ _ [(0, HV.ptr I.w 0), (2, ii (a : Int)), (9, (t0.waits a).hv (eIt I.bid))] _
    have hits := ok1.itw a
    rw [hw0] at hits hq1 ⊢
    generalize h2.set I.nid _ = h3 at s3 ⊢
    have ok1 : ({ t0 with waits := fupd t0.waits a RW.nil } : Ct).ok I B1 := by
      refine ⟨ok1.bod, ok1.g, fun i => ?_, ok1.itg, fun i y hy => ?_, ok1.hK, ok1.hm⟩
      · simp only [fupd]
        split
        · exact ⟨trivial, Nat.zero_le _⟩
        · exact ok1.waits i
      · simp only [fupd] at hy
        split at hy
        · simp [RW.nil] at hy
        · exact ok1.itw i y hy
    have hF : allF t0.abs a = l.foldl (fun t y => letterF t a y) ({ t0 with waits := fupd t0.waits a RW.nil } : Ct).abs := by
      unfold allF
      rw [show t0.abs.waits a = l by show (t0.waits a).l = l; rw [hw0]]
      congr 1
      simp only [emptyF, Ct.abs, fupd_map]
      rfl
    have hq : l.length ≤ 1000 := hq1
    rw [hF] at kk
    clear hF gn s2 hq1 hw0 pin pM pout e2
    generalize ({ t0 with waits := fupd t0.waits a RW.nil } : Ct) = t1 at *
    refine q_reg ?_
    repeat (first | refine a_op (fun _ => rfl) ?_ | refine a_load rfl (by assumption) rfl ?_ | refine a_load_at rfl (by assumption) (by assumption) ?_ | refine a_iaddr_at rfl rfl (by assumption) ?_ | refine a_iaddr_l rfl rfl (by assumption) rfl ?_ | refine st_load_r rfl rfl ?_ | refine a_cmp rfl rfl rfl ?_ | refine a_eqi rfl rfl ?_ | refine st_not rfl ?_ | refine st_pick_t rfl rfl rfl ?_ | refine st_pick_f rfl rfl rfl ?_ | refine st_g rfl ?_ | refine a_gtf rfl ?_ | refine a_gft rfl ?_ | refine a_gu rfl ?_ | refine a_mklist (ec rfl en) (mz mkn) ?_ | refine a_mid ?_)
    first | refine a_endq (by repeat (first | exact pr_nil | (apply pr_cons; rfl))) ?_ | refine a_end (by repeat (first | exact pr_nil | (apply pr_cons; rfl))) ?_
    have hlen : l.length ≤ 1000 := hq
    refine sc_block (sc_loop (X := { y : Nat × Ct × Heap // y.1 ≤ l.length ∧ y.2.1.ok I (B1 + 2 * y.1) ∧ y.2.1.abs = (l.take y.1).foldl (fun t y => letterF t a y) t1.abs ∧ Sep y.2.2 (lay I y.2.1 ++ R) })
      (fun y => ([(0, .ptr I.w 0), (2, ii (a : Int)), (54, .list (l.map (eIt I.bid)) tok), (55, ii (l.map (eIt I.bid)).length), (56, ii y.1.1)], y.1.2.2)) (fun y => l.length - y.1.1)
      ⟨(0, t1, h3), Nat.zero_le _, ok1, rfl, s3⟩ (WeakF.refl _ _) ?_)
    clear ok1 s3
    rintro ⟨⟨k, t2, h4⟩, hk, ok2, hab, s4⟩
    simp only at hk ok2 hab s4
    refine q_reg ?_
    repeat (first | refine a_op (fun _ => rfl) ?_ | refine a_load rfl (by assumption) rfl ?_ | refine a_load_at rfl (by assumption) (by assumption) ?_ | refine a_iaddr_at rfl rfl (by assumption) ?_ | refine a_iaddr_l rfl rfl (by assumption) rfl ?_ | refine st_load_r rfl rfl ?_ | refine a_cmp rfl rfl rfl ?_ | refine a_eqi rfl rfl ?_ | refine st_not rfl ?_ | refine st_pick_t rfl rfl rfl ?_ | refine st_pick_f rfl rfl rfl ?_ | refine st_g rfl ?_ | refine a_gtf rfl ?_ | refine a_gft rfl ?_ | refine a_gu rfl ?_ | refine a_mklist (ec rfl en) (mz mkn) ?_ | refine a_mid ?_)
    first | refine a_endq (by repeat (first | exact pr_nil | (apply pr_cons; rfl))) ?_ | refine a_end (by repeat (first | exact pr_nil | (apply pr_cons; rfl))) ?_
    refine sc_seq (sc_cond rfl (fun hz => ?_) (fun hz => ?_))
    · have hkl : k < l.length := by have := of_decide_eq_true hz; dsimp only at this; rw [List.length_map] at this; omega
      obtain ⟨y, hy⟩ : ∃ y, l[k]? = some y := ⟨_, List.getElem?_eq_getElem hkl⟩
      have hyo := hits y (List.mem_of_getElem? hy)
      refine sc_skip (sq_n (sc_seq (sc_block (q_reg ?_))))
      repeat (first | refine a_op (fun _ => rfl) ?_ | refine a_load rfl (by assumption) rfl ?_ | refine a_load_at rfl (by assumption) (by assumption) ?_ | refine a_iaddr_at rfl rfl (by assumption) ?_ | refine a_iaddr_l rfl rfl (by assumption) rfl ?_ | refine st_load_r rfl rfl ?_ | refine a_cmp rfl rfl rfl ?_ | refine a_eqi rfl rfl ?_ | refine st_not rfl ?_ | refine st_pick_t rfl rfl rfl ?_ | refine st_pick_f rfl rfl rfl ?_ | refine st_g rfl ?_ | refine a_gtf rfl ?_ | refine a_gft rfl ?_ | refine a_gu rfl ?_ | refine a_mklist (ec rfl en) (mz mkn) ?_ | refine a_mid ?_)
      refine a_alloc ?_
      refine a_store rfl rfl (List.getElem?_concat_length) ⟨rfl, lb rfl, rfl⟩ ?_
      have hpx := itA I.bid y
      repeat (first | refine a_op (fun _ => rfl) ?_ | refine a_load rfl (by assumption) rfl ?_ | refine a_load_at rfl (by assumption) (by assumption) ?_ | refine a_iaddr_at rfl rfl (by assumption) ?_ | refine a_iaddr_l rfl rfl (by assumption) rfl ?_ | refine st_load_r rfl rfl ?_ | refine a_cmp rfl rfl rfl ?_ | refine a_eqi rfl rfl ?_ | refine st_not rfl ?_ | refine st_pick_t rfl rfl rfl ?_ | refine st_pick_f rfl rfl rfl ?_ | refine st_g rfl ?_ | refine a_gtf rfl ?_ | refine a_gft rfl ?_ | refine a_gu rfl ?_ | refine a_mklist (ec rfl en) (mz mkn) ?_ | refine a_mid ?_)
      first | refine a_endq (by repeat (first | exact pr_nil | (apply pr_cons; rfl))) ?_ | refine a_end (by repeat (first | exact pr_nil | (apply pr_cons; rfl))) ?_
      have s5 := Sep.set (A := []) (s4.new (.cells (itC ⟨0, 0, 0, 0, 0, 0, 0⟩ .nilptr))) (.cells (itC y (itP I.bid y)))
      change SC _ _ _ _ _ [(0, HV.ptr I.w 0), (2, ii (a : Int)), (11, .ptr h4.length 0), (54, .list (l.map (eIt I.bid)) tok), (55, ii (l.map (eIt I.bid)).length), (56, ii (k : Int))] ((h4 ++ [HObj.cells (itC ⟨0, 0, 0, 0, 0, 0, 0⟩ .nilptr)]).set h4.length (.cells (itC y (itP I.bid y))))
      generalize h4.length = v at s5 ⊢
      generalize (h4 ++ [HObj.cells (itC ⟨0, 0, 0, 0, 0, 0, 0⟩ .nilptr)]).set v (.cells (itC y (itP I.bid y))) = h5 at s5 ⊢
      simp only [List.nil_append] at s5
      have gv : h5[v]? = some (.cells (itC y (itP I.bid y))) := s5.get (by simp)
      refine s_reg ?_
      repeat (first | refine a_op (fun _ => rfl) ?_ | refine a_load rfl (by assumption) rfl ?_ | refine a_load_at rfl (by assumption) (by assumption) ?_ | refine a_iaddr_at rfl rfl (by assumption) ?_ | refine a_iaddr_l rfl rfl (by assumption) rfl ?_ | refine st_load_r rfl rfl ?_ | refine a_cmp rfl rfl rfl ?_ | refine a_eqi rfl rfl ?_ | refine st_not rfl ?_ | refine st_pick_t rfl rfl rfl ?_ | refine st_pick_f rfl rfl rfl ?_ | refine st_g rfl ?_ | refine a_gtf rfl ?_ | refine a_gft rfl ?_ | refine a_gu rfl ?_ | refine a_mklist (ec rfl en) (mz mkn) ?_ | refine a_mid ?_)
      refine a_callE (ws := [.ptr I.w 0, ii (a : Int), eIt I.bid y]) (ec rfl (ec rfl (ec rfl en))) (by show [HV.ptr I.w 0, ii (a : Int), (HV.agg (itC y (itP I.bid y))).strip1] = _; rw [hpx]) (r69 ok2 (by omega) ha hyo (s5.sub (List.sublist_cons_self _ _)) (fun h6 t3 ok3 hab3 s6 => ?_))
      repeat (first | refine a_op (fun _ => rfl) ?_ | refine a_load rfl (by assumption) rfl ?_ | refine a_load_at rfl (by assumption) (by assumption) ?_ | refine a_iaddr_at rfl rfl (by assumption) ?_ | refine a_iaddr_l rfl rfl (by assumption) rfl ?_ | refine st_load_r rfl rfl ?_ | refine a_cmp rfl rfl rfl ?_ | refine a_eqi rfl rfl ?_ | refine st_not rfl ?_ | refine st_pick_t rfl rfl rfl ?_ | refine st_pick_f rfl rfl rfl ?_ | refine st_g rfl ?_ | refine a_gtf rfl ?_ | refine a_gft rfl ?_ | refine a_gu rfl ?_ | refine a_mklist (ec rfl en) (mz mkn) ?_ | refine a_mid ?_)
      first | refine a_endq (by repeat (first | exact pr_nil | (apply pr_cons; rfl))) ?_ | refine a_end (by repeat (first | exact pr_nil | (apply pr_cons; rfl))) ?_
      refine s_reg ?_
      repeat (first | refine a_op (fun _ => rfl) ?_ | refine a_load rfl (by assumption) rfl ?_ | refine a_load_at rfl (by assumption) (by assumption) ?_ | refine a_iaddr_at rfl rfl (by assumption) ?_ | refine a_iaddr_l rfl rfl (by assumption) rfl ?_ | refine st_load_r rfl rfl ?_ | refine a_cmp rfl rfl rfl ?_ | refine a_eqi rfl rfl ?_ | refine st_not rfl ?_ | refine st_pick_t rfl rfl rfl ?_ | refine st_pick_f rfl rfl rfl ?_ | refine st_g rfl ?_ | refine a_gtf rfl ?_ | refine a_gft rfl ?_ | refine a_gu rfl ?_ | refine a_mklist (ec rfl en) (mz mkn) ?_ | refine a_mid ?_)
      refine a_add rfl rfl (by first | omega | (dsimp only; omega)) ?_
      repeat (first | refine a_op (fun _ => rfl) ?_ | refine a_load rfl (by assumption) rfl ?_ | refine a_load_at rfl (by assumption) (by assumption) ?_ | refine a_iaddr_at rfl rfl (by assumption) ?_ | refine a_iaddr_l rfl rfl (by assumption) rfl ?_ | refine st_load_r rfl rfl ?_ | refine a_cmp rfl rfl rfl ?_ | refine a_eqi rfl rfl ?_ | refine st_not rfl ?_ | refine st_pick_t rfl rfl rfl ?_ | refine st_pick_f rfl rfl rfl ?_ | refine st_g rfl ?_ | refine a_gtf rfl ?_ | refine a_gft rfl ?_ | refine a_gu rfl ?_ | refine a_mklist (ec rfl en) (mz mkn) ?_ | refine a_mid ?_)
      first | refine a_endq (by repeat (first | exact pr_nil | (apply pr_cons; rfl))) ?_ | refine a_end (by repeat (first | exact pr_nil | (apply pr_cons; rfl))) ?_
      refine lo_n ⟨(k + 1, t3, h6), hkl, ok3.le (by omega), ?_, s6⟩ (by show l.length - (k + 1) < l.length - k; omega) (WeakF.refl _ _)
      show t3.abs = (l.take (k + 1)).foldl _ t1.abs
      rw [hab3, hab, List.take_add_one, hy, Option.toList_some, List.foldl_append]
      rfl
    · have hkl : ¬ k < l.length := by have := of_decide_eq_false hz; dsimp only at this; rw [List.length_map] at this; omega
      rw [List.take_of_length_le (by omega)] at hab
      refine sc_exit (sq_x (lo_x (bl_x (bl_n (x_ret _ rfl (kk h4 t2 (ok2.le (by omega)) hab s4))))))
  · rw [if_neg (by rw [hk]; decide), if_pos hk] at kk
    refine s_cond_f (by show some (HV.bool (if false = true then !(x.kind == 1) else x.kind == 1)) = some (HV.bool false); rw [hk]; rfl) (q_reg ?_)
    repeat (first | refine a_op (fun _ => rfl) ?_ | refine a_load rfl (by assumption) rfl ?_ | refine a_load_at rfl (by assumption) (by assumption) ?_ | refine a_iaddr_at rfl rfl (by assumption) ?_ | refine a_iaddr_l rfl rfl (by assumption) rfl ?_ | refine st_load_r rfl rfl ?_ | refine a_cmp rfl rfl rfl ?_ | refine a_eqi rfl rfl ?_ | refine st_not rfl ?_ | refine st_pick_t rfl rfl rfl ?_ | refine st_pick_f rfl rfl rfl ?_ | refine st_g rfl ?_ | refine a_gtf rfl ?_ | refine a_gft rfl ?_ | refine a_gu rfl ?_ | refine a_mklist (ec rfl en) (mz mkn) ?_ | refine a_mid ?_)
    first | refine a_endq (by repeat (first | exact pr_nil | (apply pr_cons; rfl))) ?_ | refine a_end (by repeat (first | exact pr_nil | (apply pr_cons; rfl))) ?_
    refine s_cond_t (by show some (HV.bool (if false = true then !(x.kind == 3) else x.kind == 3)) = some (HV.bool true); rw [hk]; rfl) (s_reg ?_)
    repeat (first | refine a_op (fun _ => rfl) ?_ | refine a_load rfl (by assumption) rfl ?_ | refine a_load_at rfl (by assumption) (by assumption) ?_ | refine a_iaddr_at rfl rfl (by assumption) ?_ | refine a_iaddr_l rfl rfl (by assumption) rfl ?_ | refine st_load_r rfl rfl ?_ | refine a_cmp rfl rfl rfl ?_ | refine a_eqi rfl rfl ?_ | refine st_not rfl ?_ | refine st_pick_t rfl rfl rfl ?_ | refine st_pick_f rfl rfl rfl ?_ | refine st_g rfl ?_ | refine a_gtf rfl ?_ | refine a_gft rfl ?_ | refine a_gu rfl ?_ | refine a_mklist (ec rfl en) (mz mkn) ?_ | refine a_mid ?_)
    refine a_callE (ws := [.ptr I.w 0, ii (a : Int), eIt I.bid x]) (ec rfl (ec rfl (ec rfl en))) (by show [HV.ptr I.w 0, ii (a : Int), (HV.agg (itC x p)).strip1] = _; rw [hpx]) (r84 ok (by omega) ha hwho hq (s1.sub ((List.sublist_cons_self _ _).append_left _)) (fun h2 t2 ok2 hab2 s2 => ?_))
    repeat (first | refine a_op (fun _ => rfl) ?_ | refine a_load rfl (by assumption) rfl ?_ | refine a_load_at rfl (by assumption) (by assumption) ?_ | refine a_iaddr_at rfl rfl (by assumption) ?_ | refine a_iaddr_l rfl rfl (by assumption) rfl ?_ | refine st_load_r rfl rfl ?_ | refine a_cmp rfl rfl rfl ?_ | refine a_eqi rfl rfl ?_ | refine st_not rfl ?_ | refine st_pick_t rfl rfl rfl ?_ | refine st_pick_f rfl rfl rfl ?_ | refine st_g rfl ?_ | refine a_gtf rfl ?_ | refine a_gft rfl ?_ | refine a_gu rfl ?_ | refine a_mklist (ec rfl en) (mz mkn) ?_ | refine a_mid ?_)
    first | refine a_endq (by repeat (first | exact pr_nil | (apply pr_cons; rfl))) ?_ | refine a_end (by repeat (first | exact pr_nil | (apply pr_cons; rfl))) ?_
    exact bl_n (x_ret _ rfl (kk h2 t2 (ok2.le (by omega)) hab2 s2))
end Go.Hw.VM

