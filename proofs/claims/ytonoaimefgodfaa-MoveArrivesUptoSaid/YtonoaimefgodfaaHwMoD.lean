import Derived.Test.YtonoaimefgodfaaHwMoC
set_option linter.unusedVariables false
set_option linter.unusedSimpArgs false
namespace Go.Hw.VM
open Go Go.Proofs

theorem itA (ids : Nat → Nat) (x : It) : (HV.agg (itC x (itP ids x))).strip1 = eIt ids x := itS ids x
section
variable {P : Program} {N m : Nat} {S D : CallP} {b : Nat} {r : List Op} {e e' : Env} {h h' : Heap} {Q : Env → Heap → Prop} {QQ : Ex → Env → Heap → Prop} {d : Nat} {x y z : X}
theorem a_callE {f : FuncId} {xs : List X} {vs ws : List HV} (hx : evs e xs = some vs) (ha : vs.map HV.strip1 = ws) (k : HCalls P f ws h fun v h' => HO (HCalls P) b r ((d, v) :: e) h' Q) : HO (HCalls P) b (⟨some d, .call f xs, none⟩ :: r) e h Q := by
  subst ha; exact a_call hx k
end
theorem fupd_map {A B : Type} (f : A → B) (g : Nat → A) (i : Nat) (v : A) : (fun w => f (fupd g i v w)) = fupd (fun w => f (g w)) i (f v) := by
  funext w
  unfold fupd
  split <;> rfl
theorem wadd_its {P : It → Prop} {G : GM Key (List It)} {k : Key} {y : It} (h : ∀ q ∈ G.es, ∀ x ∈ q.2.2, P x) (hy : P y) : ∀ q ∈ (wadd G k y).es, ∀ x ∈ q.2.2, P x := by
  intro q hq x hx
  unfold wadd at hq
  rcases put_mem hq with hq | hq
  · exact h q hq x hx
  · rw [hq] at hx
    rcases List.mem_append.1 hx with hx | hx
    · cases hg : G.get k with
      | none => rw [hg] at hx; simp at hx
      | some l =>
        rw [hg] at hx
        obtain ⟨n, hn⟩ := GM.get_mem hg
        exact h _ hn x hx
    · rw [List.mem_singleton.1 hx]; exact hy
theorem its_of {P : It → Prop} {g : GM Key (RW It)} : (∀ q ∈ g.es, ∀ x ∈ q.2.2.l, P x) ↔ ∀ q ∈ (gmap RW.l g).es, ∀ x ∈ q.2.2, P x := by
  constructor
  · intro h q hq x hx
    obtain ⟨p, hp, rfl⟩ := List.mem_map.1 hq
    exact h p hp x hx
  · intro h q hq x hx
    exact h (q.1, q.2.1, q.2.2.l) (List.mem_map.2 ⟨q, hq, rfl⟩) x hx
def restL (I : Ids) (t : Ct) : Lay := (I.nid, nodesO I t.waits) :: ((List.range I.K).flatMap (nodeL I t) ++ (List.range I.m).flatMap (bodyL I t))
theorem lay_way (I : Ids) (t : Ct) (R : Lay) : lay I t ++ R = (I.w, netO I) :: (I.mid, wayO I.bid t.g) :: (mlay t.g ++ (restL I t ++ R)) := by
  simp only [lay, restL, List.cons_append, List.append_assoc]
theorem r69 {h : Heap} {R : Lay} {I : Ids} {t : Ct} {B a : Nat} {x : It} (ok : t.ok I B) (hB : B ≤ 900000000) (ha : a < I.K) (hx : x.ok I) (hs : Sep h (lay I t ++ R)) {Q : HV → Heap → Prop}
    (kk : ∀ (h' : Heap) (t' : Ct), t'.ok I (B + 2) → t'.abs = letterF t.abs a x → Sep h' (lay I t' ++ R) → Q (.tuple []) h') : HCalls Try.prog 69 [.ptr I.w 0, ii (a : Int), eIt I.bid x] h Q := by
  refine sc_func2 (rs := []) Try.func69 rfl (by decide) (by kernel_rfl) (lb rfl) hk69 ?_
  show SC Try.prog Try.f69.ntmps _ hc69 _ [(0, .ptr I.w 0), (1, ii (a : Int)), (2, .agg (itC x (itP I.bid x)))] h
  unfold hc69
  have hpx := itA I.bid x
  have hpe : eIt I.bid x = .agg (itC x (itP I.bid x)) := rfl
  generalize itP I.bid x = p at hpx hpe ⊢
  refine q_reg (a_box rfl rfl rfl ?_)
  repeat (first | refine a_op (fun _ => rfl) ?_ | refine a_load rfl (by assumption) rfl ?_ | refine a_load_at rfl (by assumption) (by assumption) ?_ | refine a_iaddr_at rfl rfl (by assumption) ?_ | refine a_iaddr_l rfl rfl (by assumption) rfl ?_ | refine st_load_r rfl rfl ?_ | refine a_cmp rfl rfl rfl ?_ | refine a_eqi rfl rfl ?_ | refine st_not rfl ?_ | refine st_pick_t rfl rfl rfl ?_ | refine st_pick_f rfl rfl rfl ?_ | refine st_g rfl ?_ | refine a_gtf rfl ?_ | refine a_gft rfl ?_ | refine a_gu rfl ?_ | refine a_mklist (ec rfl en) (mz mkn) ?_ | refine a_mid ?_)
  first | refine a_endq (by repeat (first | exact pr_nil | (apply pr_cons; rfl))) ?_ | refine a_end (by repeat (first | exact pr_nil | (apply pr_cons; rfl))) ?_
  have s1 := hs.new (.cells (itC x p))
  change SC _ _ _ _ _ [(0, HV.ptr I.w 0), (1, ii (a : Int)), (5, .ptr h.length 0)] (h ++ [HObj.cells (itC x p)])
  generalize h.length = d at s1 ⊢
  generalize h ++ [HObj.cells (itC x p)] = h1 at s1 ⊢
  clear hs h
  have s1 : Sep h1 (lay I t ++ ((d, .cells (itC x p)) :: R)) := s1.perm List.perm_middle.symm
  have gd : h1[d]? = some (.cells (itC x p)) := s1.get (by simp)
  have gw : h1[I.w]? = some (netO I) := s1.get (mem_w _)
  have gn : h1[I.nid]? = some (nodesO I t.waits) := s1.get (mem_n _)
  have gh : h1[I.hid a]? = some (hereO I (t.here a)) := s1.get (mem_node ha (by simp [nodeL]) _)
  have gs : h1[I.sid a]? = some (sureO I (t.sn a) (t.st a)) := s1.get (mem_node ha (by simp [nodeL]) _)
  have hwho := hx.who
  have hfrm := hx.frm
  refine q_reg ?_
  repeat (first | refine a_op (fun _ => rfl) ?_ | refine a_load rfl (by assumption) rfl ?_ | refine a_load_at rfl (by assumption) (by assumption) ?_ | refine a_iaddr_at rfl rfl (by assumption) ?_ | refine a_iaddr_l rfl rfl (by assumption) rfl ?_ | refine st_load_r rfl rfl ?_ | refine a_cmp rfl rfl rfl ?_ | refine a_eqi rfl rfl ?_ | refine st_not rfl ?_ | refine st_pick_t rfl rfl rfl ?_ | refine st_pick_f rfl rfl rfl ?_ | refine st_g rfl ?_ | refine a_gtf rfl ?_ | refine a_gft rfl ?_ | refine a_gu rfl ?_ | refine a_mklist (ec rfl en) (mz mkn) ?_ | refine a_mid ?_)
  refine a_iaddr_n rfl rfl ha ?_
  repeat (first | refine a_op (fun _ => rfl) ?_ | refine a_load rfl (by assumption) rfl ?_ | refine a_load_at rfl (by assumption) (by assumption) ?_ | refine a_iaddr_at rfl rfl (by assumption) ?_ | refine a_iaddr_l rfl rfl (by assumption) rfl ?_ | refine st_load_r rfl rfl ?_ | refine a_cmp rfl rfl rfl ?_ | refine a_eqi rfl rfl ?_ | refine st_not rfl ?_ | refine st_pick_t rfl rfl rfl ?_ | refine st_pick_f rfl rfl rfl ?_ | refine st_g rfl ?_ | refine a_gtf rfl ?_ | refine a_gft rfl ?_ | refine a_gu rfl ?_ | refine a_mklist (ec rfl en) (mz mkn) ?_ | refine a_mid ?_)
  first | refine a_endq (by repeat (first | exact pr_nil | (apply pr_cons; rfl))) ?_ | refine a_end (by repeat (first | exact pr_nil | (apply pr_cons; rfl))) ?_
  refine sc_seq (a_dreg0 Try.mixed ?_)
  repeat (first | refine a_op (fun _ => rfl) ?_ | refine a_load rfl (by assumption) rfl ?_ | refine a_load_at rfl (by assumption) (by assumption) ?_ | refine a_iaddr_at rfl rfl (by assumption) ?_ | refine a_iaddr_l rfl rfl (by assumption) rfl ?_ | refine st_load_r rfl rfl ?_ | refine a_cmp rfl rfl rfl ?_ | refine a_eqi rfl rfl ?_ | refine st_not rfl ?_ | refine st_pick_t rfl rfl rfl ?_ | refine st_pick_f rfl rfl rfl ?_ | refine st_g rfl ?_ | refine a_gtf rfl ?_ | refine a_gft rfl ?_ | refine a_gu rfl ?_ | refine a_mklist (ec rfl en) (mz mkn) ?_ | refine a_mid ?_)
  refine a_load_fm (i := a) (w := 4) (j := 0) rfl gn (nodeC_len I t.waits) ha (by decide) rfl ?_
  repeat (first | refine a_op (fun _ => rfl) ?_ | refine a_load rfl (by assumption) rfl ?_ | refine a_load_at rfl (by assumption) (by assumption) ?_ | refine a_iaddr_at rfl rfl (by assumption) ?_ | refine a_iaddr_l rfl rfl (by assumption) rfl ?_ | refine st_load_r rfl rfl ?_ | refine a_cmp rfl rfl rfl ?_ | refine a_eqi rfl rfl ?_ | refine st_not rfl ?_ | refine st_pick_t rfl rfl rfl ?_ | refine st_pick_f rfl rfl rfl ?_ | refine st_g rfl ?_ | refine a_gtf rfl ?_ | refine a_gft rfl ?_ | refine a_gu rfl ?_ | refine a_mklist (ec rfl en) (mz mkn) ?_ | refine a_mid ?_)
  by_cases hh : t.here a x.who = true
  · refine a_load_rg (F := hereC I.bid (t.here a)) (v := .ptr (I.bid x.who) 0) rfl gh hwho (by unfold hereC; rw [hh]; rfl) ?_
    repeat (first | refine a_op (fun _ => rfl) ?_ | refine a_load rfl (by assumption) rfl ?_ | refine a_load_at rfl (by assumption) (by assumption) ?_ | refine a_iaddr_at rfl rfl (by assumption) ?_ | refine a_iaddr_l rfl rfl (by assumption) rfl ?_ | refine st_load_r rfl rfl ?_ | refine a_cmp rfl rfl rfl ?_ | refine a_eqi rfl rfl ?_ | refine st_not rfl ?_ | refine st_pick_t rfl rfl rfl ?_ | refine st_pick_f rfl rfl rfl ?_ | refine st_g rfl ?_ | refine a_gtf rfl ?_ | refine a_gft rfl ?_ | refine a_gu rfl ?_ | refine a_mklist (ec rfl en) (mz mkn) ?_ | refine a_mid ?_)
    first | refine a_endq (by repeat (first | exact pr_nil | (apply pr_cons; rfl))) ?_ | refine a_end (by repeat (first | exact pr_nil | (apply pr_cons; rfl))) ?_
    refine q_reg ?_
    repeat (first | refine a_op (fun _ => rfl) ?_ | refine a_load rfl (by assumption) rfl ?_ | refine a_load_at rfl (by assumption) (by assumption) ?_ | refine a_iaddr_at rfl rfl (by assumption) ?_ | refine a_iaddr_l rfl rfl (by assumption) rfl ?_ | refine st_load_r rfl rfl ?_ | refine a_cmp rfl rfl rfl ?_ | refine a_eqi rfl rfl ?_ | refine st_not rfl ?_ | refine st_pick_t rfl rfl rfl ?_ | refine st_pick_f rfl rfl rfl ?_ | refine st_g rfl ?_ | refine a_gtf rfl ?_ | refine a_gft rfl ?_ | refine a_gu rfl ?_ | refine a_mklist (ec rfl en) (mz mkn) ?_ | refine a_mid ?_)
    refine a_eqp1 rfl rfl ?_
    repeat (first | refine a_op (fun _ => rfl) ?_ | refine a_load rfl (by assumption) rfl ?_ | refine a_load_at rfl (by assumption) (by assumption) ?_ | refine a_iaddr_at rfl rfl (by assumption) ?_ | refine a_iaddr_l rfl rfl (by assumption) rfl ?_ | refine st_load_r rfl rfl ?_ | refine a_cmp rfl rfl rfl ?_ | refine a_eqi rfl rfl ?_ | refine st_not rfl ?_ | refine st_pick_t rfl rfl rfl ?_ | refine st_pick_f rfl rfl rfl ?_ | refine st_g rfl ?_ | refine a_gtf rfl ?_ | refine a_gft rfl ?_ | refine a_gu rfl ?_ | refine a_mklist (ec rfl en) (mz mkn) ?_ | refine a_mid ?_)
    first | refine a_endq (by repeat (first | exact pr_nil | (apply pr_cons; rfl))) ?_ | refine a_end (by repeat (first | exact pr_nil | (apply pr_cons; rfl))) ?_
    refine s_cond_t rfl (q_reg ?_)
    repeat (first | refine a_op (fun _ => rfl) ?_ | refine a_load rfl (by assumption) rfl ?_ | refine a_load_at rfl (by assumption) (by assumption) ?_ | refine a_iaddr_at rfl rfl (by assumption) ?_ | refine a_iaddr_l rfl rfl (by assumption) rfl ?_ | refine st_load_r rfl rfl ?_ | refine a_cmp rfl rfl rfl ?_ | refine a_eqi rfl rfl ?_ | refine st_not rfl ?_ | refine st_pick_t rfl rfl rfl ?_ | refine st_pick_f rfl rfl rfl ?_ | refine st_g rfl ?_ | refine a_gtf rfl ?_ | refine a_gft rfl ?_ | refine a_gu rfl ?_ | refine a_mklist (ec rfl en) (mz mkn) ?_ | refine a_mid ?_)
    obtain ⟨M, pin, pout⟩ := body_at I t hwho ((d, .cells (itC x p)) :: R)
    refine a_callE (ws := [.ptr (body I t x.who).bid 0, .agg (itC x p)]) (ec rfl (ec rfl en)) (by show [HV.ptr (I.bid x.who) 0, (HV.agg (itC x p)).strip1] = _; rw [hpx, hpe]; rfl) (r83 (ok.bod x.who) (by omega) hfrm ok.hK hx.seq (s1.perm pin) (fun h2 b' i1 i2 i3 okb hab s2 => ?_))
    repeat (first | refine a_op (fun _ => rfl) ?_ | refine a_load rfl (by assumption) rfl ?_ | refine a_load_at rfl (by assumption) (by assumption) ?_ | refine a_iaddr_at rfl rfl (by assumption) ?_ | refine a_iaddr_l rfl rfl (by assumption) rfl ?_ | refine st_load_r rfl rfl ?_ | refine a_cmp rfl rfl rfl ?_ | refine a_eqi rfl rfl ?_ | refine st_not rfl ?_ | refine st_pick_t rfl rfl rfl ?_ | refine st_pick_f rfl rfl rfl ?_ | refine st_g rfl ?_ | refine a_gtf rfl ?_ | refine a_gft rfl ?_ | refine a_gu rfl ?_ | refine a_mklist (ec rfl en) (mz mkn) ?_ | refine a_mid ?_)
    first | refine a_endq (by repeat (first | exact pr_nil | (apply pr_cons; rfl))) ?_ | refine a_end (by repeat (first | exact pr_nil | (apply pr_cons; rfl))) ?_
    refine sc_ret (sq_r (x_ret _ rfl (kk h2 _ ?_ ?_ ((s2.perm (pout b' i1 i2 i3).symm).sub ((List.sublist_cons_self _ _).append_left _)))))
    · refine ⟨fun w => ?_, ok.g.le (by omega), fun i => ⟨(ok.waits i).1, by have := (ok.waits i).2; show (t.waits i).l.length ≤ _; omega⟩, ok.itg, ok.itw, ok.hK, ok.hm⟩
      by_cases hw : w = x.who
      · subst hw
        have : body I { t with got := fupd t.got x.who b'.got, next := fupd t.next x.who b'.next, early := fupd t.early x.who b'.early } x.who = b' := by
          obtain ⟨q1, q2, q3, q4, q5, q6⟩ := b'
          simp only [body, fupd_eq]
          simp only [body] at i1 i2 i3
          rw [i1, i2, i3]
        rw [this]
        exact okb.le (by omega)
      · have : body I { t with got := fupd t.got x.who b'.got, next := fupd t.next x.who b'.next, early := fupd t.early x.who b'.early } w = body I t w := by
          simp only [body, fupd_ne hw]
        rw [this]
        exact (ok.bod w).le (by omega)
    · unfold letterF
      rw [if_pos (show t.abs.here a x.who = true from hh)]
      unfold setB
      have hb2 : takeF ⟨t.abs.got x.who, t.abs.next x.who, t.abs.early x.who⟩ x = b'.abs := hab.symm
      rw [hb2]
      simp only [Ct.abs, fupd_map, PB.abs]
  · have hh : t.here a x.who = false := by simpa using hh
    refine a_load_rg (F := hereC I.bid (t.here a)) (v := .nilptr) rfl gh hwho (by unfold hereC; rw [hh]; rfl) ?_
    repeat (first | refine a_op (fun _ => rfl) ?_ | refine a_load rfl (by assumption) rfl ?_ | refine a_load_at rfl (by assumption) (by assumption) ?_ | refine a_iaddr_at rfl rfl (by assumption) ?_ | refine a_iaddr_l rfl rfl (by assumption) rfl ?_ | refine st_load_r rfl rfl ?_ | refine a_cmp rfl rfl rfl ?_ | refine a_eqi rfl rfl ?_ | refine st_not rfl ?_ | refine st_pick_t rfl rfl rfl ?_ | refine st_pick_f rfl rfl rfl ?_ | refine st_g rfl ?_ | refine a_gtf rfl ?_ | refine a_gft rfl ?_ | refine a_gu rfl ?_ | refine a_mklist (ec rfl en) (mz mkn) ?_ | refine a_mid ?_)
    first | refine a_endq (by repeat (first | exact pr_nil | (apply pr_cons; rfl))) ?_ | refine a_end (by repeat (first | exact pr_nil | (apply pr_cons; rfl))) ?_
    refine q_reg ?_
    repeat (first | refine a_op (fun _ => rfl) ?_ | refine a_load rfl (by assumption) rfl ?_ | refine a_load_at rfl (by assumption) (by assumption) ?_ | refine a_iaddr_at rfl rfl (by assumption) ?_ | refine a_iaddr_l rfl rfl (by assumption) rfl ?_ | refine st_load_r rfl rfl ?_ | refine a_cmp rfl rfl rfl ?_ | refine a_eqi rfl rfl ?_ | refine st_not rfl ?_ | refine st_pick_t rfl rfl rfl ?_ | refine st_pick_f rfl rfl rfl ?_ | refine st_g rfl ?_ | refine a_gtf rfl ?_ | refine a_gft rfl ?_ | refine a_gu rfl ?_ | refine a_mklist (ec rfl en) (mz mkn) ?_ | refine a_mid ?_)
    refine a_eqp0 rfl rfl ?_
    repeat (first | refine a_op (fun _ => rfl) ?_ | refine a_load rfl (by assumption) rfl ?_ | refine a_load_at rfl (by assumption) (by assumption) ?_ | refine a_iaddr_at rfl rfl (by assumption) ?_ | refine a_iaddr_l rfl rfl (by assumption) rfl ?_ | refine st_load_r rfl rfl ?_ | refine a_cmp rfl rfl rfl ?_ | refine a_eqi rfl rfl ?_ | refine st_not rfl ?_ | refine st_pick_t rfl rfl rfl ?_ | refine st_pick_f rfl rfl rfl ?_ | refine st_g rfl ?_ | refine a_gtf rfl ?_ | refine a_gft rfl ?_ | refine a_gu rfl ?_ | refine a_mklist (ec rfl en) (mz mkn) ?_ | refine a_mid ?_)
    first | refine a_endq (by repeat (first | exact pr_nil | (apply pr_cons; rfl))) ?_ | refine a_end (by repeat (first | exact pr_nil | (apply pr_cons; rfl))) ?_
    refine s_cond_f rfl (sc_skip (sq_n (sc_seq (a_dreg0 Try.mixed ?_))))
    repeat (first | refine a_op (fun _ => rfl) ?_ | refine a_load rfl (by assumption) rfl ?_ | refine a_load_at rfl (by assumption) (by assumption) ?_ | refine a_iaddr_at rfl rfl (by assumption) ?_ | refine a_iaddr_l rfl rfl (by assumption) rfl ?_ | refine st_load_r rfl rfl ?_ | refine a_cmp rfl rfl rfl ?_ | refine a_eqi rfl rfl ?_ | refine st_not rfl ?_ | refine st_pick_t rfl rfl rfl ?_ | refine st_pick_f rfl rfl rfl ?_ | refine st_g rfl ?_ | refine a_gtf rfl ?_ | refine a_gft rfl ?_ | refine a_gu rfl ?_ | refine a_mklist (ec rfl en) (mz mkn) ?_ | refine a_mid ?_)
    refine a_load_fm (i := a) (w := 4) (j := 1) rfl gn (nodeC_len I t.waits) ha (by decide) rfl ?_
    repeat (first | refine a_op (fun _ => rfl) ?_ | refine a_load rfl (by assumption) rfl ?_ | refine a_load_at rfl (by assumption) (by assumption) ?_ | refine a_iaddr_at rfl rfl (by assumption) ?_ | refine a_iaddr_l rfl rfl (by assumption) rfl ?_ | refine st_load_r rfl rfl ?_ | refine a_cmp rfl rfl rfl ?_ | refine a_eqi rfl rfl ?_ | refine st_not rfl ?_ | refine st_pick_t rfl rfl rfl ?_ | refine st_pick_f rfl rfl rfl ?_ | refine st_g rfl ?_ | refine a_gtf rfl ?_ | refine a_gft rfl ?_ | refine a_gu rfl ?_ | refine a_mklist (ec rfl en) (mz mkn) ?_ | refine a_mid ?_)
    refine a_iaddr_n rfl rfl hwho ?_
    repeat (first | refine a_op (fun _ => rfl) ?_ | refine a_load rfl (by assumption) rfl ?_ | refine a_load_at rfl (by assumption) (by assumption) ?_ | refine a_iaddr_at rfl rfl (by assumption) ?_ | refine a_iaddr_l rfl rfl (by assumption) rfl ?_ | refine st_load_r rfl rfl ?_ | refine a_cmp rfl rfl rfl ?_ | refine a_eqi rfl rfl ?_ | refine st_not rfl ?_ | refine st_pick_t rfl rfl rfl ?_ | refine st_pick_f rfl rfl rfl ?_ | refine st_g rfl ?_ | refine a_gtf rfl ?_ | refine a_gft rfl ?_ | refine a_gu rfl ?_ | refine a_mklist (ec rfl en) (mz mkn) ?_ | refine a_mid ?_)
    refine a_load_fm (i := x.who) (w := 2) (j := 0) rfl gs (sureC_len _ _) hwho (by decide) rfl ?_
    repeat (first | refine a_op (fun _ => rfl) ?_ | refine a_load rfl (by assumption) rfl ?_ | refine a_load_at rfl (by assumption) (by assumption) ?_ | refine a_iaddr_at rfl rfl (by assumption) ?_ | refine a_iaddr_l rfl rfl (by assumption) rfl ?_ | refine st_load_r rfl rfl ?_ | refine a_cmp rfl rfl rfl ?_ | refine a_eqi rfl rfl ?_ | refine st_not rfl ?_ | refine st_pick_t rfl rfl rfl ?_ | refine st_pick_f rfl rfl rfl ?_ | refine st_g rfl ?_ | refine a_gtf rfl ?_ | refine a_gft rfl ?_ | refine a_gu rfl ?_ | refine a_mklist (ec rfl en) (mz mkn) ?_ | refine a_mid ?_)
    first | refine a_endq (by repeat (first | exact pr_nil | (apply pr_cons; rfl))) ?_ | refine a_end (by repeat (first | exact pr_nil | (apply pr_cons; rfl))) ?_
    have eF : letterF t.abs a x = if t.sn a x.who = a then waitF t.abs a x else forwF t.abs a x := by
      unfold letterF
      rw [if_neg (show ¬ t.abs.here a x.who = true by show ¬ t.here a x.who = true; rw [hh]; decide)]
      rfl
    rw [eF] at kk
    clear eF
    have e1 : (if false = true then !((t.sn a x.who : Int) == (a : Int)) else (t.sn a x.who : Int) == (a : Int)) = decide (t.sn a x.who = a) := by
      rw [if_neg (by decide)]
      by_cases h : t.sn a x.who = a
      · rw [h]; simp
      · rw [nat_ne h]; simp [h]
    simp only [e1]
    clear e1
    refine sc_cond (t := decide (t.sn a x.who = a)) rfl (fun hsn => ?_) (fun hsn => ?_)
    · have hsn : t.sn a x.who = a := of_decide_eq_true hsn
      rw [if_pos hsn] at kk
      refine a_dreg0 Try.mixed ?_
      repeat (first | refine a_op (fun _ => rfl) ?_ | refine a_load rfl (by assumption) rfl ?_ | refine a_load_at rfl (by assumption) (by assumption) ?_ | refine a_iaddr_at rfl rfl (by assumption) ?_ | refine a_iaddr_l rfl rfl (by assumption) rfl ?_ | refine st_load_r rfl rfl ?_ | refine a_cmp rfl rfl rfl ?_ | refine a_eqi rfl rfl ?_ | refine st_not rfl ?_ | refine st_pick_t rfl rfl rfl ?_ | refine st_pick_f rfl rfl rfl ?_ | refine st_g rfl ?_ | refine a_gtf rfl ?_ | refine a_gft rfl ?_ | refine a_gu rfl ?_ | refine a_mklist (ec rfl en) (mz mkn) ?_ | refine a_mid ?_)
      refine a_load_fm (i := a) (w := 4) (j := 3) rfl gn (nodeC_len I t.waits) ha (by decide) rfl ?_
      repeat (first | refine a_op (fun _ => rfl) ?_ | refine a_load rfl (by assumption) rfl ?_ | refine a_load_at rfl (by assumption) (by assumption) ?_ | refine a_iaddr_at rfl rfl (by assumption) ?_ | refine a_iaddr_l rfl rfl (by assumption) rfl ?_ | refine st_load_r rfl rfl ?_ | refine a_cmp rfl rfl rfl ?_ | refine a_eqi rfl rfl ?_ | refine st_not rfl ?_ | refine st_pick_t rfl rfl rfl ?_ | refine st_pick_f rfl rfl rfl ?_ | refine st_g rfl ?_ | refine a_gtf rfl ?_ | refine a_gft rfl ?_ | refine a_gu rfl ?_ | refine a_mklist (ec rfl en) (mz mkn) ?_ | refine a_mid ?_)
      obtain ⟨M, pin, pM, pout⟩ := wait_at I t ha ((d, .cells (itC x p)) :: R)
      obtain ⟨w1, w2⟩ := ok.waits a
      refine a_app (f := eIt I.bid) (rw_ := t.waits a) (ys := [x]) (L := [(I.nid, nodesO I t.waits)]) (R := M) (encw_it I.bid) rfl (by show some (HV.list [(HV.agg (itC x p)).strip1] Tok.full) = some (HV.list [eIt I.bid x] Tok.full); rw [hpx]) w1 (s1.perm pin) (by simp; omega) (fun r' h2 hl' hr' s2 => ?_)
      have gn2 : h2[I.nid]? = some (nodesO I t.waits) := s2.get (by simp)
      repeat (first | refine a_op (fun _ => rfl) ?_ | refine a_load rfl (by assumption) rfl ?_ | refine a_load_at rfl (by assumption) (by assumption) ?_ | refine a_iaddr_at rfl rfl (by assumption) ?_ | refine a_iaddr_l rfl rfl (by assumption) rfl ?_ | refine st_load_r rfl rfl ?_ | refine a_cmp rfl rfl rfl ?_ | refine a_eqi rfl rfl ?_ | refine st_not rfl ?_ | refine st_pick_t rfl rfl rfl ?_ | refine st_pick_f rfl rfl rfl ?_ | refine st_g rfl ?_ | refine a_gtf rfl ?_ | refine a_gft rfl ?_ | refine a_gu rfl ?_ | refine a_mklist (ec rfl en) (mz mkn) ?_ | refine a_mid ?_)
      refine a_store_fm (i := a) (w := 4) (j := 3) (F := nodeC I t.waits) rfl rfl gn2 (nodeC_len I t.waits) ha (by rfl) (by decide) rfl ?_
      repeat (first | refine a_op (fun _ => rfl) ?_ | refine a_load rfl (by assumption) rfl ?_ | refine a_load_at rfl (by assumption) (by assumption) ?_ | refine a_iaddr_at rfl rfl (by assumption) ?_ | refine a_iaddr_l rfl rfl (by assumption) rfl ?_ | refine st_load_r rfl rfl ?_ | refine a_cmp rfl rfl rfl ?_ | refine a_eqi rfl rfl ?_ | refine st_not rfl ?_ | refine st_pick_t rfl rfl rfl ?_ | refine st_pick_f rfl rfl rfl ?_ | refine st_g rfl ?_ | refine a_gtf rfl ?_ | refine a_gft rfl ?_ | refine a_gu rfl ?_ | refine a_mklist (ec rfl en) (mz mkn) ?_ | refine a_mid ?_)
      first | refine a_endq (by repeat (first | exact pr_nil | (apply pr_cons; rfl))) ?_ | refine a_end (by repeat (first | exact pr_nil | (apply pr_cons; rfl))) ?_
      have s3 := Sep.set (A := []) (B := r'.lay ++ M) s2 (nodesO I (fupd t.waits a r'))
      have e2 : putAt (nodeC I t.waits a) 3 (RW.hv (eIt I.bid) r').cells = putAt (nodeC I t.waits a) 3 [r'.hv (eIt I.bid)] := rfl
      simp only [e2, nodeC_upd]
      refine sc_ret (sq_r (x_ret _ rfl (kk _ { t with waits := fupd t.waits a r' } ?_ ?_ ((s3.perm (pout r').symm).sub ((List.sublist_cons_self _ _).append_left _)))))
      · refine ⟨fun w => (ok.bod w).le (by omega), ok.g.le (by omega), fun i => ?_, ok.itg, fun i y hy => ?_, ok.hK, ok.hm⟩
        · simp only [fupd]
          split
          · refine ⟨hr', ?_⟩
            rw [hl', List.length_append, List.length_singleton]
            omega
          · exact ⟨(ok.waits i).1, by have := (ok.waits i).2; omega⟩
        · simp only [fupd] at hy
          split at hy
          · rw [hl'] at hy
            rcases List.mem_append.1 hy with hy | hy
            · exact ok.itw a y hy
            · rw [List.mem_singleton.1 hy]; exact hx
          · exact ok.itw i y hy
      · unfold waitF
        simp only [Ct.abs, fupd_map, hl']
    · have hsn : ¬ t.sn a x.who = a := of_decide_eq_false hsn
      rw [if_neg hsn] at kk
      refine sc_skip (sq_n (sc_seq (q_reg ?_)))
      repeat (first | refine a_op (fun _ => rfl) ?_ | refine a_load rfl (by assumption) rfl ?_ | refine a_load_at rfl (by assumption) (by assumption) ?_ | refine a_iaddr_at rfl rfl (by assumption) ?_ | refine a_iaddr_l rfl rfl (by assumption) rfl ?_ | refine st_load_r rfl rfl ?_ | refine a_cmp rfl rfl rfl ?_ | refine a_eqi rfl rfl ?_ | refine st_not rfl ?_ | refine st_pick_t rfl rfl rfl ?_ | refine st_pick_f rfl rfl rfl ?_ | refine st_g rfl ?_ | refine a_gtf rfl ?_ | refine a_gft rfl ?_ | refine a_gu rfl ?_ | refine a_mklist (ec rfl en) (mz mkn) ?_ | refine a_mid ?_)
      first | refine a_endq (by repeat (first | exact pr_nil | (apply pr_cons; rfl))) ?_ | refine a_end (by repeat (first | exact pr_nil | (apply pr_cons; rfl))) ?_
      have e1 : (if true = true then !((x.frm : Int) == (a : Int)) else (x.frm : Int) == (a : Int)) = decide (x.frm ≠ a) := by
        rw [if_pos rfl]
        by_cases h : x.frm = a
        · rw [h]; simp
        · rw [nat_ne h]; simp [h]
      rw [e1]
      clear e1
      have last : ∀ (h2 : Heap) (g2 : GM Key (RW It)), GOk (B + 1) g2 → (∀ q ∈ g2.es, ∀ y ∈ q.2.2.l, y.ok I) → gmap RW.l g2 = (if x.frm ≠ a then wadd t.abs.ways ((a : Int), (x.frm : Int)) (noteF t.abs a x) else t.abs.ways) →
          Sep h2 (lay I { t with g := g2 } ++ ((d, .cells (itC x p)) :: R)) →
          SC Try.prog Try.f69.ntmps d (.dreg [mo 78 0, mo 79 1, mo 80 6, oo 81 (.nilck 80), oo 82 (.faddr 1 1 81), oo 83 (.load none 82), oo 84 (.faddr 1 1 5), oo 85 (.load none 84), oo 86 (.iaddr 2 83 85), oo 87 (.faddr 0 1 86), oo 88 (.load none 87), oo 89 (.load (some 8) 5)] [co 90 (.call 70 [78, 79, 88, 89])] 0 []) (RetS2 [] d Q)
            [(0, HV.ptr I.w 0), (1, ii (a : Int)), (5, .ptr d 0), (6, .ptr I.nid (a * 4))] h2 := by
        intro h2 g2 og hit hg s2
        have gd : h2[d]? = some (.cells (itC x p)) := s2.get (by simp)
        have gn : h2[I.nid]? = some (nodesO I t.waits) := s2.get (mem_n _)
        have gs : h2[I.sid a]? = some (sureO I (t.sn a) (t.st a)) := s2.get (mem_node (t := { t with g := g2 }) ha (by simp [nodeL]) _)
        refine a_dregl0 Try.mixed ?_
        repeat (first | refine a_op (fun _ => rfl) ?_ | refine a_load rfl (by assumption) rfl ?_ | refine a_load_at rfl (by assumption) (by assumption) ?_ | refine a_iaddr_at rfl rfl (by assumption) ?_ | refine a_iaddr_l rfl rfl (by assumption) rfl ?_ | refine st_load_r rfl rfl ?_ | refine a_cmp rfl rfl rfl ?_ | refine a_eqi rfl rfl ?_ | refine st_not rfl ?_ | refine st_pick_t rfl rfl rfl ?_ | refine st_pick_f rfl rfl rfl ?_ | refine st_g rfl ?_ | refine a_gtf rfl ?_ | refine a_gft rfl ?_ | refine a_gu rfl ?_ | refine a_mklist (ec rfl en) (mz mkn) ?_ | refine a_mid ?_)
        refine a_load_fm (i := a) (w := 4) (j := 1) rfl gn (nodeC_len I t.waits) ha (by decide) rfl ?_
        repeat (first | refine a_op (fun _ => rfl) ?_ | refine a_load rfl (by assumption) rfl ?_ | refine a_load_at rfl (by assumption) (by assumption) ?_ | refine a_iaddr_at rfl rfl (by assumption) ?_ | refine a_iaddr_l rfl rfl (by assumption) rfl ?_ | refine st_load_r rfl rfl ?_ | refine a_cmp rfl rfl rfl ?_ | refine a_eqi rfl rfl ?_ | refine st_not rfl ?_ | refine st_pick_t rfl rfl rfl ?_ | refine st_pick_f rfl rfl rfl ?_ | refine st_g rfl ?_ | refine a_gtf rfl ?_ | refine a_gft rfl ?_ | refine a_gu rfl ?_ | refine a_mklist (ec rfl en) (mz mkn) ?_ | refine a_mid ?_)
        refine a_iaddr_n rfl rfl hwho ?_
        repeat (first | refine a_op (fun _ => rfl) ?_ | refine a_load rfl (by assumption) rfl ?_ | refine a_load_at rfl (by assumption) (by assumption) ?_ | refine a_iaddr_at rfl rfl (by assumption) ?_ | refine a_iaddr_l rfl rfl (by assumption) rfl ?_ | refine st_load_r rfl rfl ?_ | refine a_cmp rfl rfl rfl ?_ | refine a_eqi rfl rfl ?_ | refine st_not rfl ?_ | refine st_pick_t rfl rfl rfl ?_ | refine st_pick_f rfl rfl rfl ?_ | refine st_g rfl ?_ | refine a_gtf rfl ?_ | refine a_gft rfl ?_ | refine a_gu rfl ?_ | refine a_mklist (ec rfl en) (mz mkn) ?_ | refine a_mid ?_)
        refine a_load_fm (i := x.who) (w := 2) (j := 0) rfl gs (sureC_len _ _) hwho (by decide) rfl ?_
        repeat (first | refine a_op (fun _ => rfl) ?_ | refine a_load rfl (by assumption) rfl ?_ | refine a_load_at rfl (by assumption) (by assumption) ?_ | refine a_iaddr_at rfl rfl (by assumption) ?_ | refine a_iaddr_l rfl rfl (by assumption) rfl ?_ | refine st_load_r rfl rfl ?_ | refine a_cmp rfl rfl rfl ?_ | refine a_eqi rfl rfl ?_ | refine st_not rfl ?_ | refine st_pick_t rfl rfl rfl ?_ | refine st_pick_f rfl rfl rfl ?_ | refine st_g rfl ?_ | refine a_gtf rfl ?_ | refine a_gft rfl ?_ | refine a_gu rfl ?_ | refine a_mklist (ec rfl en) (mz mkn) ?_ | refine a_mid ?_)
        rw [lay_way] at s2
        refine a_callE (ws := [.ptr I.w 0, ii (a : Int), ii (t.sn a x.who : Int), eIt I.bid x]) (ec rfl (ec rfl (ec rfl (ec rfl en)))) (by show [HV.ptr I.w 0, ii (a : Int), ii (t.sn a x.who : Int), (HV.agg (itC x p)).strip1] = _; rw [hpx]) (r70 og (by omega) (fun e => hsn e.symm) s2 (fun h3 g3 og3 hg3 s3 => ?_))
        repeat (first | refine a_op (fun _ => rfl) ?_ | refine a_load rfl (by assumption) rfl ?_ | refine a_load_at rfl (by assumption) (by assumption) ?_ | refine a_iaddr_at rfl rfl (by assumption) ?_ | refine a_iaddr_l rfl rfl (by assumption) rfl ?_ | refine st_load_r rfl rfl ?_ | refine a_cmp rfl rfl rfl ?_ | refine a_eqi rfl rfl ?_ | refine st_not rfl ?_ | refine st_pick_t rfl rfl rfl ?_ | refine st_pick_f rfl rfl rfl ?_ | refine st_g rfl ?_ | refine a_gtf rfl ?_ | refine a_gft rfl ?_ | refine a_gu rfl ?_ | refine a_mklist (ec rfl en) (mz mkn) ?_ | refine a_mid ?_)
        first | refine a_endq (by repeat (first | exact pr_nil | (apply pr_cons; rfl))) ?_ | refine a_end (by repeat (first | exact pr_nil | (apply pr_cons; rfl))) ?_
        refine x_ret _ rfl (kk h3 { t with g := g3 } ?_ ?_ ?_)
        · refine ⟨fun w => (ok.bod w).le (by omega), og3.le (by omega), fun i => ⟨(ok.waits i).1, by have := (ok.waits i).2; show (t.waits i).l.length ≤ _; omega⟩, ?_, ok.itw, ok.hK, ok.hm⟩
          refine its_of.2 ?_
          rw [hg3]
          exact wadd_its (its_of.1 hit) hx
        · unfold forwF
          simp only [Ct.abs, hg3]
          rw [hg]
          rfl
        · have : Sep h3 (lay I { t with g := g3 } ++ ((d, .cells (itC x p)) :: R)) := by rw [lay_way]; exact s3
          exact this.sub ((List.sublist_cons_self _ _).append_left _)
      refine sc_cond (t := decide (x.frm ≠ a)) rfl (fun hfa => ?_) (fun hfa => ?_)
      · have hfa : x.frm ≠ a := of_decide_eq_true hfa
        refine a_dregl0 Try.mixed ?_
        repeat (first | refine a_op (fun _ => rfl) ?_ | refine a_load rfl (by assumption) rfl ?_ | refine a_load_at rfl (by assumption) (by assumption) ?_ | refine a_iaddr_at rfl rfl (by assumption) ?_ | refine a_iaddr_l rfl rfl (by assumption) rfl ?_ | refine st_load_r rfl rfl ?_ | refine a_cmp rfl rfl rfl ?_ | refine a_eqi rfl rfl ?_ | refine st_not rfl ?_ | refine st_pick_t rfl rfl rfl ?_ | refine st_pick_f rfl rfl rfl ?_ | refine st_g rfl ?_ | refine a_gtf rfl ?_ | refine a_gft rfl ?_ | refine a_gu rfl ?_ | refine a_mklist (ec rfl en) (mz mkn) ?_ | refine a_mid ?_)
        refine a_load_fm (i := a) (w := 4) (j := 1) rfl gn (nodeC_len I t.waits) ha (by decide) rfl ?_
        repeat (first | refine a_op (fun _ => rfl) ?_ | refine a_load rfl (by assumption) rfl ?_ | refine a_load_at rfl (by assumption) (by assumption) ?_ | refine a_iaddr_at rfl rfl (by assumption) ?_ | refine a_iaddr_l rfl rfl (by assumption) rfl ?_ | refine st_load_r rfl rfl ?_ | refine a_cmp rfl rfl rfl ?_ | refine a_eqi rfl rfl ?_ | refine st_not rfl ?_ | refine st_pick_t rfl rfl rfl ?_ | refine st_pick_f rfl rfl rfl ?_ | refine st_g rfl ?_ | refine a_gtf rfl ?_ | refine a_gft rfl ?_ | refine a_gu rfl ?_ | refine a_mklist (ec rfl en) (mz mkn) ?_ | refine a_mid ?_)
        refine a_iaddr_n rfl rfl hwho ?_
        repeat (first | refine a_op (fun _ => rfl) ?_ | refine a_load rfl (by assumption) rfl ?_ | refine a_load_at rfl (by assumption) (by assumption) ?_ | refine a_iaddr_at rfl rfl (by assumption) ?_ | refine a_iaddr_l rfl rfl (by assumption) rfl ?_ | refine st_load_r rfl rfl ?_ | refine a_cmp rfl rfl rfl ?_ | refine a_eqi rfl rfl ?_ | refine st_not rfl ?_ | refine st_pick_t rfl rfl rfl ?_ | refine st_pick_f rfl rfl rfl ?_ | refine st_g rfl ?_ | refine a_gtf rfl ?_ | refine a_gft rfl ?_ | refine a_gu rfl ?_ | refine a_mklist (ec rfl en) (mz mkn) ?_ | refine a_mid ?_)
        refine a_load_fm (i := x.who) (w := 2) (j := 0) rfl gs (sureC_len _ _) hwho (by decide) rfl ?_
        repeat (first | refine a_op (fun _ => rfl) ?_ | refine a_load rfl (by assumption) rfl ?_ | refine a_load_at rfl (by assumption) (by assumption) ?_ | refine a_iaddr_at rfl rfl (by assumption) ?_ | refine a_iaddr_l rfl rfl (by assumption) rfl ?_ | refine st_load_r rfl rfl ?_ | refine a_cmp rfl rfl rfl ?_ | refine a_eqi rfl rfl ?_ | refine st_not rfl ?_ | refine st_pick_t rfl rfl rfl ?_ | refine st_pick_f rfl rfl rfl ?_ | refine st_g rfl ?_ | refine a_gtf rfl ?_ | refine a_gft rfl ?_ | refine a_gu rfl ?_ | refine a_mklist (ec rfl en) (mz mkn) ?_ | refine a_mid ?_)
        refine a_load_fm (i := a) (w := 4) (j := 1) rfl gn (nodeC_len I t.waits) ha (by decide) rfl ?_
        repeat (first | refine a_op (fun _ => rfl) ?_ | refine a_load rfl (by assumption) rfl ?_ | refine a_load_at rfl (by assumption) (by assumption) ?_ | refine a_iaddr_at rfl rfl (by assumption) ?_ | refine a_iaddr_l rfl rfl (by assumption) rfl ?_ | refine st_load_r rfl rfl ?_ | refine a_cmp rfl rfl rfl ?_ | refine a_eqi rfl rfl ?_ | refine st_not rfl ?_ | refine st_pick_t rfl rfl rfl ?_ | refine st_pick_f rfl rfl rfl ?_ | refine st_g rfl ?_ | refine a_gtf rfl ?_ | refine a_gft rfl ?_ | refine a_gu rfl ?_ | refine a_mklist (ec rfl en) (mz mkn) ?_ | refine a_mid ?_)
        refine a_iaddr_n rfl rfl hwho ?_
        repeat (first | refine a_op (fun _ => rfl) ?_ | refine a_load rfl (by assumption) rfl ?_ | refine a_load_at rfl (by assumption) (by assumption) ?_ | refine a_iaddr_at rfl rfl (by assumption) ?_ | refine a_iaddr_l rfl rfl (by assumption) rfl ?_ | refine st_load_r rfl rfl ?_ | refine a_cmp rfl rfl rfl ?_ | refine a_eqi rfl rfl ?_ | refine st_not rfl ?_ | refine st_pick_t rfl rfl rfl ?_ | refine st_pick_f rfl rfl rfl ?_ | refine st_g rfl ?_ | refine a_gtf rfl ?_ | refine a_gft rfl ?_ | refine a_gu rfl ?_ | refine a_mklist (ec rfl en) (mz mkn) ?_ | refine a_mid ?_)
        refine a_load_fm (i := x.who) (w := 2) (j := 1) rfl gs (sureC_len _ _) hwho (by decide) rfl ?_
        repeat (first | refine a_op (fun _ => rfl) ?_ | refine a_load rfl (by assumption) rfl ?_ | refine a_load_at rfl (by assumption) (by assumption) ?_ | refine a_iaddr_at rfl rfl (by assumption) ?_ | refine a_iaddr_l rfl rfl (by assumption) rfl ?_ | refine st_load_r rfl rfl ?_ | refine a_cmp rfl rfl rfl ?_ | refine a_eqi rfl rfl ?_ | refine st_not rfl ?_ | refine st_pick_t rfl rfl rfl ?_ | refine st_pick_f rfl rfl rfl ?_ | refine st_g rfl ?_ | refine a_gtf rfl ?_ | refine a_gft rfl ?_ | refine a_gu rfl ?_ | refine a_mklist (ec rfl en) (mz mkn) ?_ | refine a_mid ?_)
        rw [lay_way] at s1
        refine a_callE (ws := [.ptr I.w 0, ii (a : Int), ii (x.frm : Int), eIt I.bid (noteF t.abs a x)]) (ec rfl (ec rfl (ec rfl (ec rfl en)))) rfl (r70 (ok.g) (by omega) (fun e => hfa e.symm) s1 (fun h3 g3 og3 hg3 s3 => ?_))
        repeat (first | refine a_op (fun _ => rfl) ?_ | refine a_load rfl (by assumption) rfl ?_ | refine a_load_at rfl (by assumption) (by assumption) ?_ | refine a_iaddr_at rfl rfl (by assumption) ?_ | refine a_iaddr_l rfl rfl (by assumption) rfl ?_ | refine st_load_r rfl rfl ?_ | refine a_cmp rfl rfl rfl ?_ | refine a_eqi rfl rfl ?_ | refine st_not rfl ?_ | refine st_pick_t rfl rfl rfl ?_ | refine st_pick_f rfl rfl rfl ?_ | refine st_g rfl ?_ | refine a_gtf rfl ?_ | refine a_gft rfl ?_ | refine a_gu rfl ?_ | refine a_mklist (ec rfl en) (mz mkn) ?_ | refine a_mid ?_)
        first | refine a_endq (by repeat (first | exact pr_nil | (apply pr_cons; rfl))) ?_ | refine a_end (by repeat (first | exact pr_nil | (apply pr_cons; rfl))) ?_
        refine sq_n (last h3 g3 og3 ?_ ?_ ?_)
        · refine its_of.2 ?_
          rw [hg3]
          refine wadd_its (its_of.1 ok.itg) ⟨hwho, ?_, by show (0 : Nat) ≤ _; omega⟩
          show 0 < I.K
          omega
        · rw [if_pos hfa]; exact hg3
        · rw [lay_way]; exact s3
      · have hfa : ¬ x.frm ≠ a := of_decide_eq_false hfa
        refine sc_skip (sq_n (SC.weak ws (last h1 t.g (ok.g.le (by omega)) ok.itg (by rw [if_neg hfa]; rfl) s1)))
end Go.Hw.VM

