import Derived.Test.YtonoaimefgodfaaHwMoG
import Derived.Test.YtonoaimefgodfaaHwFrz
set_option linter.unusedVariables false
set_option linter.unusedSimpArgs false
namespace Go.Hw
open Go
section
variable {P : Program} {N m : Nat} {S D : CallP} {b : Nat} {r : List Op} {e e' : Env} {h h' : Heap} {Q : Env → Heap → Prop} {QQ : Ex → Env → Heap → Prop} {d : Nat} {x y z : X}
theorem a_pcm {acts : List FuncId} {f : FuncId} {xs : List X} {vs ws : List HV} {v : HV} (hm : acts.contains f = false) (hx : evs e xs = some vs) (hp : PCall P f ws v) (ha : vs.map HV.strip1 = ws) (k : HO (MCalls P acts) b r ((d, v) :: e) h Q) : HO (MCalls P acts) b (⟨some d, .call f xs, none⟩ :: r) e h Q := by
  refine ⟨?_⟩
  subst ha
  simp only [hops, hcall, hx, MCalls, hm, Bool.false_eq_true, if_false]
  exact ⟨v, hp, k.out⟩
theorem a_dord2 (hmix : P.follows .mixedOrders = true) {acts : List FuncId} {l1 l2 : List Op} {keep : List Nat} {q : C} (k1 : HO (MCalls P acts) h.length l1 e h (Fin (SeqS P N m q QQ) keep)) (k2 : HO (MCalls P acts) h.length l2 e h (Fin (SeqS P N m q QQ) keep)) : SC P N m (.seq (.dord acts [l1, l2] 0 keep) q) QQ e h := by
  refine sc_seq (sc_dord hmix fun l' hl => ?_)
  simp only [List.mem_cons, List.not_mem_nil, or_false] at hl
  simp only [List.replicate_zero, List.append_nil]
  rcases hl with rfl | rfl
  · exact k1.out
  · exact k2.out
end
end Go.Hw
namespace Go.Hw.VM
open Go Go.Proofs

theorem s73 (l : List GMove_Got) (hl : l.length ≤ 1000000000) : sp73 l l := by
  refine ok73 l _ ⟨fun h0 => ?_, by simp; omega, fun v hv => ?_⟩
  · exact (List.eq_nil_of_length_eq_zero h0).symm
  · simpa using hv
abbrev gotO (m : Nat) (G : Nat → List GMove_Got) : HObj := .cells ((List.range m).map fun w => ln eGMove_Got (G w))
abbrev atO (m : Nat) (A : Nat → Nat) : HObj := .cells ((List.range m).map fun w => ii (A w))
abbrev outO (m gid aid : Nat) (wy wt : Int) : HObj := .cells [.arr gid 0 m 1, .arr aid 0 m 1, ii wy, ii wt]
theorem r72 {h : Heap} {R : Lay} {K B m o gid aid w a : Nat} {wy wt : Int} {b : PB} {G : Nat → List GMove_Got} {A : Nat → Nat} (ok : b.ok B) (hB : B ≤ 1000000000) (hw : w < m) (hm : m ≤ 1000) (hwt : 0 ≤ wt ∧ wt ≤ 1000000000000000000) (hs : Sep h ((o, outO m gid aid wy wt) :: (gid, gotO m G) :: (aid, atO m A) :: (b.lay K ++ R))) {Q : HV → Heap → Prop}
    (kk : ∀ (h' : Heap), Sep h' ((o, outO m gid aid wy (wt + b.early.es.length)) :: (gid, gotO m (fupd G w b.got.l)) :: (aid, atO m (fupd A w a)) :: (b.lay K ++ R)) → Q (.tuple []) h') : HCalls Try.prog 72 [ii (w : Int), ii (a : Int), .ptr b.bid 0, .ptr o 0] h Q := by
  refine sc_func2 (rs := []) Try.func72 rfl (by decide) (by kernel_rfl) (lb rfl) hk72 ?_
  show SC Try.prog Try.f72.ntmps _ hc72 _ [(0, ii (w : Int)), (1, ii (a : Int)), (2, .ptr b.bid 0), (3, .ptr o 0)] h
  unfold hc72
  have hlen := ok.len
  have go : h[o]? = some (outO m gid aid wy wt) := hs.get (by simp)
  have gb : h[b.bid]? = some (b.obj K) := hs.get (by simp [PB.lay])
  have gg : h[gid]? = some (gotO m G) := hs.get (by simp)
  have ga : h[aid]? = some (atO m A) := hs.get (by simp)
  have e1 : (List.range m).map (fupd (fun w => ln eGMove_Got (G w)) w (ln eGMove_Got b.got.l)) = (List.range m).map fun x => ln eGMove_Got ((fupd G w b.got.l) x) := by
    rw [show (fun x => ln eGMove_Got ((fupd G w b.got.l) x)) = fupd (fun w => ln eGMove_Got (G w)) w (ln eGMove_Got b.got.l) from fupd_map (ln eGMove_Got) G w b.got.l]
  have e2 : (List.range m).map (fupd (fun w => ii (A w : Int)) w (ii (a : Int))) = (List.range m).map fun x => ii ((fupd A w a) x : Int) := by
    rw [show (fun x => ii ((fupd A w a) x : Int)) = fupd (fun w => ii (A w : Int)) w (ii (a : Int)) from fupd_map (fun n : Nat => ii (n : Int)) A w a]
  have s2 : Sep (h.set gid (gotO m (fupd G w b.got.l))) ((o, outO m gid aid wy wt) :: (gid, gotO m (fupd G w b.got.l)) :: (aid, atO m A) :: (b.lay K ++ R)) := Sep.set (A := [(o, outO m gid aid wy wt)]) hs _
  have fin : ∀ h3, Sep h3 ((o, outO m gid aid wy wt) :: (gid, gotO m (fupd G w b.got.l)) :: (aid, atO m (fupd A w a)) :: (b.lay K ++ R)) →
      SC Try.prog Try.f72.ntmps h.length (.dreg [oo 21 (.faddr 3 1 3), oo 22 (.load none 21), mo 23 2, oo 24 (.nilck 23), oo 25 (.faddr 2 1 24), oo 26 (.load none 25), oo 27 (.maplen 26), oo 28 (.bin .add 22 27), oo 29 (.faddr 3 1 3), os (.store 1 29 28)] [] 0 []) (RetS2 [] h.length Q) [(2, .ptr b.bid 0), (3, .ptr o 0)] h3 := by
    intro h3 s3
    have go : h3[o]? = some (outO m gid aid wy wt) := s3.get (by simp)
    have gb : h3[b.bid]? = some (b.obj K) := s3.get (by simp [PB.lay])
    have ge : h3[b.eid]? = some (b.early.obj eKey ii) := s3.get (by simp [PB.lay])
    refine a_dregl0 Try.mixed ?_
    repeat (first | refine a_op (fun _ => rfl) ?_ | refine a_load rfl (by assumption) rfl ?_ | refine a_load_at rfl (by assumption) (by assumption) ?_ | refine a_iaddr_at rfl rfl (by assumption) ?_ | refine a_iaddr_l rfl rfl (by assumption) rfl ?_ | refine st_load_r rfl rfl ?_ | refine a_cmp rfl rfl rfl ?_ | refine a_eqi rfl rfl ?_ | refine st_not rfl ?_ | refine st_pick_t rfl rfl rfl ?_ | refine st_pick_f rfl rfl rfl ?_ | refine st_g rfl ?_ | refine a_gtf rfl ?_ | refine a_gft rfl ?_ | refine a_gu rfl ?_ | refine a_mklist (ec rfl en) (mz mkn) ?_ | refine a_mid ?_)
    refine g_maplen rfl ge ?_
    refine a_add rfl rfl (by omega) ?_
    repeat (first | refine a_op (fun _ => rfl) ?_ | refine a_load rfl (by assumption) rfl ?_ | refine a_load_at rfl (by assumption) (by assumption) ?_ | refine a_iaddr_at rfl rfl (by assumption) ?_ | refine a_iaddr_l rfl rfl (by assumption) rfl ?_ | refine st_load_r rfl rfl ?_ | refine a_cmp rfl rfl rfl ?_ | refine a_eqi rfl rfl ?_ | refine st_not rfl ?_ | refine st_pick_t rfl rfl rfl ?_ | refine st_pick_f rfl rfl rfl ?_ | refine st_g rfl ?_ | refine a_gtf rfl ?_ | refine a_gft rfl ?_ | refine a_gu rfl ?_ | refine a_mklist (ec rfl en) (mz mkn) ?_ | refine a_mid ?_)
    refine a_store rfl rfl go ⟨rfl, lb rfl, rfl⟩ ?_
    repeat (first | refine a_op (fun _ => rfl) ?_ | refine a_load rfl (by assumption) rfl ?_ | refine a_load_at rfl (by assumption) (by assumption) ?_ | refine a_iaddr_at rfl rfl (by assumption) ?_ | refine a_iaddr_l rfl rfl (by assumption) rfl ?_ | refine st_load_r rfl rfl ?_ | refine a_cmp rfl rfl rfl ?_ | refine a_eqi rfl rfl ?_ | refine st_not rfl ?_ | refine st_pick_t rfl rfl rfl ?_ | refine st_pick_f rfl rfl rfl ?_ | refine st_g rfl ?_ | refine a_gtf rfl ?_ | refine a_gft rfl ?_ | refine a_gu rfl ?_ | refine a_mklist (ec rfl en) (mz mkn) ?_ | refine a_mid ?_)
    first | refine a_endq (by repeat (first | exact pr_nil | (apply pr_cons; rfl))) ?_ | refine a_end (by repeat (first | exact pr_nil | (apply pr_cons; rfl))) ?_
    exact x_ret _ rfl (kk _ (Sep.set (A := []) s3 _))
  refine a_dord2 Try.mixed ?_ ?_
  · repeat (first | refine a_op (fun _ => rfl) ?_ | refine a_load rfl (by assumption) rfl ?_ | refine a_load_at rfl (by assumption) (by assumption) ?_ | refine a_iaddr_at rfl rfl (by assumption) ?_ | refine a_iaddr_l rfl rfl (by assumption) rfl ?_ | refine st_load_r rfl rfl ?_ | refine a_cmp rfl rfl rfl ?_ | refine a_eqi rfl rfl ?_ | refine st_not rfl ?_ | refine st_pick_t rfl rfl rfl ?_ | refine st_pick_f rfl rfl rfl ?_ | refine st_g rfl ?_ | refine a_gtf rfl ?_ | refine a_gft rfl ?_ | refine a_gu rfl ?_ | refine a_mklist (ec rfl en) (mz mkn) ?_ | refine a_mid ?_)
    refine a_pcm rfl (ec rfl en) (s73 b.got.l (by omega)) rfl ?_
    repeat (first | refine a_op (fun _ => rfl) ?_ | refine a_load rfl (by assumption) rfl ?_ | refine a_load_at rfl (by assumption) (by assumption) ?_ | refine a_iaddr_at rfl rfl (by assumption) ?_ | refine a_iaddr_l rfl rfl (by assumption) rfl ?_ | refine st_load_r rfl rfl ?_ | refine a_cmp rfl rfl rfl ?_ | refine a_eqi rfl rfl ?_ | refine st_not rfl ?_ | refine st_pick_t rfl rfl rfl ?_ | refine st_pick_f rfl rfl rfl ?_ | refine st_g rfl ?_ | refine a_gtf rfl ?_ | refine a_gft rfl ?_ | refine a_gu rfl ?_ | refine a_mklist (ec rfl en) (mz mkn) ?_ | refine a_mid ?_)
    refine a_store_rg (F := fun w => ln eGMove_Got (G w)) rfl rfl gg rfl rfl hw ?_
    rw [e1]
    generalize h.set gid _ = h2 at s2 ⊢
    have ga : h2[aid]? = some (atO m A) := s2.get (by simp)
    repeat (first | refine a_op (fun _ => rfl) ?_ | refine a_load rfl (by assumption) rfl ?_ | refine a_load_at rfl (by assumption) (by assumption) ?_ | refine a_iaddr_at rfl rfl (by assumption) ?_ | refine a_iaddr_l rfl rfl (by assumption) rfl ?_ | refine st_load_r rfl rfl ?_ | refine a_cmp rfl rfl rfl ?_ | refine a_eqi rfl rfl ?_ | refine st_not rfl ?_ | refine st_pick_t rfl rfl rfl ?_ | refine st_pick_f rfl rfl rfl ?_ | refine st_g rfl ?_ | refine a_gtf rfl ?_ | refine a_gft rfl ?_ | refine a_gu rfl ?_ | refine a_mklist (ec rfl en) (mz mkn) ?_ | refine a_mid ?_)
    refine a_store_rg (F := fun w => ii (A w)) rfl rfl ga rfl rfl hw ?_
    rw [e2]
    repeat (first | refine a_op (fun _ => rfl) ?_ | refine a_load rfl (by assumption) rfl ?_ | refine a_load_at rfl (by assumption) (by assumption) ?_ | refine a_iaddr_at rfl rfl (by assumption) ?_ | refine a_iaddr_l rfl rfl (by assumption) rfl ?_ | refine st_load_r rfl rfl ?_ | refine a_cmp rfl rfl rfl ?_ | refine a_eqi rfl rfl ?_ | refine st_not rfl ?_ | refine st_pick_t rfl rfl rfl ?_ | refine st_pick_f rfl rfl rfl ?_ | refine st_g rfl ?_ | refine a_gtf rfl ?_ | refine a_gft rfl ?_ | refine a_gu rfl ?_ | refine a_mklist (ec rfl en) (mz mkn) ?_ | refine a_mid ?_)
    first | refine a_endq (by repeat (first | exact pr_nil | (apply pr_cons; rfl))) ?_ | refine a_end (by repeat (first | exact pr_nil | (apply pr_cons; rfl))) ?_
    exact fin _ (Sep.set (A := [(o, outO m gid aid wy wt), (gid, gotO m (fupd G w b.got.l))]) s2 _)
  · repeat (first | refine a_op (fun _ => rfl) ?_ | refine a_load rfl (by assumption) rfl ?_ | refine a_load_at rfl (by assumption) (by assumption) ?_ | refine a_iaddr_at rfl rfl (by assumption) ?_ | refine a_iaddr_l rfl rfl (by assumption) rfl ?_ | refine st_load_r rfl rfl ?_ | refine a_cmp rfl rfl rfl ?_ | refine a_eqi rfl rfl ?_ | refine st_not rfl ?_ | refine st_pick_t rfl rfl rfl ?_ | refine st_pick_f rfl rfl rfl ?_ | refine st_g rfl ?_ | refine a_gtf rfl ?_ | refine a_gft rfl ?_ | refine a_gu rfl ?_ | refine a_mklist (ec rfl en) (mz mkn) ?_ | refine a_mid ?_)
    refine a_pcm rfl (ec rfl en) (s73 b.got.l (by omega)) rfl ?_
    repeat (first | refine a_op (fun _ => rfl) ?_ | refine a_load rfl (by assumption) rfl ?_ | refine a_load_at rfl (by assumption) (by assumption) ?_ | refine a_iaddr_at rfl rfl (by assumption) ?_ | refine a_iaddr_l rfl rfl (by assumption) rfl ?_ | refine st_load_r rfl rfl ?_ | refine a_cmp rfl rfl rfl ?_ | refine a_eqi rfl rfl ?_ | refine st_not rfl ?_ | refine st_pick_t rfl rfl rfl ?_ | refine st_pick_f rfl rfl rfl ?_ | refine st_g rfl ?_ | refine a_gtf rfl ?_ | refine a_gft rfl ?_ | refine a_gu rfl ?_ | refine a_mklist (ec rfl en) (mz mkn) ?_ | refine a_mid ?_)
    refine a_store_rg (F := fun w => ln eGMove_Got (G w)) rfl rfl gg rfl rfl hw ?_
    rw [e1]
    generalize h.set gid _ = h2 at s2 ⊢
    have go : h2[o]? = some (outO m gid aid wy wt) := s2.get (by simp)
    have ga : h2[aid]? = some (atO m A) := s2.get (by simp)
    repeat (first | refine a_op (fun _ => rfl) ?_ | refine a_load rfl (by assumption) rfl ?_ | refine a_load_at rfl (by assumption) (by assumption) ?_ | refine a_iaddr_at rfl rfl (by assumption) ?_ | refine a_iaddr_l rfl rfl (by assumption) rfl ?_ | refine st_load_r rfl rfl ?_ | refine a_cmp rfl rfl rfl ?_ | refine a_eqi rfl rfl ?_ | refine st_not rfl ?_ | refine st_pick_t rfl rfl rfl ?_ | refine st_pick_f rfl rfl rfl ?_ | refine st_g rfl ?_ | refine a_gtf rfl ?_ | refine a_gft rfl ?_ | refine a_gu rfl ?_ | refine a_mklist (ec rfl en) (mz mkn) ?_ | refine a_mid ?_)
    refine a_store_rg (F := fun w => ii (A w)) rfl rfl ga rfl rfl hw ?_
    rw [e2]
    repeat (first | refine a_op (fun _ => rfl) ?_ | refine a_load rfl (by assumption) rfl ?_ | refine a_load_at rfl (by assumption) (by assumption) ?_ | refine a_iaddr_at rfl rfl (by assumption) ?_ | refine a_iaddr_l rfl rfl (by assumption) rfl ?_ | refine st_load_r rfl rfl ?_ | refine a_cmp rfl rfl rfl ?_ | refine a_eqi rfl rfl ?_ | refine st_not rfl ?_ | refine st_pick_t rfl rfl rfl ?_ | refine st_pick_f rfl rfl rfl ?_ | refine st_g rfl ?_ | refine a_gtf rfl ?_ | refine a_gft rfl ?_ | refine a_gu rfl ?_ | refine a_mklist (ec rfl en) (mz mkn) ?_ | refine a_mid ?_)
    first | refine a_endq (by repeat (first | exact pr_nil | (apply pr_cons; rfl))) ?_ | refine a_end (by repeat (first | exact pr_nil | (apply pr_cons; rfl))) ?_
    exact fin _ (Sep.set (A := [(o, outO m gid aid wy wt), (gid, gotO m (fupd G w b.got.l))]) s2 _)
end Go.Hw.VM

