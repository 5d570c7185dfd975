import Derived.Test.YtonoaimefgodfaaHwMkS
set_option linter.unusedVariables false
set_option linter.unusedSimpArgs false
namespace Go.Hw.VK
open Go Go.Proofs

def peersF (n i : Nat) : List Int := ((List.range n).filter fun k => decide (k ≠ i)).map fun k : Nat => (k : Int)
def newSd (n i : Nat) : Sd := ⟨peersF n i, false, 0, List.replicate (peersF n i).length [], List.replicate (peersF n i).length false⟩
def tw0 (coins : List Int) : Tw := ⟨coins, GM.nil, (List.range coins.length).map (newSd coins.length)⟩
def deedF (t : Tw) (d : GMark_Deed) : Tw := doF t d.Kind d.From.toNat d.To.toNat d.N
def runF (coins : List Int) (deeds : List GMark_Deed) : Tw := deeds.foldl deedF (tw0 coins)
structure DeedOk (n : Nat) (d : GMark_Deed) : Prop where
  kind : d.Kind = 1 ∨ d.Kind = 2 ∨ d.Kind = 3
  frm : 0 ≤ d.From ∧ d.From < n
  to_ : 0 ≤ d.To ∧ d.To < n
  num : d.Kind = 1 → 1 ≤ d.N ∧ d.N ≤ 1000000000
structure Good (n : Nat) (t : Tw) : Prop where
  coins : t.coins.length = n
  sides : t.sides.length = n
  cb : ∀ c ∈ t.coins, -1000000000 ≤ c ∧ c ≤ 1000000000
  ib : ∀ p ∈ t.ways.es, ∀ x ∈ p.2.2, -1000000000 ≤ x.n ∧ x.n ≤ 1000000000
  es : t.ways.es.length ≤ 1000
theorem peersF_facts (n i : Nat) (hn : n ≤ 8) : (peersF n i).length ≤ 8 ∧ (peersF n i).Nodup := by
  unfold peersF
  refine ⟨?_, ?_⟩
  · rw [List.length_map]
    have := List.length_filter_le (fun k => decide (k ≠ i)) (List.range n)
    rw [List.length_range] at this
    omega
  · rw [List.nodup_iff_pairwise_ne, List.pairwise_map]
    have h1 : (List.range n).Pairwise (· ≠ ·) := List.nodup_iff_pairwise_ne.1 List.nodup_range
    exact (h1.filter _).imp fun h hc => h (by omega)
theorem encw_sp : EncW sp_ 1 := ⟨fun _ => rfl, fun _ => rfl, fun _ => rfl⟩
def peersUp (k i : Nat) : List Int := ((List.range k).filter fun j => decide (j ≠ i)).map fun j : Nat => (j : Int)
theorem peersUp_succ (k i : Nat) : peersUp (k + 1) i = if (k : Int) = (i : Int) then peersUp k i else peersUp k i ++ [(k : Int)] := by
  unfold peersUp
  rw [List.range_succ, List.filter_append, List.map_append]
  by_cases h : k = i
  · rw [if_pos (by omega)]
    simp [h]
  · rw [if_neg (by omega)]
    simp [h]
theorem r60p {h : Heap} {R : Lay} {T : PT} {B p : Nat} (hp : T.p = p) (ok : T.ok B) (hB : B ≤ 90000) (hn : T.sides.l.length = T.coins.length) {a b : Nat} (ha : a < T.coins.length) (hb : b < T.coins.length) {kd nn : Int} (hk : kd = 1 ∨ kd = 2 ∨ kd = 3) (hnn : kd = 1 → 1 ≤ nn ∧ nn ≤ 1000000000)
    (hco : ∀ c ∈ T.coins, -1000000000 ≤ c ∧ c ≤ 1000000000) (hit : ∀ q ∈ T.g.es, ∀ x ∈ q.2.2.l, -1000000000 ≤ x.n ∧ x.n ≤ 1000000000) (hs : Sep h (T.lay ++ R)) {Q : HV → Heap → Prop}
    (kk : ∀ (h' : Heap) (T' : PT), T'.p = T.p → T'.ok (B + 8) → T'.abs = doF T.abs kd a b nn → Sep h' (T'.lay ++ R) → Q (.tuple []) h') : HCalls Try.prog 60 [.ptr p 0, .agg [ii kd, ii (a : Int), ii (b : Int), ii nn]] h Q := by
  subst hp
  exact r60 ok hB hn ha hb hk hnn hco hit hs kk
theorem r61p {h : Heap} {R : Lay} {T : PT} {B p : Nat} (hp : T.p = p) (ok : T.ok B) (hB : B ≤ 90000) (hne : T.coins ≠ []) (hE : T.g.es.length ≤ 1000) (hit : ∀ q ∈ T.g.es, ∀ x ∈ q.2.2.l, -1000000000 ≤ x.n ∧ x.n ≤ 1000000000) (hn : T.sides.l.length = T.coins.length)
    (hs : Sep h (T.lay ++ R)) {Q : HV → Heap → Prop}
    (kk : ∀ (h' : Heap) (t1 t2 : Tok), Sep h' R → Q (.agg [.bool (shotF T.abs).Done, .list ((shotF T.abs).States.map (eInt .i64)) t1, .list ((shotF T.abs).Ways.map e2) t2, ln (eInt .i64) (shotF T.abs).Now, ii (shotF T.abs).Left]) h') : HCalls Try.prog 61 [.ptr p 0] h Q := by
  subst hp
  exact r61 ok hB hne hE hit hn hs kk
set_option maxRecDepth 8000 in
theorem r38 (coins : List Int) (deeds : List GMark_Deed) (hc0 : coins ≠ []) (hc8 : coins.length ≤ 8) (hcb : ∀ c ∈ coins, 0 ≤ c ∧ c ≤ 1000000) (hd : deeds.length ≤ 400) (hok : ∀ d ∈ deeds, DeedOk coins.length d)
    (hgood : ∀ k ≤ deeds.length, Good coins.length (runF coins (deeds.take k))) : sp38 coins deeds (shotF (runF coins deeds), 0) := by
  refine zf (rs := [.c 4 (some 5), .t 5]) (g := zg38) Try.func38 hk38 ?_
  show SC Try.prog Try.f38.ntmps 0 hc38 _ [(0, ln (eInt .i64) coins), (1, ln eGMark_Deed deeds)] []
  unfold hc38
  refine q_reg (a_alloc ?_)
  repeat (first | refine a_op (fun _ => rfl) ?_ | refine a_load rfl (by assumption) rfl ?_ | refine a_load_at rfl (by assumption) (by assumption) ?_ | refine a_iaddr_at rfl rfl (by assumption) ?_ | refine a_iaddr_l rfl rfl (by assumption) rfl ?_ | refine st_load_r rfl rfl ?_ | refine a_cmp rfl rfl rfl ?_ | refine a_eqi rfl rfl ?_ | refine st_not rfl ?_ | refine st_pick_t rfl rfl rfl ?_ | refine st_pick_f rfl rfl rfl ?_ | refine st_g rfl ?_ | refine a_gtf rfl ?_ | refine a_gft rfl ?_ | refine a_gu rfl ?_ | refine a_mklist (ec rfl en) (mz mkn) ?_ | refine a_mid ?_)
  first | refine a_endq (by repeat (first | exact pr_nil | (apply pr_cons; rfl))) ?_ | refine a_end (by repeat (first | exact pr_nil | (apply pr_cons; rfl))) ?_
  have s0 : Sep ([] ++ [shot0]) [(0, shot0)] := (Sep.nil (h := [])).new shot0
  change SC _ _ _ _ _ [(0, ln (eInt .i64) coins), (1, ln eGMark_Deed deeds), (4, .ptr 0 0)] ([] ++ [shot0])
  generalize [] ++ [shot0] = h0 at s0 ⊢
  refine sc_seq (q_reg ?_)
  refine a_op (fun _ => rfl) (a_op (fun _ => rfl) (st_gtr rfl rfl (fun hc => ?_) (fun _ => ?_)))
  · rw [List.length_map] at hc; omega
  refine a_op (fun _ => rfl) (st_g rfl (a_op (fun _ => rfl) (st_g rfl (a_op (fun _ => rfl) (st_g rfl (st_gtr rfl rfl (fun hc => ?_) (fun _ => ?_)))))))
  · rw [List.length_map] at hc; omega
  repeat (first | refine a_op (fun _ => rfl) ?_ | refine a_load rfl (by assumption) rfl ?_ | refine a_load_at rfl (by assumption) (by assumption) ?_ | refine a_iaddr_at rfl rfl (by assumption) ?_ | refine a_iaddr_l rfl rfl (by assumption) rfl ?_ | refine st_load_r rfl rfl ?_ | refine a_cmp rfl rfl rfl ?_ | refine a_eqi rfl rfl ?_ | refine st_not rfl ?_ | refine st_pick_t rfl rfl rfl ?_ | refine st_pick_f rfl rfl rfl ?_ | refine st_g rfl ?_ | refine a_gtf rfl ?_ | refine a_gft rfl ?_ | refine a_gu rfl ?_ | refine a_mklist (ec rfl en) (mz mkn) ?_ | refine a_mid ?_)
  first | refine a_endq (by repeat (first | exact pr_nil | (apply pr_cons; rfl))) ?_ | refine a_end (by repeat (first | exact pr_nil | (apply pr_cons; rfl))) ?_
  refine s_cond_f rfl (sc_skip (sq_n (q_reg ?_)))
  repeat (first | refine a_op (fun _ => rfl) ?_ | refine a_load rfl (by assumption) rfl ?_ | refine a_load_at rfl (by assumption) (by assumption) ?_ | refine a_iaddr_at rfl rfl (by assumption) ?_ | refine a_iaddr_l rfl rfl (by assumption) rfl ?_ | refine st_load_r rfl rfl ?_ | refine a_cmp rfl rfl rfl ?_ | refine a_eqi rfl rfl ?_ | refine st_not rfl ?_ | refine st_pick_t rfl rfl rfl ?_ | refine st_pick_f rfl rfl rfl ?_ | refine st_g rfl ?_ | refine a_gtf rfl ?_ | refine a_gft rfl ?_ | refine a_gu rfl ?_ | refine a_mklist (ec rfl en) (mz mkn) ?_ | refine a_mid ?_)
  refine a_call (ec rfl en) (r47l hc0 (by omega) s0 (fun h1 c s1 => ?_))
  refine g_mkmap (fk := eKey) (fv := RW.hv eItem) (n := h1.length) rfl rfl ?_
  repeat (first | refine a_op (fun _ => rfl) ?_ | refine a_load rfl (by assumption) rfl ?_ | refine a_load_at rfl (by assumption) (by assumption) ?_ | refine a_iaddr_at rfl rfl (by assumption) ?_ | refine a_iaddr_l rfl rfl (by assumption) rfl ?_ | refine st_load_r rfl rfl ?_ | refine a_cmp rfl rfl rfl ?_ | refine a_eqi rfl rfl ?_ | refine st_not rfl ?_ | refine st_pick_t rfl rfl rfl ?_ | refine st_pick_f rfl rfl rfl ?_ | refine st_g rfl ?_ | refine a_gtf rfl ?_ | refine a_gft rfl ?_ | refine a_gu rfl ?_ | refine a_mklist (ec rfl en) (mz mkn) ?_ | refine a_mid ?_)
  have s2 := (s1.new ((GM.nil : GM Key (RW Item)).obj eKey (RW.hv eItem)))
  generalize h1.length = m at s2 ⊢
  generalize h1 ++ [(GM.nil : GM Key (RW Item)).obj eKey (RW.hv eItem)] = h2 at s2 ⊢
  refine a_box rfl rfl rfl ?_
  repeat (first | refine a_op (fun _ => rfl) ?_ | refine a_load rfl (by assumption) rfl ?_ | refine a_load_at rfl (by assumption) (by assumption) ?_ | refine a_iaddr_at rfl rfl (by assumption) ?_ | refine a_iaddr_l rfl rfl (by assumption) rfl ?_ | refine st_load_r rfl rfl ?_ | refine a_cmp rfl rfl rfl ?_ | refine a_eqi rfl rfl ?_ | refine st_not rfl ?_ | refine st_pick_t rfl rfl rfl ?_ | refine st_pick_f rfl rfl rfl ?_ | refine st_g rfl ?_ | refine a_gtf rfl ?_ | refine a_gft rfl ?_ | refine a_gu rfl ?_ | refine a_mklist (ec rfl en) (mz mkn) ?_ | refine a_mid ?_)
  first | refine a_endq (by repeat (first | exact pr_nil | (apply pr_cons; rfl))) ?_ | refine a_end (by repeat (first | exact pr_nil | (apply pr_cons; rfl))) ?_
  have s3 := s2.new (.cells [.arr c 0 coins.length 1, .map m, .list [] .full])
  change SC _ _ _ _ _ [(0, ln (eInt .i64) coins), (1, ln eGMark_Deed deeds), (4, .ptr 0 0), (6, .ptr h2.length 0)] (h2 ++ [HObj.cells [.arr c 0 coins.length 1, .map m, .list [] .full]])
  generalize h2.length = p at s3 ⊢
  generalize h2 ++ [HObj.cells [.arr c 0 coins.length 1, .map m, .list [] .full]] = h3 at s3 ⊢
  have s4 : Sep h3 ((⟨p, c, m, coins, GM.nil, RW.nil⟩ : PT).lay ++ [(0, shot0)]) := by
    refine s3.perm ?_
    simp only [PT.lay, mlay, GM.nil, RW.nil, RW.lay, PT.obj, RW.hv, List.flatMap_nil, List.map_nil, List.append_nil, List.cons_append, List.nil_append]
    exact (List.Perm.swap _ _ _).cons _
  clear s0 s1 s2 s3 h0 h1 h2
  refine sc_seq (q_reg ?_)
  repeat (first | refine a_op (fun _ => rfl) ?_ | refine a_load rfl (by assumption) rfl ?_ | refine a_load_at rfl (by assumption) (by assumption) ?_ | refine a_iaddr_at rfl rfl (by assumption) ?_ | refine a_iaddr_l rfl rfl (by assumption) rfl ?_ | refine st_load_r rfl rfl ?_ | refine a_cmp rfl rfl rfl ?_ | refine a_eqi rfl rfl ?_ | refine st_not rfl ?_ | refine st_pick_t rfl rfl rfl ?_ | refine st_pick_f rfl rfl rfl ?_ | refine st_g rfl ?_ | refine a_gtf rfl ?_ | refine a_gft rfl ?_ | refine a_gu rfl ?_ | refine a_mklist (ec rfl en) (mz mkn) ?_ | refine a_mid ?_)
  first | refine a_endq (by repeat (first | exact pr_nil | (apply pr_cons; rfl))) ?_ | refine a_end (by repeat (first | exact pr_nil | (apply pr_cons; rfl))) ?_
  refine sc_block (sc_loop (X := { x : Nat × RW PS × Heap // x.1 ≤ coins.length ∧ x.2.1.ok 1 ∧ (∀ s ∈ x.2.1.l, s.ok) ∧ x.2.1.l.map PS.abs = (List.range x.1).map (newSd coins.length) ∧ Sep x.2.2 ((⟨p, c, m, coins, GM.nil, x.2.1⟩ : PT).lay ++ [(0, shot0)]) })
      (fun x => ([(0, ln (eInt .i64) coins), (1, ln eGMark_Deed deeds), (4, .ptr 0 0), (6, .ptr p 0), (29, ln (eInt .i64) coins), (30, ii (coins.map (eInt .i64)).length), (31, ii x.1.1)], x.1.2.2)) (fun x => coins.length - x.1.1)
      ⟨(0, RW.nil, h3), Nat.zero_le _, trivial, by simp [RW.nil], rfl, s4⟩ (WeakF.refl _ _) ?_)
  rintro ⟨⟨i, sd, h4⟩, hi, hso, hsok, hsa, s5⟩
  simp only at hi hso hsok hsa s5
  refine q_reg ?_
  repeat (first | refine a_op (fun _ => rfl) ?_ | refine a_load rfl (by assumption) rfl ?_ | refine a_load_at rfl (by assumption) (by assumption) ?_ | refine a_iaddr_at rfl rfl (by assumption) ?_ | refine a_iaddr_l rfl rfl (by assumption) rfl ?_ | refine st_load_r rfl rfl ?_ | refine a_cmp rfl rfl rfl ?_ | refine a_eqi rfl rfl ?_ | refine st_not rfl ?_ | refine st_pick_t rfl rfl rfl ?_ | refine st_pick_f rfl rfl rfl ?_ | refine st_g rfl ?_ | refine a_gtf rfl ?_ | refine a_gft rfl ?_ | refine a_gu rfl ?_ | refine a_mklist (ec rfl en) (mz mkn) ?_ | refine a_mid ?_)
  first | refine a_endq (by repeat (first | exact pr_nil | (apply pr_cons; rfl))) ?_ | refine a_end (by repeat (first | exact pr_nil | (apply pr_cons; rfl))) ?_
  refine sc_seq (sc_cond rfl (fun hz => ?_) (fun hz => ?_))
  · have hil : i < coins.length := by have := of_decide_eq_true hz; dsimp only at this; rw [List.length_map] at this; omega
    obtain ⟨ci, hci⟩ : ∃ x, coins[i]? = some x := ⟨_, List.getElem?_eq_getElem hil⟩
    have hcib := hcb ci (List.mem_of_getElem? hci)
    refine sc_skip (sq_n (sc_seq (sc_block (q_reg ?_))))
    repeat (first | refine a_op (fun _ => rfl) ?_ | refine a_load rfl (by assumption) rfl ?_ | refine a_load_at rfl (by assumption) (by assumption) ?_ | refine a_iaddr_at rfl rfl (by assumption) ?_ | refine a_iaddr_l rfl rfl (by assumption) rfl ?_ | refine st_load_r rfl rfl ?_ | refine a_cmp rfl rfl rfl ?_ | refine a_eqi rfl rfl ?_ | refine st_not rfl ?_ | refine st_pick_t rfl rfl rfl ?_ | refine st_pick_f rfl rfl rfl ?_ | refine st_g rfl ?_ | refine a_gtf rfl ?_ | refine a_gft rfl ?_ | refine a_gu rfl ?_ | refine a_mklist (ec rfl en) (mz mkn) ?_ | refine a_mid ?_)
    first | refine a_endq (by repeat (first | exact pr_nil | (apply pr_cons; rfl))) ?_ | refine a_end (by repeat (first | exact pr_nil | (apply pr_cons; rfl))) ?_
    refine sc_seq (q_reg ?_)
    refine a_op (fun _ => rfl) (st_lss rfl rfl (fun hx => by omega) (fun _ => ?_))
    refine a_op (fun _ => rfl) (st_g rfl (a_op (fun _ => rfl) (st_g rfl (st_gtr rfl rfl (fun hx => by omega) (fun _ => ?_)))))
    repeat (first | refine a_op (fun _ => rfl) ?_ | refine a_load rfl (by assumption) rfl ?_ | refine a_load_at rfl (by assumption) (by assumption) ?_ | refine a_iaddr_at rfl rfl (by assumption) ?_ | refine a_iaddr_l rfl rfl (by assumption) rfl ?_ | refine st_load_r rfl rfl ?_ | refine a_cmp rfl rfl rfl ?_ | refine a_eqi rfl rfl ?_ | refine st_not rfl ?_ | refine st_pick_t rfl rfl rfl ?_ | refine st_pick_f rfl rfl rfl ?_ | refine st_g rfl ?_ | refine a_gtf rfl ?_ | refine a_gft rfl ?_ | refine a_gu rfl ?_ | refine a_mklist (ec rfl en) (mz mkn) ?_ | refine a_mid ?_)
    first | refine a_endq (by repeat (first | exact pr_nil | (apply pr_cons; rfl))) ?_ | refine a_end (by repeat (first | exact pr_nil | (apply pr_cons; rfl))) ?_
    refine s_cond_f rfl (sc_skip (sq_n (q_reg ?_)))
    repeat (first | refine a_op (fun _ => rfl) ?_ | refine a_load rfl (by assumption) rfl ?_ | refine a_load_at rfl (by assumption) (by assumption) ?_ | refine a_iaddr_at rfl rfl (by assumption) ?_ | refine a_iaddr_l rfl rfl (by assumption) rfl ?_ | refine st_load_r rfl rfl ?_ | refine a_cmp rfl rfl rfl ?_ | refine a_eqi rfl rfl ?_ | refine st_not rfl ?_ | refine st_pick_t rfl rfl rfl ?_ | refine st_pick_f rfl rfl rfl ?_ | refine st_g rfl ?_ | refine a_gtf rfl ?_ | refine a_gft rfl ?_ | refine a_gu rfl ?_ | refine a_mklist (ec rfl en) (mz mkn) ?_ | refine a_mid ?_)
    first | refine a_endq (by repeat (first | exact pr_nil | (apply pr_cons; rfl))) ?_ | refine a_end (by repeat (first | exact pr_nil | (apply pr_cons; rfl))) ?_
    refine sc_seq (q_reg ?_)
    repeat (first | refine a_op (fun _ => rfl) ?_ | refine a_load rfl (by assumption) rfl ?_ | refine a_load_at rfl (by assumption) (by assumption) ?_ | refine a_iaddr_at rfl rfl (by assumption) ?_ | refine a_iaddr_l rfl rfl (by assumption) rfl ?_ | refine st_load_r rfl rfl ?_ | refine a_cmp rfl rfl rfl ?_ | refine a_eqi rfl rfl ?_ | refine st_not rfl ?_ | refine st_pick_t rfl rfl rfl ?_ | refine st_pick_f rfl rfl rfl ?_ | refine st_g rfl ?_ | refine a_gtf rfl ?_ | refine a_gft rfl ?_ | refine a_gu rfl ?_ | refine a_mklist (ec rfl en) (mz mkn) ?_ | refine a_mid ?_)
    first | refine a_endq (by repeat (first | exact pr_nil | (apply pr_cons; rfl))) ?_ | refine a_end (by repeat (first | exact pr_nil | (apply pr_cons; rfl))) ?_
    refine sc_block (sc_loop (X := { x : Nat × RW Int × Heap // x.1 ≤ coins.length ∧ x.2.1.ok 1 ∧ x.2.1.l = peersUp x.1 i ∧ Sep x.2.2 ([] ++ (x.2.1.lay ++ ((⟨p, c, m, coins, GM.nil, sd⟩ : PT).lay ++ [(0, shot0)]))) })
      (fun x => ([(0, ln (eInt .i64) coins), (1, ln eGMark_Deed deeds), (4, .ptr 0 0), (6, .ptr p 0), (7, ii i), (9, x.1.2.1.hv (eInt .i64)), (29, ln (eInt .i64) coins), (30, ii (coins.map (eInt .i64)).length), (31, ii i), (44, ii (coins.map (eInt .i64)).length), (45, ii x.1.1)], x.1.2.2)) (fun x => coins.length - x.1.1)
      ⟨(0, RW.nil, h4), Nat.zero_le _, trivial, rfl, s5⟩ (WeakF.refl _ _) ?_)
    rintro ⟨⟨k, pr, h5⟩, hk, hpo, hpl, s6⟩
    simp only at hk hpo hpl s6
    refine q_reg ?_
    repeat (first | refine a_op (fun _ => rfl) ?_ | refine a_load rfl (by assumption) rfl ?_ | refine a_load_at rfl (by assumption) (by assumption) ?_ | refine a_iaddr_at rfl rfl (by assumption) ?_ | refine a_iaddr_l rfl rfl (by assumption) rfl ?_ | refine st_load_r rfl rfl ?_ | refine a_cmp rfl rfl rfl ?_ | refine a_eqi rfl rfl ?_ | refine st_not rfl ?_ | refine st_pick_t rfl rfl rfl ?_ | refine st_pick_f rfl rfl rfl ?_ | refine st_g rfl ?_ | refine a_gtf rfl ?_ | refine a_gft rfl ?_ | refine a_gu rfl ?_ | refine a_mklist (ec rfl en) (mz mkn) ?_ | refine a_mid ?_)
    first | refine a_endq (by repeat (first | exact pr_nil | (apply pr_cons; rfl))) ?_ | refine a_end (by repeat (first | exact pr_nil | (apply pr_cons; rfl))) ?_
    refine sc_seq (sc_cond rfl (fun hz => ?_) (fun hz => ?_))
    · have hkl : k < coins.length := by have := of_decide_eq_true hz; dsimp only at this; rw [List.length_map] at this; omega
      have hpl8 : pr.l.length ≤ 8 := by
        rw [hpl]
        unfold peersUp
        rw [List.length_map]
        have := List.length_filter_le (fun j => decide (j ≠ i)) (List.range k)
        rw [List.length_range] at this
        omega
      refine sc_skip (sq_n (sc_seq (sc_block (q_reg ?_))))
      repeat (first | refine a_op (fun _ => rfl) ?_ | refine a_load rfl (by assumption) rfl ?_ | refine a_load_at rfl (by assumption) (by assumption) ?_ | refine a_iaddr_at rfl rfl (by assumption) ?_ | refine a_iaddr_l rfl rfl (by assumption) rfl ?_ | refine st_load_r rfl rfl ?_ | refine a_cmp rfl rfl rfl ?_ | refine a_eqi rfl rfl ?_ | refine st_not rfl ?_ | refine st_pick_t rfl rfl rfl ?_ | refine st_pick_f rfl rfl rfl ?_ | refine st_g rfl ?_ | refine a_gtf rfl ?_ | refine a_gft rfl ?_ | refine a_gu rfl ?_ | refine a_mklist (ec rfl en) (mz mkn) ?_ | refine a_mid ?_)
      first | refine a_endq (by repeat (first | exact pr_nil | (apply pr_cons; rfl))) ?_ | refine a_end (by repeat (first | exact pr_nil | (apply pr_cons; rfl))) ?_
      refine q_reg ?_
      repeat (first | refine a_op (fun _ => rfl) ?_ | refine a_load rfl (by assumption) rfl ?_ | refine a_load_at rfl (by assumption) (by assumption) ?_ | refine a_iaddr_at rfl rfl (by assumption) ?_ | refine a_iaddr_l rfl rfl (by assumption) rfl ?_ | refine st_load_r rfl rfl ?_ | refine a_cmp rfl rfl rfl ?_ | refine a_eqi rfl rfl ?_ | refine st_not rfl ?_ | refine st_pick_t rfl rfl rfl ?_ | refine st_pick_f rfl rfl rfl ?_ | refine st_g rfl ?_ | refine a_gtf rfl ?_ | refine a_gft rfl ?_ | refine a_gu rfl ?_ | refine a_mklist (ec rfl en) (mz mkn) ?_ | refine a_mid ?_)
      first | refine a_endq (by repeat (first | exact pr_nil | (apply pr_cons; rfl))) ?_ | refine a_end (by repeat (first | exact pr_nil | (apply pr_cons; rfl))) ?_
      have e1 : (if true = true then !((k : Int) == (i : Int)) else (k : Int) == (i : Int)) = !decide ((k : Int) = (i : Int)) := by rw [if_pos rfl]; rfl
      simp only [e1]
      refine sc_cond (t := !decide ((k : Int) = (i : Int))) rfl (fun hne => ?_) (fun hne => ?_)
      · have hne : ¬ (k : Int) = i := by simpa using hne
        refine s_reg ?_
        repeat (first | refine a_op (fun _ => rfl) ?_ | refine a_load rfl (by assumption) rfl ?_ | refine a_load_at rfl (by assumption) (by assumption) ?_ | refine a_iaddr_at rfl rfl (by assumption) ?_ | refine a_iaddr_l rfl rfl (by assumption) rfl ?_ | refine st_load_r rfl rfl ?_ | refine a_cmp rfl rfl rfl ?_ | refine a_eqi rfl rfl ?_ | refine st_not rfl ?_ | refine st_pick_t rfl rfl rfl ?_ | refine st_pick_f rfl rfl rfl ?_ | refine st_g rfl ?_ | refine a_gtf rfl ?_ | refine a_gft rfl ?_ | refine a_gu rfl ?_ | refine a_mklist (ec rfl en) (mz mkn) ?_ | refine a_mid ?_)
        refine a_app (f := eInt .i64) (rw_ := pr) (ys := [(k : Int)]) (L := []) (enc_int .i64).w rfl rfl hpo s6 (by simp; omega) (fun pr' h6 hl1 hr1 s7 => ?_)
        repeat (first | refine a_op (fun _ => rfl) ?_ | refine a_load rfl (by assumption) rfl ?_ | refine a_load_at rfl (by assumption) (by assumption) ?_ | refine a_iaddr_at rfl rfl (by assumption) ?_ | refine a_iaddr_l rfl rfl (by assumption) rfl ?_ | refine st_load_r rfl rfl ?_ | refine a_cmp rfl rfl rfl ?_ | refine a_eqi rfl rfl ?_ | refine st_not rfl ?_ | refine st_pick_t rfl rfl rfl ?_ | refine st_pick_f rfl rfl rfl ?_ | refine st_g rfl ?_ | refine a_gtf rfl ?_ | refine a_gft rfl ?_ | refine a_gu rfl ?_ | refine a_mklist (ec rfl en) (mz mkn) ?_ | refine a_mid ?_)
        first | refine a_endq (by repeat (first | exact pr_nil | (apply pr_cons; rfl))) ?_ | refine a_end (by repeat (first | exact pr_nil | (apply pr_cons; rfl))) ?_
        refine s_reg ?_
        repeat (first | refine a_op (fun _ => rfl) ?_ | refine a_load rfl (by assumption) rfl ?_ | refine a_load_at rfl (by assumption) (by assumption) ?_ | refine a_iaddr_at rfl rfl (by assumption) ?_ | refine a_iaddr_l rfl rfl (by assumption) rfl ?_ | refine st_load_r rfl rfl ?_ | refine a_cmp rfl rfl rfl ?_ | refine a_eqi rfl rfl ?_ | refine st_not rfl ?_ | refine st_pick_t rfl rfl rfl ?_ | refine st_pick_f rfl rfl rfl ?_ | refine st_g rfl ?_ | refine a_gtf rfl ?_ | refine a_gft rfl ?_ | refine a_gu rfl ?_ | refine a_mklist (ec rfl en) (mz mkn) ?_ | refine a_mid ?_)
        refine a_add rfl rfl (by first | omega | (dsimp only; omega)) ?_
        repeat (first | refine a_op (fun _ => rfl) ?_ | refine a_load rfl (by assumption) rfl ?_ | refine a_load_at rfl (by assumption) (by assumption) ?_ | refine a_iaddr_at rfl rfl (by assumption) ?_ | refine a_iaddr_l rfl rfl (by assumption) rfl ?_ | refine st_load_r rfl rfl ?_ | refine a_cmp rfl rfl rfl ?_ | refine a_eqi rfl rfl ?_ | refine st_not rfl ?_ | refine st_pick_t rfl rfl rfl ?_ | refine st_pick_f rfl rfl rfl ?_ | refine st_g rfl ?_ | refine a_gtf rfl ?_ | refine a_gft rfl ?_ | refine a_gu rfl ?_ | refine a_mklist (ec rfl en) (mz mkn) ?_ | refine a_mid ?_)
        first | refine a_endq (by repeat (first | exact pr_nil | (apply pr_cons; rfl))) ?_ | refine a_end (by repeat (first | exact pr_nil | (apply pr_cons; rfl))) ?_
        refine lo_n ⟨(k + 1, pr', h6), hkl, hr1, ?_, s7⟩ (by show coins.length - (k + 1) < coins.length - k; omega) (WeakF.refl _ _)
        show pr'.l = peersUp (k + 1) i
        rw [peersUp_succ, if_neg hne, hl1, hpl]
      · have hne : (k : Int) = i := by simpa using hne
        refine sc_skip (bl_n (sq_n (s_reg ?_)))
        repeat (first | refine a_op (fun _ => rfl) ?_ | refine a_load rfl (by assumption) rfl ?_ | refine a_load_at rfl (by assumption) (by assumption) ?_ | refine a_iaddr_at rfl rfl (by assumption) ?_ | refine a_iaddr_l rfl rfl (by assumption) rfl ?_ | refine st_load_r rfl rfl ?_ | refine a_cmp rfl rfl rfl ?_ | refine a_eqi rfl rfl ?_ | refine st_not rfl ?_ | refine st_pick_t rfl rfl rfl ?_ | refine st_pick_f rfl rfl rfl ?_ | refine st_g rfl ?_ | refine a_gtf rfl ?_ | refine a_gft rfl ?_ | refine a_gu rfl ?_ | refine a_mklist (ec rfl en) (mz mkn) ?_ | refine a_mid ?_)
        refine a_add rfl rfl (by first | omega | (dsimp only; omega)) ?_
        repeat (first | refine a_op (fun _ => rfl) ?_ | refine a_load rfl (by assumption) rfl ?_ | refine a_load_at rfl (by assumption) (by assumption) ?_ | refine a_iaddr_at rfl rfl (by assumption) ?_ | refine a_iaddr_l rfl rfl (by assumption) rfl ?_ | refine st_load_r rfl rfl ?_ | refine a_cmp rfl rfl rfl ?_ | refine a_eqi rfl rfl ?_ | refine st_not rfl ?_ | refine st_pick_t rfl rfl rfl ?_ | refine st_pick_f rfl rfl rfl ?_ | refine st_g rfl ?_ | refine a_gtf rfl ?_ | refine a_gft rfl ?_ | refine a_gu rfl ?_ | refine a_mklist (ec rfl en) (mz mkn) ?_ | refine a_mid ?_)
        first | refine a_endq (by repeat (first | exact pr_nil | (apply pr_cons; rfl))) ?_ | refine a_end (by repeat (first | exact pr_nil | (apply pr_cons; rfl))) ?_
        refine lo_n ⟨(k + 1, pr, h5), hkl, hpo, ?_, s6⟩ (by show coins.length - (k + 1) < coins.length - k; omega) (WeakF.refl _ _)
        show pr.l = peersUp (k + 1) i
        rw [peersUp_succ, if_pos hne, hpl]
    · have hkl : ¬ k < coins.length := by have := of_decide_eq_false hz; dsimp only at this; rw [List.length_map] at this; omega
      have hkn : k = coins.length := by omega
      subst hkn
      have hpe : pr.l = peersF coins.length i := hpl
      obtain ⟨hp8, hpn⟩ := peersF_facts coins.length i hc8
      refine sc_exit (sq_x (lo_x (bl_x (sq_n (q_reg ?_)))))
      repeat (first | refine a_op (fun _ => rfl) ?_ | refine a_load rfl (by assumption) rfl ?_ | refine a_load_at rfl (by assumption) (by assumption) ?_ | refine a_iaddr_at rfl rfl (by assumption) ?_ | refine a_iaddr_l rfl rfl (by assumption) rfl ?_ | refine st_load_r rfl rfl ?_ | refine a_cmp rfl rfl rfl ?_ | refine a_eqi rfl rfl ?_ | refine st_not rfl ?_ | refine st_pick_t rfl rfl rfl ?_ | refine st_pick_f rfl rfl rfl ?_ | refine st_g rfl ?_ | refine a_gtf rfl ?_ | refine a_gft rfl ?_ | refine a_gu rfl ?_ | refine a_mklist (ec rfl en) (mz mkn) ?_ | refine a_mid ?_)
      refine a_call (ec rfl en) (r20 (l := pr.l) (by rw [hpe]; exact hp8) (by rw [hpe]; exact hpn) (s6.sub (List.sublist_append_right pr.lay _)) (fun h6 ns hns hna s7 => ?_))
      repeat (first | refine a_op (fun _ => rfl) ?_ | refine a_load rfl (by assumption) rfl ?_ | refine a_load_at rfl (by assumption) (by assumption) ?_ | refine a_iaddr_at rfl rfl (by assumption) ?_ | refine a_iaddr_l rfl rfl (by assumption) rfl ?_ | refine st_load_r rfl rfl ?_ | refine a_cmp rfl rfl rfl ?_ | refine a_eqi rfl rfl ?_ | refine st_not rfl ?_ | refine st_pick_t rfl rfl rfl ?_ | refine st_pick_f rfl rfl rfl ?_ | refine st_g rfl ?_ | refine a_gtf rfl ?_ | refine a_gft rfl ?_ | refine a_gu rfl ?_ | refine a_mklist (ec rfl en) (mz mkn) ?_ | refine a_mid ?_)
      first | refine a_endq (by repeat (first | exact pr_nil | (apply pr_cons; rfl))) ?_ | refine a_end (by repeat (first | exact pr_nil | (apply pr_cons; rfl))) ?_
      have s8 : Sep h6 ((⟨p, c, m, coins, GM.nil, sd⟩ : PT).lay ++ (ns.lay ++ [(0, shot0)])) := Sep.front s7
      have gp : h6[p]? = some (PT.obj ⟨p, c, m, coins, GM.nil, sd⟩) := s8.get (by simp [PT.lay])
      have hsdl : sd.l.length = i := by have := congrArg List.length hsa; simpa using this
      refine s_reg ?_
      repeat (first | refine a_op (fun _ => rfl) ?_ | refine a_load rfl (by assumption) rfl ?_ | refine a_load_at rfl (by assumption) (by assumption) ?_ | refine a_iaddr_at rfl rfl (by assumption) ?_ | refine a_iaddr_l rfl rfl (by assumption) rfl ?_ | refine st_load_r rfl rfl ?_ | refine a_cmp rfl rfl rfl ?_ | refine a_eqi rfl rfl ?_ | refine st_not rfl ?_ | refine st_pick_t rfl rfl rfl ?_ | refine st_pick_f rfl rfl rfl ?_ | refine st_g rfl ?_ | refine a_gtf rfl ?_ | refine a_gft rfl ?_ | refine a_gu rfl ?_ | refine a_mklist (ec rfl en) (mz mkn) ?_ | refine a_mid ?_)
      refine a_app (f := sp_) (rw_ := sd) (ys := [ns]) (L := [(p, PT.obj ⟨p, c, m, coins, GM.nil, sd⟩), (c, coinO coins), (m, (GM.nil : GM Key (RW Item)).obj eKey (RW.hv eItem))]) (R := sd.l.flatMap PS.lay ++ (ns.lay ++ [(0, shot0)])) encw_sp rfl rfl hso (by simpa [PT.lay, mlay, GM.nil] using s8) (by simp; omega) (fun sd' h7 hl1 hr1 s9 => ?_)
      have gp : h7[p]? = some (PT.obj ⟨p, c, m, coins, GM.nil, sd⟩) := s9.get (by simp)
      repeat (first | refine a_op (fun _ => rfl) ?_ | refine a_load rfl (by assumption) rfl ?_ | refine a_load_at rfl (by assumption) (by assumption) ?_ | refine a_iaddr_at rfl rfl (by assumption) ?_ | refine a_iaddr_l rfl rfl (by assumption) rfl ?_ | refine st_load_r rfl rfl ?_ | refine a_cmp rfl rfl rfl ?_ | refine a_eqi rfl rfl ?_ | refine st_not rfl ?_ | refine st_pick_t rfl rfl rfl ?_ | refine st_pick_f rfl rfl rfl ?_ | refine st_g rfl ?_ | refine a_gtf rfl ?_ | refine a_gft rfl ?_ | refine a_gu rfl ?_ | refine a_mklist (ec rfl en) (mz mkn) ?_ | refine a_mid ?_)
      refine a_store rfl rfl gp ⟨rfl, lb rfl, rfl⟩ ?_
      repeat (first | refine a_op (fun _ => rfl) ?_ | refine a_load rfl (by assumption) rfl ?_ | refine a_load_at rfl (by assumption) (by assumption) ?_ | refine a_iaddr_at rfl rfl (by assumption) ?_ | refine a_iaddr_l rfl rfl (by assumption) rfl ?_ | refine st_load_r rfl rfl ?_ | refine a_cmp rfl rfl rfl ?_ | refine a_eqi rfl rfl ?_ | refine st_not rfl ?_ | refine st_pick_t rfl rfl rfl ?_ | refine st_pick_f rfl rfl rfl ?_ | refine st_g rfl ?_ | refine a_gtf rfl ?_ | refine a_gft rfl ?_ | refine a_gu rfl ?_ | refine a_mklist (ec rfl en) (mz mkn) ?_ | refine a_mid ?_)
      first | refine a_endq (by repeat (first | exact pr_nil | (apply pr_cons; rfl))) ?_ | refine a_end (by repeat (first | exact pr_nil | (apply pr_cons; rfl))) ?_
      refine s_reg ?_
      repeat (first | refine a_op (fun _ => rfl) ?_ | refine a_load rfl (by assumption) rfl ?_ | refine a_load_at rfl (by assumption) (by assumption) ?_ | refine a_iaddr_at rfl rfl (by assumption) ?_ | refine a_iaddr_l rfl rfl (by assumption) rfl ?_ | refine st_load_r rfl rfl ?_ | refine a_cmp rfl rfl rfl ?_ | refine a_eqi rfl rfl ?_ | refine st_not rfl ?_ | refine st_pick_t rfl rfl rfl ?_ | refine st_pick_f rfl rfl rfl ?_ | refine st_g rfl ?_ | refine a_gtf rfl ?_ | refine a_gft rfl ?_ | refine a_gu rfl ?_ | refine a_mklist (ec rfl en) (mz mkn) ?_ | refine a_mid ?_)
      refine a_add rfl rfl (by first | omega | (dsimp only; omega)) ?_
      repeat (first | refine a_op (fun _ => rfl) ?_ | refine a_load rfl (by assumption) rfl ?_ | refine a_load_at rfl (by assumption) (by assumption) ?_ | refine a_iaddr_at rfl rfl (by assumption) ?_ | refine a_iaddr_l rfl rfl (by assumption) rfl ?_ | refine st_load_r rfl rfl ?_ | refine a_cmp rfl rfl rfl ?_ | refine a_eqi rfl rfl ?_ | refine st_not rfl ?_ | refine st_pick_t rfl rfl rfl ?_ | refine st_pick_f rfl rfl rfl ?_ | refine st_g rfl ?_ | refine a_gtf rfl ?_ | refine a_gft rfl ?_ | refine a_gu rfl ?_ | refine a_mklist (ec rfl en) (mz mkn) ?_ | refine a_mid ?_)
      first | refine a_endq (by repeat (first | exact pr_nil | (apply pr_cons; rfl))) ?_ | refine a_end (by repeat (first | exact pr_nil | (apply pr_cons; rfl))) ?_
      refine lo_n ⟨(i + 1, sd', _), hil, hr1, ?_, ?_, ?_⟩ (by show coins.length - (i + 1) < coins.length - i; omega) (WeakF.refl _ _)
      · intro s hs
        rw [hl1] at hs
        rcases List.mem_append.1 hs with hs | hs
        · exact hsok s hs
        · rw [List.mem_singleton.1 hs]; exact hns
      · show sd'.l.map PS.abs = (List.range (i + 1)).map (newSd coins.length)
        rw [hl1, List.map_append, hsa, List.range_succ, List.map_append]
        congr 1
        simp only [List.map_cons, List.map_nil, hna, hpe]
        rfl
      · have s10 := Sep.set (A := []) s9 (PT.obj ⟨p, c, m, coins, GM.nil, sd'⟩)
        have e0 : mlay (GM.nil : GM Key (RW Item)) = [] := rfl
        show Sep (h7.set p (PT.obj ⟨p, c, m, coins, GM.nil, sd'⟩)) _
        simp only [PT.lay, e0, hl1, List.flatMap_append, List.flatMap_cons, List.flatMap_nil, List.append_nil, List.nil_append]
        simpa [List.append_assoc] using s10
  · have hil : ¬ i < coins.length := by have := of_decide_eq_false hz; dsimp only at this; rw [List.length_map] at this; omega
    have hin : i = coins.length := by omega
    subst hin
    have ok0 : (⟨p, c, m, coins, GM.nil, sd⟩ : PT).ok 0 := ⟨fun q hq => by simp [GM.nil] at hq, GM.nil_wf, by simp [GM.stamps, GM.nil], hsok, hc8⟩
    have ha0 : (⟨p, c, m, coins, GM.nil, sd⟩ : PT).abs = tw0 coins := by
      show (⟨coins, GM.nil, sd.l.map PS.abs⟩ : Tw) = _
      rw [hsa]
      rfl
    refine sc_exit (sq_x (lo_x (bl_x (sq_n (sc_seq (q_reg ?_))))))
    repeat (first | refine a_op (fun _ => rfl) ?_ | refine a_load rfl (by assumption) rfl ?_ | refine a_load_at rfl (by assumption) (by assumption) ?_ | refine a_iaddr_at rfl rfl (by assumption) ?_ | refine a_iaddr_l rfl rfl (by assumption) rfl ?_ | refine st_load_r rfl rfl ?_ | refine a_cmp rfl rfl rfl ?_ | refine a_eqi rfl rfl ?_ | refine st_not rfl ?_ | refine st_pick_t rfl rfl rfl ?_ | refine st_pick_f rfl rfl rfl ?_ | refine st_g rfl ?_ | refine a_gtf rfl ?_ | refine a_gft rfl ?_ | refine a_gu rfl ?_ | refine a_mklist (ec rfl en) (mz mkn) ?_ | refine a_mid ?_)
    first | refine a_endq (by repeat (first | exact pr_nil | (apply pr_cons; rfl))) ?_ | refine a_end (by repeat (first | exact pr_nil | (apply pr_cons; rfl))) ?_
    refine sc_block (sc_loop (X := { x : Nat × PT × Heap // x.1 ≤ deeds.length ∧ x.2.1.p = p ∧ x.2.1.ok (8 * x.1) ∧ x.2.1.abs = runF coins (deeds.take x.1) ∧ Sep x.2.2 (x.2.1.lay ++ [(0, shot0)]) })
      (fun x => ([(4, .ptr 0 0), (6, .ptr p 0), (72, ln eGMark_Deed deeds), (73, ii (deeds.map eGMark_Deed).length), (74, ii x.1.1)], x.1.2.2)) (fun x => deeds.length - x.1.1)
      ⟨(0, ⟨p, c, m, coins, GM.nil, sd⟩, h4), Nat.zero_le _, rfl, ok0, ha0, s5⟩ (WeakF.refl _ _) ?_)
    rintro ⟨⟨k, T, h5⟩, hk, hTp, hTok, hTa, s6⟩
    simp only at hk hTp hTok hTa s6
    have hg := hgood k hk
    rw [← hTa] at hg
    have gco : T.coins.length = coins.length := hg.coins
    have gsi : T.sides.l.length = coins.length := by have := hg.sides; simpa [PT.abs] using this
    have gib : ∀ q ∈ T.g.es, ∀ x ∈ q.2.2.l, -1000000000 ≤ x.n ∧ x.n ≤ 1000000000 := fun q hq => hg.ib (q.1, q.2.1, q.2.2.l) (List.mem_map.2 ⟨q, hq, rfl⟩)
    have ges : T.g.es.length ≤ 1000 := by have := hg.es; simpa [PT.abs, gmap] using this
    refine q_reg ?_
    repeat (first | refine a_op (fun _ => rfl) ?_ | refine a_load rfl (by assumption) rfl ?_ | refine a_load_at rfl (by assumption) (by assumption) ?_ | refine a_iaddr_at rfl rfl (by assumption) ?_ | refine a_iaddr_l rfl rfl (by assumption) rfl ?_ | refine st_load_r rfl rfl ?_ | refine a_cmp rfl rfl rfl ?_ | refine a_eqi rfl rfl ?_ | refine st_not rfl ?_ | refine st_pick_t rfl rfl rfl ?_ | refine st_pick_f rfl rfl rfl ?_ | refine st_g rfl ?_ | refine a_gtf rfl ?_ | refine a_gft rfl ?_ | refine a_gu rfl ?_ | refine a_mklist (ec rfl en) (mz mkn) ?_ | refine a_mid ?_)
    first | refine a_endq (by repeat (first | exact pr_nil | (apply pr_cons; rfl))) ?_ | refine a_end (by repeat (first | exact pr_nil | (apply pr_cons; rfl))) ?_
    refine sc_seq (sc_cond rfl (fun hz => ?_) (fun hz => ?_))
    · have hkl : k < deeds.length := by have := of_decide_eq_true hz; dsimp only at this; rw [List.length_map] at this; omega
      obtain ⟨⟨kd, f, t, nn⟩, hdk⟩ : ∃ x, deeds[k]? = some x := ⟨_, List.getElem?_eq_getElem hkl⟩
      have hdo := hok _ (List.mem_of_getElem? hdk)
      obtain ⟨hkind, ⟨f0, f1⟩, ⟨t0, t1⟩, hnum⟩ := hdo
      simp only at hkind f0 f1 t0 t1 hnum
      obtain ⟨a, rfl⟩ : ∃ a : Nat, f = a := ⟨f.toNat, by omega⟩
      obtain ⟨b, rfl⟩ : ∃ b : Nat, t = b := ⟨t.toNat, by omega⟩
      have hstep : runF coins (deeds.take (k + 1)) = doF T.abs kd a b nn := by
        rw [hTa]
        unfold runF
        rw [List.take_add_one, hdk, Option.toList_some, List.foldl_append]
        rfl
      refine sc_skip (sq_n (sc_seq (sc_block (q_reg ?_))))
      repeat (first | refine a_op (fun _ => rfl) ?_ | refine a_load rfl (by assumption) rfl ?_ | refine a_load_at rfl (by assumption) (by assumption) ?_ | refine a_iaddr_at rfl rfl (by assumption) ?_ | refine a_iaddr_l rfl rfl (by assumption) rfl ?_ | refine st_load_r rfl rfl ?_ | refine a_cmp rfl rfl rfl ?_ | refine a_eqi rfl rfl ?_ | refine st_not rfl ?_ | refine st_pick_t rfl rfl rfl ?_ | refine st_pick_f rfl rfl rfl ?_ | refine st_g rfl ?_ | refine a_gtf rfl ?_ | refine a_gft rfl ?_ | refine a_gu rfl ?_ | refine a_mklist (ec rfl en) (mz mkn) ?_ | refine a_mid ?_)
      refine a_alloc ?_
      refine a_store rfl rfl (List.getElem?_concat_length) ⟨rfl, lb rfl, rfl⟩ ?_
      repeat (first | refine a_op (fun _ => rfl) ?_ | refine a_load rfl (by assumption) rfl ?_ | refine a_load_at rfl (by assumption) (by assumption) ?_ | refine a_iaddr_at rfl rfl (by assumption) ?_ | refine a_iaddr_l rfl rfl (by assumption) rfl ?_ | refine st_load_r rfl rfl ?_ | refine a_cmp rfl rfl rfl ?_ | refine a_eqi rfl rfl ?_ | refine st_not rfl ?_ | refine st_pick_t rfl rfl rfl ?_ | refine st_pick_f rfl rfl rfl ?_ | refine st_g rfl ?_ | refine a_gtf rfl ?_ | refine a_gft rfl ?_ | refine a_gu rfl ?_ | refine a_mklist (ec rfl en) (mz mkn) ?_ | refine a_mid ?_)
      first | refine a_endq (by repeat (first | exact pr_nil | (apply pr_cons; rfl))) ?_ | refine a_end (by repeat (first | exact pr_nil | (apply pr_cons; rfl))) ?_
      have s7 := Sep.set (A := []) (s6.new (.cells [ii 0, ii 0, ii 0, ii 0])) (.cells [ii kd, ii (a : Int), ii (b : Int), ii nn])
      change SC _ _ _ _ _ [(4, .ptr 0 0), (6, .ptr p 0), (14, .ptr h5.length 0), (72, ln eGMark_Deed deeds), (73, ii (deeds.map eGMark_Deed).length), (74, ii (k : Int))] ((h5 ++ [HObj.cells [ii 0, ii 0, ii 0, ii 0]]).set h5.length (.cells [ii kd, ii (a : Int), ii (b : Int), ii nn]))
      generalize h5.length = o5 at s7 ⊢
      generalize (h5 ++ [HObj.cells [ii 0, ii 0, ii 0, ii 0]]).set o5 (.cells [ii kd, ii (a : Int), ii (b : Int), ii nn]) = h6 at s7 ⊢
      simp only [List.nil_append] at s7
      have g5 : h6[o5]? = some (.cells [ii kd, ii (a : Int), ii (b : Int), ii nn]) := s7.get (by simp)
      refine s_reg ?_
      repeat (first | refine a_op (fun _ => rfl) ?_ | refine a_load rfl (by assumption) rfl ?_ | refine a_load_at rfl (by assumption) (by assumption) ?_ | refine a_iaddr_at rfl rfl (by assumption) ?_ | refine a_iaddr_l rfl rfl (by assumption) rfl ?_ | refine st_load_r rfl rfl ?_ | refine a_cmp rfl rfl rfl ?_ | refine a_eqi rfl rfl ?_ | refine st_not rfl ?_ | refine st_pick_t rfl rfl rfl ?_ | refine st_pick_f rfl rfl rfl ?_ | refine st_g rfl ?_ | refine a_gtf rfl ?_ | refine a_gft rfl ?_ | refine a_gu rfl ?_ | refine a_mklist (ec rfl en) (mz mkn) ?_ | refine a_mid ?_)
      refine a_call (ec rfl (ec rfl en)) (r60p (T := T) hTp (a := a) (b := b) (kd := kd) (nn := nn) (R := [(0, shot0)]) hTok (by omega) (by omega) (by omega) (by omega) hkind hnum hg.cb gib (s7.sub (List.sublist_cons_self _ _)) (fun h7 T' e1 ok' hab s8 => ?_))
      repeat (first | refine a_op (fun _ => rfl) ?_ | refine a_load rfl (by assumption) rfl ?_ | refine a_load_at rfl (by assumption) (by assumption) ?_ | refine a_iaddr_at rfl rfl (by assumption) ?_ | refine a_iaddr_l rfl rfl (by assumption) rfl ?_ | refine st_load_r rfl rfl ?_ | refine a_cmp rfl rfl rfl ?_ | refine a_eqi rfl rfl ?_ | refine st_not rfl ?_ | refine st_pick_t rfl rfl rfl ?_ | refine st_pick_f rfl rfl rfl ?_ | refine st_g rfl ?_ | refine a_gtf rfl ?_ | refine a_gft rfl ?_ | refine a_gu rfl ?_ | refine a_mklist (ec rfl en) (mz mkn) ?_ | refine a_mid ?_)
      first | refine a_endq (by repeat (first | exact pr_nil | (apply pr_cons; rfl))) ?_ | refine a_end (by repeat (first | exact pr_nil | (apply pr_cons; rfl))) ?_
      refine s_reg ?_
      repeat (first | refine a_op (fun _ => rfl) ?_ | refine a_load rfl (by assumption) rfl ?_ | refine a_load_at rfl (by assumption) (by assumption) ?_ | refine a_iaddr_at rfl rfl (by assumption) ?_ | refine a_iaddr_l rfl rfl (by assumption) rfl ?_ | refine st_load_r rfl rfl ?_ | refine a_cmp rfl rfl rfl ?_ | refine a_eqi rfl rfl ?_ | refine st_not rfl ?_ | refine st_pick_t rfl rfl rfl ?_ | refine st_pick_f rfl rfl rfl ?_ | refine st_g rfl ?_ | refine a_gtf rfl ?_ | refine a_gft rfl ?_ | refine a_gu rfl ?_ | refine a_mklist (ec rfl en) (mz mkn) ?_ | refine a_mid ?_)
      refine a_add rfl rfl (by first | omega | (dsimp only; omega)) ?_
      repeat (first | refine a_op (fun _ => rfl) ?_ | refine a_load rfl (by assumption) rfl ?_ | refine a_load_at rfl (by assumption) (by assumption) ?_ | refine a_iaddr_at rfl rfl (by assumption) ?_ | refine a_iaddr_l rfl rfl (by assumption) rfl ?_ | refine st_load_r rfl rfl ?_ | refine a_cmp rfl rfl rfl ?_ | refine a_eqi rfl rfl ?_ | refine st_not rfl ?_ | refine st_pick_t rfl rfl rfl ?_ | refine st_pick_f rfl rfl rfl ?_ | refine st_g rfl ?_ | refine a_gtf rfl ?_ | refine a_gft rfl ?_ | refine a_gu rfl ?_ | refine a_mklist (ec rfl en) (mz mkn) ?_ | refine a_mid ?_)
      first | refine a_endq (by repeat (first | exact pr_nil | (apply pr_cons; rfl))) ?_ | refine a_end (by repeat (first | exact pr_nil | (apply pr_cons; rfl))) ?_
      exact lo_n ⟨(k + 1, T', h7), hkl, e1.trans hTp, ok', hab.trans hstep.symm, s8⟩ (by show deeds.length - (k + 1) < deeds.length - k; omega) (WeakF.refl _ _)
    · have hkl : ¬ k < deeds.length := by have := of_decide_eq_false hz; dsimp only at this; rw [List.length_map] at this; omega
      have hkn : k = deeds.length := by omega
      subst hkn
      rw [List.take_length] at hTa
      refine sc_exit (sq_x (lo_x (bl_x (sq_n (q_reg ?_)))))
      repeat (first | refine a_op (fun _ => rfl) ?_ | refine a_load rfl (by assumption) rfl ?_ | refine a_load_at rfl (by assumption) (by assumption) ?_ | refine a_iaddr_at rfl rfl (by assumption) ?_ | refine a_iaddr_l rfl rfl (by assumption) rfl ?_ | refine st_load_r rfl rfl ?_ | refine a_cmp rfl rfl rfl ?_ | refine a_eqi rfl rfl ?_ | refine st_not rfl ?_ | refine st_pick_t rfl rfl rfl ?_ | refine st_pick_f rfl rfl rfl ?_ | refine st_g rfl ?_ | refine a_gtf rfl ?_ | refine a_gft rfl ?_ | refine a_gu rfl ?_ | refine a_mklist (ec rfl en) (mz mkn) ?_ | refine a_mid ?_)
      refine a_call (ec rfl en) (r61p hTp hTok (by omega) (by intro h0; rw [h0] at gco; exact hc0 (List.eq_nil_of_length_eq_zero gco.symm)) ges gib (by omega) s6 (fun h6 t1 t2 s7 => ?_))
      have g0 : h6[0]? = some shot0 := s7.get (by simp)
      refine a_store rfl rfl g0 ⟨rfl, lb rfl, rfl⟩ ?_
      repeat (first | refine a_op (fun _ => rfl) ?_ | refine a_load rfl (by assumption) rfl ?_ | refine a_load_at rfl (by assumption) (by assumption) ?_ | refine a_iaddr_at rfl rfl (by assumption) ?_ | refine a_iaddr_l rfl rfl (by assumption) rfl ?_ | refine st_load_r rfl rfl ?_ | refine a_cmp rfl rfl rfl ?_ | refine a_eqi rfl rfl ?_ | refine st_not rfl ?_ | refine st_pick_t rfl rfl rfl ?_ | refine st_pick_f rfl rfl rfl ?_ | refine st_g rfl ?_ | refine a_gtf rfl ?_ | refine a_gft rfl ?_ | refine a_gu rfl ?_ | refine a_mklist (ec rfl en) (mz mkn) ?_ | refine a_mid ?_)
      first | refine a_endq (by repeat (first | exact pr_nil | (apply pr_cons; rfl))) ?_ | refine a_end (by repeat (first | exact pr_nil | (apply pr_cons; rfl))) ?_
      have s8 := Sep.set (A := []) s7 (.cells [.bool (shotF T.abs).Done, .list ((shotF T.abs).States.map (eInt .i64)) t1, .list ((shotF T.abs).Ways.map e2) t2, ln (eInt .i64) (shotF T.abs).Now, ii (shotF T.abs).Left])
      change SC _ _ _ _ _ [(4, HV.ptr 0 0), (5, ii 0)] (h6.set 0 (.cells [.bool (shotF T.abs).Done, .list ((shotF T.abs).States.map (eInt .i64)) t1, .list ((shotF T.abs).Ways.map e2) t2, ln (eInt .i64) (shotF T.abs).Now, ii (shotF T.abs).Left]))
      generalize h6.set 0 _ = h7 at s8 ⊢
      have g7 : h7[0]? = some (.cells [.bool (shotF T.abs).Done, .list ((shotF T.abs).States.map (eInt .i64)) t1, .list ((shotF T.abs).Ways.map e2) t2, ln (eInt .i64) (shotF T.abs).Now, ii (shotF T.abs).Left]) := s8.get (by simp)
      refine sc_ret (gr (g := zg38) (ho := fun _ => []) (a := (shotF T.abs, 0)) [.agg [.bool (shotF T.abs).Done, .list ((shotF T.abs).States.map (eInt .i64)) t1, .list ((shotF T.abs).Ways.map e2) t2, ln (eInt .i64) (shotF T.abs).Now, ii (shotF T.abs).Left], ii 0] [eGMark_Shot (shotF T.abs), ii 0] (by rw [hTa]) (.inr rfl) (weak_ren [] (by simp) (by decide) ro_nil (re_cons1 rfl rnI (re_cons rfl rnI re_nil))) ?_ rfl rfl)
      simp [resVals2, resVal, Env.get, Heap.cells, g7, atCells]
end Go.Hw.VK

