import Derived.Test.YtonoaimefgodfaaHwMkR
set_option linter.unusedVariables false
set_option linter.unusedSimpArgs false
namespace Go.Hw.VK
open Go Go.Proofs


structure Sd where
  peers : List Int
  begun : Bool
  state : Int
  ways : List (List Int)
  over : List Bool
def PS.abs (s : PS) : Sd := ⟨s.peers, s.begun, s.state, s.ways.map RW.l, s.over⟩
def msgF (s : Sd) (from_ n : Int) : Sd × Int :=
  if idxI s.peers from_ < 0 then (s, 4) else if !s.begun || s.over.getD (idxI s.peers from_).toNat false then (s, 0)
  else if (s.ways.getD (idxI s.peers from_).toNat []).length = 200 then (s, 6)
  else ({ s with ways := s.ways.set (idxI s.peers from_).toNat (s.ways.getD (idxI s.peers from_).toNat [] ++ [n]) }, 0)
structure PS.same (s t : PS) : Prop where
  id : t.id = s.id
theorem r21 {h : Heap} {R : Lay} {s : PS} (ok : s.ok) {f n : Int} (hs : Sep h (s.lay ++ R)) {Q : HV → Heap → Prop}
    (kk : ∀ h' s', s'.ok → s.same s' → s'.abs = (msgF s.abs f n).1 → Sep h' (s'.lay ++ R) → Q (ii (msgF s.abs f n).2) h') : HCalls Try.prog 21 [.ptr s.id 0, ii f, ii n] h Q := by
  refine sc_func2 (rs := [.t 6]) Try.func21 rfl (by decide) (by kernel_rfl) (lb rfl) hk21 ?_
  have h1 : h[s.id]? = some s.obj := hs.get (by simp [PS.lay])
  have h2 : h[s.oid]? = some (overO s.over) := hs.get (by simp [PS.lay])
  have h3 : h[s.wid]? = some (wayO s.ways) := hs.get (by simp [PS.lay])
  show SC Try.prog Try.f21.ntmps _ hc21 _ [(0, .ptr s.id 0), (1, ii f), (2, ii n)] h
  unfold hc21
  refine q_reg ?_
  repeat (first | refine a_op (fun _ => rfl) ?_ | refine a_load rfl (by assumption) rfl ?_ | refine a_load_at rfl (by assumption) (by assumption) ?_ | refine a_iaddr_at rfl rfl (by assumption) ?_ | refine a_iaddr_l rfl rfl (by assumption) rfl ?_ | refine st_load_r rfl rfl ?_ | refine a_cmp rfl rfl rfl ?_ | refine a_eqi rfl rfl ?_ | refine st_not rfl ?_ | refine st_pick_t rfl rfl rfl ?_ | refine st_pick_f rfl rfl rfl ?_ | refine st_g rfl ?_ | refine a_gtf rfl ?_ | refine a_gft rfl ?_ | refine a_gu rfl ?_ | refine a_mklist (ec rfl en) (mz mkn) ?_ | refine a_mid ?_)
  first | refine a_endq (by repeat (first | exact pr_nil | (apply pr_cons; rfl))) ?_ | refine a_end (by repeat (first | exact pr_nil | (apply pr_cons; rfl))) ?_
  refine q_reg ?_
  repeat (first | refine a_op (fun _ => rfl) ?_ | refine a_load rfl (by assumption) rfl ?_ | refine a_load_at rfl (by assumption) (by assumption) ?_ | refine a_iaddr_at rfl rfl (by assumption) ?_ | refine a_iaddr_l rfl rfl (by assumption) rfl ?_ | refine st_load_r rfl rfl ?_ | refine a_cmp rfl rfl rfl ?_ | refine a_eqi rfl rfl ?_ | refine st_not rfl ?_ | refine st_pick_t rfl rfl rfl ?_ | refine st_pick_f rfl rfl rfl ?_ | refine st_g rfl ?_ | refine a_gtf rfl ?_ | refine a_gft rfl ?_ | refine a_gu rfl ?_ | refine a_mklist (ec rfl en) (mz mkn) ?_ | refine a_mid ?_)
  refine a_call (ec rfl (ec rfl en)) ((s48 s.peers f (by have := ok.np; omega)).use ?_)
  repeat (first | refine a_op (fun _ => rfl) ?_ | refine a_load rfl (by assumption) rfl ?_ | refine a_load_at rfl (by assumption) (by assumption) ?_ | refine a_iaddr_at rfl rfl (by assumption) ?_ | refine a_iaddr_l rfl rfl (by assumption) rfl ?_ | refine st_load_r rfl rfl ?_ | refine a_cmp rfl rfl rfl ?_ | refine a_eqi rfl rfl ?_ | refine st_not rfl ?_ | refine st_pick_t rfl rfl rfl ?_ | refine st_pick_f rfl rfl rfl ?_ | refine st_g rfl ?_ | refine a_gtf rfl ?_ | refine a_gft rfl ?_ | refine a_gu rfl ?_ | refine a_mklist (ec rfl en) (mz mkn) ?_ | refine a_mid ?_)
  first | refine a_endq (by repeat (first | exact pr_nil | (apply pr_cons; rfl))) ?_ | refine a_end (by repeat (first | exact pr_nil | (apply pr_cons; rfl))) ?_
  refine sc_seq (q_reg ?_)
  repeat (first | refine a_op (fun _ => rfl) ?_ | refine a_load rfl (by assumption) rfl ?_ | refine a_load_at rfl (by assumption) (by assumption) ?_ | refine a_iaddr_at rfl rfl (by assumption) ?_ | refine a_iaddr_l rfl rfl (by assumption) rfl ?_ | refine st_load_r rfl rfl ?_ | refine a_cmp rfl rfl rfl ?_ | refine a_eqi rfl rfl ?_ | refine st_not rfl ?_ | refine st_pick_t rfl rfl rfl ?_ | refine st_pick_f rfl rfl rfl ?_ | refine st_g rfl ?_ | refine a_gtf rfl ?_ | refine a_gft rfl ?_ | refine a_gu rfl ?_ | refine a_mklist (ec rfl en) (mz mkn) ?_ | refine a_mid ?_)
  first | refine a_endq (by repeat (first | exact pr_nil | (apply pr_cons; rfl))) ?_ | refine a_end (by repeat (first | exact pr_nil | (apply pr_cons; rfl))) ?_
  refine sc_cond rfl (fun hb => ?_) (fun hb => ?_)
  · refine q_reg ?_
    repeat (first | refine a_op (fun _ => rfl) ?_ | refine a_load rfl (by assumption) rfl ?_ | refine a_load_at rfl (by assumption) (by assumption) ?_ | refine a_iaddr_at rfl rfl (by assumption) ?_ | refine a_iaddr_l rfl rfl (by assumption) rfl ?_ | refine st_load_r rfl rfl ?_ | refine a_cmp rfl rfl rfl ?_ | refine a_eqi rfl rfl ?_ | refine st_not rfl ?_ | refine st_pick_t rfl rfl rfl ?_ | refine st_pick_f rfl rfl rfl ?_ | refine st_g rfl ?_ | refine a_gtf rfl ?_ | refine a_gft rfl ?_ | refine a_gu rfl ?_ | refine a_mklist (ec rfl en) (mz mkn) ?_ | refine a_mid ?_)
    first | refine a_endq (by repeat (first | exact pr_nil | (apply pr_cons; rfl))) ?_ | refine a_end (by repeat (first | exact pr_nil | (apply pr_cons; rfl))) ?_
    refine sc_ret (sq_r (x_ret _ rfl ?_))
    have hb : idxI s.peers f < 0 := of_decide_eq_true hb
    have hM : msgF s.abs f n = (s.abs, 4) := by
      unfold msgF
      rw [show s.abs.peers = s.peers from rfl, if_pos hb]
    rw [hM] at kk
    exact kk h s ok ⟨rfl⟩ rfl hs
  have hb : ¬ idxI s.peers f < 0 := of_decide_eq_false hb
  obtain ⟨k, hk, _, hkl⟩ : ∃ k : Nat, idxI s.peers f = k ∧ s.peers[k]? = some f ∧ k < s.peers.length := by
    rcases idxI_cases s.peers f with ⟨h1, _⟩ | h1
    · omega
    · exact h1
  have hko : k < s.over.length := by have := ok.no; omega
  have hkw : k < s.ways.length := by have := ok.nw; omega
  have hkg : s.over[k]? = some s.over[k] := List.getElem?_eq_getElem hko
  have hkv : s.ways[k]? = some s.ways[k] := List.getElem?_eq_getElem hkw
  have hM : msgF s.abs f n = if (!s.begun || s.over[k]) then (s.abs, 0) else if (s.ways[k]).l.length = 200 then (s.abs, 6) else ({ s.abs with ways := s.abs.ways.set k ((s.ways[k]).l ++ [n]) }, 0) := by
    unfold msgF
    rw [show s.abs.peers = s.peers from rfl, if_neg hb, hk]
    simp [List.getD_eq_getElem?_getD, hkg, hkv, PS.abs]
  rw [hM] at kk
  simp only [zg48, hk]
  have hrow := ok.rows _ (List.getElem_mem hkw)
  have hlen := ok.lens _ (List.getElem_mem hkw)
  generalize s.over[k] = ov at hkg kk
  generalize s.ways[k] = r at hkv kk hrow hlen
  refine sc_skip (sq_n (sc_seq (q_reg ?_)))
  cases hbg : s.begun with
  | false =>
    have g1 : h[s.id]? = some (.cells [ln (eInt .i64) s.peers, .bool false, ii s.state, .arr s.wid 0 s.ways.length 1, .arr s.oid 0 s.over.length 1]) := by rw [← hbg]; exact h1
    clear h1
    repeat (first | refine a_op (fun _ => rfl) ?_ | refine a_load rfl (by assumption) rfl ?_ | refine a_load_at rfl (by assumption) (by assumption) ?_ | refine a_iaddr_at rfl rfl (by assumption) ?_ | refine a_iaddr_l rfl rfl (by assumption) rfl ?_ | refine st_load_r rfl rfl ?_ | refine a_cmp rfl rfl rfl ?_ | refine a_eqi rfl rfl ?_ | refine st_not rfl ?_ | refine st_pick_t rfl rfl rfl ?_ | refine st_pick_f rfl rfl rfl ?_ | refine st_g rfl ?_ | refine a_gtf rfl ?_ | refine a_gft rfl ?_ | refine a_gu rfl ?_ | refine a_mklist (ec rfl en) (mz mkn) ?_ | refine a_mid ?_)
    first | refine a_endq (by repeat (first | exact pr_nil | (apply pr_cons; rfl))) ?_ | refine a_end (by repeat (first | exact pr_nil | (apply pr_cons; rfl))) ?_
    refine s_cond_t rfl (q_reg ?_)
    repeat (first | refine a_op (fun _ => rfl) ?_ | refine a_load rfl (by assumption) rfl ?_ | refine a_load_at rfl (by assumption) (by assumption) ?_ | refine a_iaddr_at rfl rfl (by assumption) ?_ | refine a_iaddr_l rfl rfl (by assumption) rfl ?_ | refine st_load_r rfl rfl ?_ | refine a_cmp rfl rfl rfl ?_ | refine a_eqi rfl rfl ?_ | refine st_not rfl ?_ | refine st_pick_t rfl rfl rfl ?_ | refine st_pick_f rfl rfl rfl ?_ | refine st_g rfl ?_ | refine a_gtf rfl ?_ | refine a_gft rfl ?_ | refine a_gu rfl ?_ | refine a_mklist (ec rfl en) (mz mkn) ?_ | refine a_mid ?_)
    first | refine a_endq (by repeat (first | exact pr_nil | (apply pr_cons; rfl))) ?_ | refine a_end (by repeat (first | exact pr_nil | (apply pr_cons; rfl))) ?_
    refine sc_ret (sq_r (x_ret _ rfl ?_))
    rw [hbg] at kk
    exact kk h s ok ⟨rfl⟩ rfl hs
  | true =>
    have g1 : h[s.id]? = some (.cells [ln (eInt .i64) s.peers, .bool true, ii s.state, .arr s.wid 0 s.ways.length 1, .arr s.oid 0 s.over.length 1]) := by rw [← hbg]; exact h1
    clear h1
    repeat (first | refine a_op (fun _ => rfl) ?_ | refine a_load rfl (by assumption) rfl ?_ | refine a_load_at rfl (by assumption) (by assumption) ?_ | refine a_iaddr_at rfl rfl (by assumption) ?_ | refine a_iaddr_l rfl rfl (by assumption) rfl ?_ | refine st_load_r rfl rfl ?_ | refine a_cmp rfl rfl rfl ?_ | refine a_eqi rfl rfl ?_ | refine st_not rfl ?_ | refine st_pick_t rfl rfl rfl ?_ | refine st_pick_f rfl rfl rfl ?_ | refine st_g rfl ?_ | refine a_gtf rfl ?_ | refine a_gft rfl ?_ | refine a_gu rfl ?_ | refine a_mklist (ec rfl en) (mz mkn) ?_ | refine a_mid ?_)
    first | refine a_endq (by repeat (first | exact pr_nil | (apply pr_cons; rfl))) ?_ | refine a_end (by repeat (first | exact pr_nil | (apply pr_cons; rfl))) ?_
    refine sc_cond (t := ov) rfl (fun hov => ?_) (fun hov => ?_)
    · refine q_reg ?_
      repeat (first | refine a_op (fun _ => rfl) ?_ | refine a_load rfl (by assumption) rfl ?_ | refine a_load_at rfl (by assumption) (by assumption) ?_ | refine a_iaddr_at rfl rfl (by assumption) ?_ | refine a_iaddr_l rfl rfl (by assumption) rfl ?_ | refine st_load_r rfl rfl ?_ | refine a_cmp rfl rfl rfl ?_ | refine a_eqi rfl rfl ?_ | refine st_not rfl ?_ | refine st_pick_t rfl rfl rfl ?_ | refine st_pick_f rfl rfl rfl ?_ | refine st_g rfl ?_ | refine a_gtf rfl ?_ | refine a_gft rfl ?_ | refine a_gu rfl ?_ | refine a_mklist (ec rfl en) (mz mkn) ?_ | refine a_mid ?_)
      first | refine a_endq (by repeat (first | exact pr_nil | (apply pr_cons; rfl))) ?_ | refine a_end (by repeat (first | exact pr_nil | (apply pr_cons; rfl))) ?_
      refine sc_ret (sq_r (x_ret _ rfl ?_))
      rw [hbg, hov] at kk
      exact kk h s ok ⟨rfl⟩ rfl hs
    rw [hbg, hov] at kk
    simp only [Bool.not_true, Bool.or_false, Bool.false_eq_true, if_false] at kk
    refine sc_skip (sq_n (sc_seq (q_reg ?_)))
    repeat (first | refine a_op (fun _ => rfl) ?_ | refine a_load rfl (by assumption) rfl ?_ | refine a_load_at rfl (by assumption) (by assumption) ?_ | refine a_iaddr_at rfl rfl (by assumption) ?_ | refine a_iaddr_l rfl rfl (by assumption) rfl ?_ | refine st_load_r rfl rfl ?_ | refine a_cmp rfl rfl rfl ?_ | refine a_eqi rfl rfl ?_ | refine st_not rfl ?_ | refine st_pick_t rfl rfl rfl ?_ | refine st_pick_f rfl rfl rfl ?_ | refine st_g rfl ?_ | refine a_gtf rfl ?_ | refine a_gft rfl ?_ | refine a_gu rfl ?_ | refine a_mklist (ec rfl en) (mz mkn) ?_ | refine a_mid ?_)
    first | refine a_endq (by repeat (first | exact pr_nil | (apply pr_cons; rfl))) ?_ | refine a_end (by repeat (first | exact pr_nil | (apply pr_cons; rfl))) ?_
    have e200 : (((List.map (eInt IntKind.i64) r.l).length : Int) == 200) = decide (r.l.length = 200) := by
      rw [List.length_map]
      by_cases h : r.l.length = 200
      · simp [h]
      · have : ¬ ((r.l.length : Int) = 200) := by omega
        simp [h, this]
    simp only [Bool.false_eq_true, if_false, e200]
    refine sc_cond (t := decide (r.l.length = 200)) rfl (fun hl => ?_) (fun hl => ?_)
    · refine q_reg ?_
      repeat (first | refine a_op (fun _ => rfl) ?_ | refine a_load rfl (by assumption) rfl ?_ | refine a_load_at rfl (by assumption) (by assumption) ?_ | refine a_iaddr_at rfl rfl (by assumption) ?_ | refine a_iaddr_l rfl rfl (by assumption) rfl ?_ | refine st_load_r rfl rfl ?_ | refine a_cmp rfl rfl rfl ?_ | refine a_eqi rfl rfl ?_ | refine st_not rfl ?_ | refine st_pick_t rfl rfl rfl ?_ | refine st_pick_f rfl rfl rfl ?_ | refine st_g rfl ?_ | refine a_gtf rfl ?_ | refine a_gft rfl ?_ | refine a_gu rfl ?_ | refine a_mklist (ec rfl en) (mz mkn) ?_ | refine a_mid ?_)
      first | refine a_endq (by repeat (first | exact pr_nil | (apply pr_cons; rfl))) ?_ | refine a_end (by repeat (first | exact pr_nil | (apply pr_cons; rfl))) ?_
      refine sc_ret (sq_r (x_ret _ rfl ?_))
      rw [if_pos (of_decide_eq_true hl)] at kk
      exact kk h s ok ⟨rfl⟩ rfl hs
    have hl : ¬ r.l.length = 200 := of_decide_eq_false hl
    rw [if_neg hl] at kk
    refine sc_skip (sq_n (a_dreg0 Try.mixed ?_))
    repeat (first | refine a_op (fun _ => rfl) ?_ | refine a_load rfl (by assumption) rfl ?_ | refine a_load_at rfl (by assumption) (by assumption) ?_ | refine a_iaddr_at rfl rfl (by assumption) ?_ | refine a_iaddr_l rfl rfl (by assumption) rfl ?_ | refine st_load_r rfl rfl ?_ | refine a_cmp rfl rfl rfl ?_ | refine a_eqi rfl rfl ?_ | refine st_not rfl ?_ | refine st_pick_t rfl rfl rfl ?_ | refine st_pick_f rfl rfl rfl ?_ | refine st_g rfl ?_ | refine a_gtf rfl ?_ | refine a_gft rfl ?_ | refine a_gu rfl ?_ | refine a_mklist (ec rfl en) (mz mkn) ?_ | refine a_mid ?_)
    have hs2 : Sep h (([(s.id, s.obj), (s.wid, wayO s.ways), (s.oid, overO s.over)] ++ (s.ways.take k).flatMap RW.lay) ++ (r.lay ++ ((s.ways.drop (k + 1)).flatMap RW.lay ++ R))) := by
      have := hs
      unfold PS.lay at this
      rw [fm_split hkv] at this
      simpa [List.append_assoc] using this
    refine a_app (f := eInt .i64) (rw_ := r) (ys := [n]) (enc_int .i64).w rfl rfl hrow hs2 (by simp; omega) (fun r' h' hl' hr' hs' => ?_)
    have g3 : h'[s.wid]? = some (wayO s.ways) := hs'.get (by simp)
    repeat (first | refine a_op (fun _ => rfl) ?_ | refine a_load rfl (by assumption) rfl ?_ | refine a_load_at rfl (by assumption) (by assumption) ?_ | refine a_iaddr_at rfl rfl (by assumption) ?_ | refine a_iaddr_l rfl rfl (by assumption) rfl ?_ | refine st_load_r rfl rfl ?_ | refine a_cmp rfl rfl rfl ?_ | refine a_eqi rfl rfl ?_ | refine st_not rfl ?_ | refine st_pick_t rfl rfl rfl ?_ | refine st_pick_f rfl rfl rfl ?_ | refine st_g rfl ?_ | refine a_gtf rfl ?_ | refine a_gft rfl ?_ | refine a_gu rfl ?_ | refine a_mklist (ec rfl en) (mz mkn) ?_ | refine a_mid ?_)
    refine a_store_at (f := RW.hv (eInt .i64)) (l := s.ways) (a := r') rfl rfl g3 rfl rfl hkw ?_
    repeat (first | refine a_op (fun _ => rfl) ?_ | refine a_load rfl (by assumption) rfl ?_ | refine a_load_at rfl (by assumption) (by assumption) ?_ | refine a_iaddr_at rfl rfl (by assumption) ?_ | refine a_iaddr_l rfl rfl (by assumption) rfl ?_ | refine st_load_r rfl rfl ?_ | refine a_cmp rfl rfl rfl ?_ | refine a_eqi rfl rfl ?_ | refine st_not rfl ?_ | refine st_pick_t rfl rfl rfl ?_ | refine st_pick_f rfl rfl rfl ?_ | refine st_g rfl ?_ | refine a_gtf rfl ?_ | refine a_gft rfl ?_ | refine a_gu rfl ?_ | refine a_mklist (ec rfl en) (mz mkn) ?_ | refine a_mid ?_)
    first | refine a_endq (by repeat (first | exact pr_nil | (apply pr_cons; rfl))) ?_ | refine a_end (by repeat (first | exact pr_nil | (apply pr_cons; rfl))) ?_
    refine q_reg ?_
    repeat (first | refine a_op (fun _ => rfl) ?_ | refine a_load rfl (by assumption) rfl ?_ | refine a_load_at rfl (by assumption) (by assumption) ?_ | refine a_iaddr_at rfl rfl (by assumption) ?_ | refine a_iaddr_l rfl rfl (by assumption) rfl ?_ | refine st_load_r rfl rfl ?_ | refine a_cmp rfl rfl rfl ?_ | refine a_eqi rfl rfl ?_ | refine st_not rfl ?_ | refine st_pick_t rfl rfl rfl ?_ | refine st_pick_f rfl rfl rfl ?_ | refine st_g rfl ?_ | refine a_gtf rfl ?_ | refine a_gft rfl ?_ | refine a_gu rfl ?_ | refine a_mklist (ec rfl en) (mz mkn) ?_ | refine a_mid ?_)
    first | refine a_endq (by repeat (first | exact pr_nil | (apply pr_cons; rfl))) ?_ | refine a_end (by repeat (first | exact pr_nil | (apply pr_cons; rfl))) ?_
    refine sc_ret (x_ret _ rfl (kk _ { s with ways := s.ways.set k r' } ⟨fun q hq => ?_, by simpa using ok.nw, ok.no, ok.np, fun q hq => ?_⟩ ⟨rfl⟩ ?_ ?_))
    · rcases List.mem_or_eq_of_mem_set hq with hq | rfl
      · exact ok.rows q hq
      · exact hr'
    · rcases List.mem_or_eq_of_mem_set hq with hq | rfl
      · exact ok.lens q hq
      · rw [hl', List.length_append]; have : r.l.length ≠ 200 := hl; simp; omega
    · simp only [PS.abs, List.map_set, hl']
    · have := Sep.set (A := [(s.id, s.obj)]) (B := (s.oid, overO s.over) :: ((s.ways.take k).flatMap RW.lay ++ (r'.lay ++ ((s.ways.drop (k + 1)).flatMap RW.lay ++ R)))) (i := s.wid) (o := wayO s.ways) (by simpa using hs') (wayO (s.ways.set k r'))
      unfold PS.lay
      rw [fm_set hkw]
      simpa [PS.obj, wayO] using this
end Go.Hw.VK

