import Derived.Test.YtcenjonbenlfkaaHwL1
import Derived.Test.YtcenjonbenlfkaaHwF2
set_option linter.unusedVariables false
set_option linter.unusedSimpArgs false
namespace Go.Hw.VL
open Go Go.Proofs

@[reducible] def zg18 (r : List (GLayout_Piece)) : HV := .arr 0 0 r.length 3
@[reducible] def zo18 (r : List (GLayout_Piece)) : Heap := [GA eGLayout_Piece r]
abbrev sp18 (p27 : List (List (GLayout_Piece))) (r : List (GLayout_Piece)) : Prop := MC Try.prog 18 [ln (eLst eGLayout_Piece) p27] [] (zg18 r) (zo18 r)
@[reducible] def zg34_s (r : List (GLayout_Piece)) : HV := .arr 0 0 r.length 3
@[reducible] def zo34_s (r : List (GLayout_Piece)) : Heap := [GA eGLayout_Piece r]
abbrev sp34_s (p28 : Int) (r : List (GLayout_Piece)) : Prop := MC Try.prog 34 [.nilslice, ii p28] [] (zg34_s r) (zo34_s r)
def hc18 : C := (.seq (.reg [oo 2 (.mv (.c (.list [] .full)))] [0]) (.seq (.reg [oo 3 (.mv (.c (.int .i64 0)))] [0, 3]) (.seq (.seq (.reg [mo 9 0, oo 10 (.len false 9), oo 11 (.mv (.c (.int .i64 0)))] [0, 3, 9, 10, 11]) (.block 0 (.loop (.seq (.reg [oo 12 (.bin .lss 11 10)] [0, 3, 9, 10, 11, 12]) (.seq (.cond 12 .skip (.exit 0)) (.seq (.block 1 (.seq (.reg [oo 13 (.iaddr 1 9 11), oo 14 (.load none 13), mo 5 14] [0, 3, 5, 9, 10, 11]) (.seq (.reg [mo 15 3, mo 16 5, oo 17 (.len false 16), oo 18 (.bin .add 15 17), mo 3 18] [0, 3, 9, 10, 11]) (.seq (.reg [mo 19 3, oo 20 (.bin .lss 19 (.c (.int .i64 0)))] [0, 3, 9, 10, 11, 20]) (.cond 20 (.reg [oo 21 (.mkif 9 (.c (.str [108, 101, 110, 32, 111, 117, 116, 32, 111, 102, 32, 114, 97, 110, 103, 101]))), os (.bad)] [0, 3, 9, 10, 11]) .skip))))) (.reg [oo 22 (.bin .add 11 (.c (.int .i64 1))), mo 11 22] [0, 3, 9, 10, 11]))))))) (.seq (.reg [mo 23 3, co 24 (.call 34 [(.c .nilslice), 23]), mo 6 24] [0, 6]) (.seq (.seq (.reg [mo 25 0, oo 26 (.len false 25), oo 27 (.mv (.c (.int .i64 0)))] [6, 25, 26, 27]) (.block 2 (.loop (.seq (.reg [oo 28 (.bin .lss 27 26)] [6, 25, 26, 27, 28]) (.seq (.cond 28 .skip (.exit 2)) (.seq (.block 3 (.seq (.reg [oo 29 (.iaddr 1 25 27), oo 30 (.load none 29), mo 8 30] [6, 8, 25, 26, 27]) (.reg [mo 31 6, mo 32 8, oo 33 (.appendarr 3 32 31 32), mo 6 33] [6, 25, 26, 27]))) (.reg [oo 34 (.bin .add 27 (.c (.int .i64 1))), mo 27 34] [6, 25, 26, 27]))))))) (.seq (.reg [mo 35 6, mo 2 35] [2]) .ret))))))
def ha18 : Ann := ⟨[(9, 1), (13, 2)], [], [(0, [0]), (1, [0, 3]), (2, [0, 3, 9, 10, 11]), (3, [0, 3, 9, 10, 11, 12]), (4, [0, 3, 5, 9, 10, 11]), (5, [0, 3, 9, 10, 11]), (6, [0, 3, 9, 10, 11, 20]), (7, [0, 3, 9, 10, 11]), (8, [0, 3, 9, 10, 11]), (9, [0, 6]), (10, [6, 25, 26, 27]), (11, [6, 25, 26, 27, 28]), (12, [6, 8, 25, 26, 27]), (13, [6, 25, 26, 27]), (14, [6, 25, 26, 27]), (15, [2])], []⟩
theorem hk18 : comp Try.prog ha18 Try.f18.ntmps Try.f18.code = some hc18 := by kernel_rfl
def w18 (p1 : List (List (GLayout_Piece))) (Q : List (GLayout_Piece) → Prop) : Prop :=
  ∃ (I8 : Int → Int → Prop) (M9 : Int → Int → Nat), I8 (0 : Int) (0 : Int) ∧ ∀ (v2 : Int) (v3 : Int), I8 v2 v3 → ∀ v10 : Bool, v10 = decide (v3 < (p1.length : Int)) → ((v10 = true → (0 ≤ v3 ∧ v3 < (p1.length : Int)) ∧ ∀ a11 : List (GLayout_Piece), p1[(v3 : Int).toNat]? = some a11 → (R64 (v2 + (a11.length : Int))) ∧ ∀ v12 : Int, v12 = v2 + (a11.length : Int) → ((v12 < (0 : Int) → False) ∧ ((0 : Int) ≤ v12 → (R64 (v3 + (1 : Int))) ∧ ∀ v13 : Int, v13 = v3 + (1 : Int) → (I8 v12 v13 ∧ M9 v12 v13 < M9 v2 v3)))) ∧ (v10 = false → ∃ r14 : List (GLayout_Piece), sp34_s v2 r14 ∧ ∃ (I21 : (List GLayout_Piece) → Int → Prop) (M22 : (List GLayout_Piece) → Int → Nat), I21 r14 (0 : Int) ∧ ∀ (v15 : List GLayout_Piece) (v16 : Int), I21 v15 v16 → ∀ v23 : Bool, v23 = decide (v16 < (p1.length : Int)) → ((v23 = true → (0 ≤ v16 ∧ v16 < (p1.length : Int)) ∧ ∀ a24 : List (GLayout_Piece), p1[(v16 : Int).toNat]? = some a24 → ((v15.length + a24.length) * 32 ≤ 140737488355328) ∧ ∀ v25 : List GLayout_Piece, v25 = v15 ++ a24 → (R64 (v16 + (1 : Int))) ∧ ∀ v26 : Int, v26 = v16 + (1 : Int) → (I21 v25 v26 ∧ M22 v25 v26 < M22 v15 v16)) ∧ (v23 = false → Q v15))))
theorem ok18 (p1 : List (List (GLayout_Piece))) (r : List (GLayout_Piece)) (hw : w18 p1 fun r' => r' = r) : sp18 p1 r := by
  refine zh (rs := [.t 2]) Try.func18 hk18 ?_
  unfold w18 at hw
  show SC Try.prog Try.f18.ntmps 0 hc18 _ [(0, ln (eLst eGLayout_Piece) p1)] []
  unfold hc18
  refine q_reg (st_mv rfl (g_endq [(0, ln (eLst eGLayout_Piece) p1)] rfl ?_))
  refine q_reg (st_mv rfl (g_endq [(0, ln (eLst eGLayout_Piece) p1), (3, ii 0)] rfl ?_))
  refine sc_seq (q_reg (st_mv rfl (g_len rfl (st_mv rfl (g_endq [(0, ln (eLst eGLayout_Piece) p1), (3, ii 0), (9, ln (eLst eGLayout_Piece) p1), (10, ii (p1.length : Int)), (11, ii 0)] rfl ?_)))))
  refine sc_block ?_
  obtain ⟨I8, M9, hi, hw⟩ := hw
  refine sc_loop (X := { x : Int × Int // I8 x.1 x.2 }) (fun x => ([(0, ln (eLst eGLayout_Piece) p1), (3, ii x.1.1), (9, ln (eLst eGLayout_Piece) p1), (10, ii (p1.length : Int)), (11, ii x.1.2)], [])) (fun x => M9 x.1.1 x.1.2) ⟨((0 : Int), (0 : Int)), hi⟩ ws ?_
  rintro ⟨⟨v2, v3⟩, hi2⟩
  have hw := hw v2 v3 hi2
  clear hi
  refine q_reg (gb_cmp rfl rfl trivial rfl hw fun v10 hw => g_endq [(0, ln (eLst eGLayout_Piece) p1), (3, ii v2), (9, ln (eLst eGLayout_Piece) p1), (10, ii (p1.length : Int)), (11, ii v3), (12, .bool v10)] rfl ?_)
  refine sc_seq (s_cond rfl hw (fun hw => ?_) (fun hw => ?_))
  · refine sc_skip (sq_n (sc_seq (sc_block (q_reg (g_iaddr (enc_lst enc_GLayout_Piece) rfl rfl hw fun a11 hw => st_load_r rfl rfl (st_mv rfl (g_endq [(0, ln (eLst eGLayout_Piece) p1), (3, ii v2), (5, ln eGLayout_Piece a11), (9, ln (eLst eGLayout_Piece) p1), (10, ii (p1.length : Int)), (11, ii v3)] rfl ?_)))))))
    refine q_reg (st_mv rfl (st_mv rfl (g_len rfl (g_add rfl rfl hw fun v12 hw => st_mv rfl (g_endq [(0, ln (eLst eGLayout_Piece) p1), (3, ii v12), (9, ln (eLst eGLayout_Piece) p1), (10, ii (p1.length : Int)), (11, ii v3)] rfl ?_)))))
    refine q_reg (st_mv rfl (g_lss rfl rfl hw (fun hw => g_endq [(0, ln (eLst eGLayout_Piece) p1), (3, ii v12), (9, ln (eLst eGLayout_Piece) p1), (10, ii (p1.length : Int)), (11, ii v3), (20, .bool true)] rfl ?_) (fun hw => g_endq [(0, ln (eLst eGLayout_Piece) p1), (3, ii v12), (9, ln (eLst eGLayout_Piece) p1), (10, ii (p1.length : Int)), (11, ii v3), (20, .bool false)] rfl ?_)))
    · refine s_cond_t rfl (s_reg (hw.elim))
    · refine s_cond_f rfl (sc_skip (bl_n (sq_n (s_reg (g_add rfl rfl hw fun v13 hw => st_mv rfl (g_end [(0, ln (eLst eGLayout_Piece) p1), (3, ii v12), (9, ln (eLst eGLayout_Piece) p1), (10, ii (p1.length : Int)), (11, ii v13)] rfl ?_))))))
      exact lo_n ⟨(v12, v13), hw.1⟩ hw.2 ws
  · refine sc_exit (sq_x (lo_x (bl_x (sq_n (q_reg (st_mv rfl (kh (hback := fun _ => (ou_arr enc_GLayout_Piece (fun a => (lfc rfl (lfc rfl (lfc rfl lfn)))) rfl ou_nil)) (hres := fun _ => (rn_arr rfl)) hh (g2 := fun r14 : List (GLayout_Piece) => .arr 0 0 r14.length 3) (H2 := fun r14 : List (GLayout_Piece) => [GA eGLayout_Piece r14]) [] [0] 0 1 (ec rfl (ec rfl en)) hw fun r14 hw => st_mv rfl (g_endq [(0, ln (eLst eGLayout_Piece) p1), (6, .arr 0 0 r14.length 3)] rfl ?_))))))))
    refine sc_seq (q_reg (st_mv rfl (g_len rfl (st_mv rfl (g_endq [(6, .arr 0 0 r14.length 3), (25, ln (eLst eGLayout_Piece) p1), (26, ii (p1.length : Int)), (27, ii 0)] rfl ?_)))))
    refine sc_block ?_
    obtain ⟨I21, M22, hi, hw⟩ := hw
    refine sc_loop (X := { x : List GLayout_Piece × Int // I21 x.1 x.2 }) (fun x => ([(6, .arr 0 0 x.1.1.length 3), (25, ln (eLst eGLayout_Piece) p1), (26, ii (p1.length : Int)), (27, ii x.1.2)], [GA eGLayout_Piece x.1.1])) (fun x => M22 x.1.1 x.1.2) ⟨(r14, (0 : Int)), hi⟩ ws ?_
    rintro ⟨⟨v15, v16⟩, hi2⟩
    have hw := hw v15 v16 hi2
    clear hi
    refine q_reg (gb_cmp rfl rfl trivial rfl hw fun v23 hw => g_endq [(6, .arr 0 0 v15.length 3), (25, ln (eLst eGLayout_Piece) p1), (26, ii (p1.length : Int)), (27, ii v16), (28, .bool v23)] rfl ?_)
    refine sc_seq (s_cond rfl hw (fun hw => ?_) (fun hw => ?_))
    · refine sc_skip (sq_n (sc_seq (sc_block (q_reg (g_iaddr (enc_lst enc_GLayout_Piece) rfl rfl hw fun a24 hw => st_load_r rfl rfl (st_mv rfl (g_endq [(6, .arr 0 0 v15.length 3), (8, ln eGLayout_Piece a24), (25, ln (eLst eGLayout_Piece) p1), (26, ii (p1.length : Int)), (27, ii v16)] rfl ?_)))))))
      refine s_reg (st_mv rfl (st_mv rfl (g_apW (n := 1) enc_GLayout_Piece rfl rfl rfl rfl (asrc_list enc_GLayout_Piece) rfl hw (fun z => [.dead, GA eGLayout_Piece z]) (fun _ => rfl) fun v25 hw => st_mv rfl (g_end [(6, .arr 1 0 v25.length 3), (25, ln (eLst eGLayout_Piece) p1), (26, ii (p1.length : Int)), (27, ii v16)] rfl ?_))))
      refine bl_n (sq_n (s_reg (g_add rfl rfl hw fun v26 hw => st_mv rfl (g_end [(6, .arr 1 0 v25.length 3), (25, ln (eLst eGLayout_Piece) p1), (26, ii (p1.length : Int)), (27, ii v26)] rfl ?_))))
      exact lo_n ⟨(v25, v26), hw.1⟩ hw.2 (weak_ren [1] (by simp) (by decide) (ro_arr enc_GLayout_Piece (fun a => (lfc rfl (lfc rfl (lfc rfl lfn)))) rfl ro_nil) (re_cons rfl (rn_arr rfl) (re_cons rfl (.pv _ (pv_lst (enc_lst enc_GLayout_Piece) _ _ (by simp))) (re_cons rfl (.pv _ (.int _ _)) (re_cons rfl (.pv _ (.int _ _)) re_nil)))))
    · refine sc_exit (sq_x (lo_x (bl_x (sq_n (q_reg (st_mv rfl (st_mv rfl (g_endq [(2, .arr 0 0 v15.length 3)] rfl ?_))))))))
      exact sc_ret (gr1 (g := zg18) (ho := zo18) [.arr 0 0 v15.length 3] hw (.inr rfl) ws)
end Go.Hw.VL

