import Derived.Test.YtcenjonbenlfkaaHwD1a
set_option linter.unusedVariables false
set_option linter.unusedSimpArgs false
namespace Go.Hw.VD
open Go Go.Proofs
def hc24 : C := (.seq (.reg [oo 2 (.mv (.c (.list [] .full)))] [0]) (.seq (.reg [oo 3 (.mv (.c (.int .i64 0)))] [0, 3]) (.seq (.seq (.reg [mo 9 0, oo 10 (.len false 9), oo 11 (.mv (.c (.int .i64 0)))] [0, 3, 9, 10, 11]) (.block 0 (.loop (.seq (.reg [oo 12 (.bin .lss 11 10)] [0, 3, 9, 10, 11, 12]) (.seq (.cond 12 .skip (.exit 0)) (.seq (.block 1 (.seq (.reg [oo 13 (.iaddr 1 9 11), oo 14 (.load none 13), mo 5 14] [0, 3, 5, 9, 10, 11]) (.seq (.reg [mo 15 3, mo 16 5, oo 17 (.len false 16), oo 18 (.bin .add 15 17), mo 3 18] [0, 3, 9, 10, 11]) (.seq (.reg [mo 19 3, oo 20 (.bin .lss 19 (.c (.int .i64 0)))] [0, 3, 9, 10, 11, 20]) (.cond 20 (.reg [oo 21 (.mkif 9 (.c (.str [108, 101, 110, 32, 111, 117, 116, 32, 111, 102, 32, 114, 97, 110, 103, 101]))), os (.bad)] [0, 3, 9, 10, 11]) .skip))))) (.reg [oo 22 (.bin .add 11 (.c (.int .i64 1))), mo 11 22] [0, 3, 9, 10, 11]))))))) (.seq (.reg [mo 23 3, co 24 (.call 42 [(.c .nilslice), 23]), mo 6 24] [0, 6]) (.seq (.seq (.reg [mo 25 0, oo 26 (.len false 25), oo 27 (.mv (.c (.int .i64 0)))] [6, 25, 26, 27]) (.block 2 (.loop (.seq (.reg [oo 28 (.bin .lss 27 26)] [6, 25, 26, 27, 28]) (.seq (.cond 28 .skip (.exit 2)) (.seq (.block 3 (.seq (.reg [oo 29 (.iaddr 1 25 27), oo 30 (.load none 29), mo 8 30] [6, 8, 25, 26, 27]) (.reg [mo 31 6, mo 32 8, oo 33 (.appendarr 2 16 31 32), mo 6 33] [6, 25, 26, 27]))) (.reg [oo 34 (.bin .add 27 (.c (.int .i64 1))), mo 27 34] [6, 25, 26, 27]))))))) (.seq (.reg [mo 35 6, mo 2 35] [2]) .ret))))))
def ha24 : Ann := ⟨[(9, 1), (13, 2)], [], [(0, [0]), (1, [0, 3]), (2, [0, 3, 9, 10, 11]), (3, [0, 3, 9, 10, 11, 12]), (4, [0, 3, 5, 9, 10, 11]), (5, [0, 3, 9, 10, 11]), (6, [0, 3, 9, 10, 11, 20]), (7, [0, 3, 9, 10, 11]), (8, [0, 3, 9, 10, 11]), (9, [0, 6]), (10, [6, 25, 26, 27]), (11, [6, 25, 26, 27, 28]), (12, [6, 8, 25, 26, 27]), (13, [6, 25, 26, 27]), (14, [6, 25, 26, 27]), (15, [2])], []⟩
theorem hk24 : comp Try.prog ha24 Try.f24.ntmps Try.f24.code = some hc24 := by kernel_rfl
def w24 (p1 : List (List (GVersion_Range))) (Q : List (GVersion_Range) → Prop) : Prop :=
  ∃ (I8 : Int → Int → Prop) (M9 : Int → Int → Nat), I8 (0 : Int) (0 : Int) ∧ ∀ (v2 : Int) (v3 : Int), I8 v2 v3 → ∀ v10 : Bool, v10 = decide (v3 < (p1.length : Int)) → ((v10 = true → (0 ≤ v3 ∧ v3 < (p1.length : Int)) ∧ ∀ a11 : List (GVersion_Range), p1[(v3 : Int).toNat]? = some a11 → (R64 (v2 + (a11.length : Int))) ∧ ∀ v12 : Int, v12 = v2 + (a11.length : Int) → ((v12 < (0 : Int) → False) ∧ ((0 : Int) ≤ v12 → (R64 (v3 + (1 : Int))) ∧ ∀ v13 : Int, v13 = v3 + (1 : Int) → (I8 v12 v13 ∧ M9 v12 v13 < M9 v2 v3)))) ∧ (v10 = false → ∃ r14 : List (GVersion_Range), sp42_s v2 r14 ∧ ∃ (I21 : (List GVersion_Range) → Int → Prop) (M22 : (List GVersion_Range) → Int → Nat), I21 r14 (0 : Int) ∧ ∀ (v15 : List GVersion_Range) (v16 : Int), I21 v15 v16 → ∀ v23 : Bool, v23 = decide (v16 < (p1.length : Int)) → ((v23 = true → (0 ≤ v16 ∧ v16 < (p1.length : Int)) ∧ ∀ a24 : List (GVersion_Range), p1[(v16 : Int).toNat]? = some a24 → ((v15.length + a24.length) * 16 ≤ 140737488355328) ∧ ∀ v25 : List GVersion_Range, v25 = v15 ++ a24 → (R64 (v16 + (1 : Int))) ∧ ∀ v26 : Int, v26 = v16 + (1 : Int) → (I21 v25 v26 ∧ M22 v25 v26 < M22 v15 v16)) ∧ (v23 = false → Q v15))))
theorem ok24 (p1 : List (List (GVersion_Range))) (r : List (GVersion_Range)) (hw : w24 p1 fun r' => r' = r) : sp24 p1 r := by
  refine zf (rs := [.t 2]) (g := zg24) Try.func24 hk24 ?_
  unfold w24 at hw
  show SC Try.prog Try.f24.ntmps 0 hc24 _ [(0, ln (eLst eGVersion_Range) p1)] []
  unfold hc24
  refine q_reg (st_mv rfl (g_endq [(0, ln (eLst eGVersion_Range) p1)] rfl ?_))
  refine q_reg (st_mv rfl (g_endq [(0, ln (eLst eGVersion_Range) p1), (3, ii 0)] rfl ?_))
  refine sc_seq (q_reg (st_mv rfl (g_len rfl (st_mv rfl (g_endq [(0, ln (eLst eGVersion_Range) p1), (3, ii 0), (9, ln (eLst eGVersion_Range) p1), (10, ii (p1.length : Int)), (11, ii 0)] rfl ?_)))))
  refine sc_block ?_
  obtain ⟨I8, M9, hi, hw⟩ := hw
  refine sc_loop (X := { x : Int × Int // I8 x.1 x.2 }) (fun x => ([(0, ln (eLst eGVersion_Range) p1), (3, ii x.1.1), (9, ln (eLst eGVersion_Range) p1), (10, ii (p1.length : Int)), (11, ii x.1.2)], [])) (fun x => M9 x.1.1 x.1.2) ⟨((0 : Int), (0 : Int)), hi⟩ ws ?_
  rintro ⟨⟨v2, v3⟩, hi2⟩
  have hw := hw v2 v3 hi2
  clear hi
  refine q_reg (gb_cmp rfl rfl trivial rfl hw fun v10 hw => g_endq [(0, ln (eLst eGVersion_Range) p1), (3, ii v2), (9, ln (eLst eGVersion_Range) p1), (10, ii (p1.length : Int)), (11, ii v3), (12, .bool v10)] rfl ?_)
  refine sc_seq (s_cond rfl hw (fun hw => ?_) (fun hw => ?_))
  · refine sc_skip (sq_n (sc_seq (sc_block (q_reg (g_iaddr (enc_lst enc_GVersion_Range) rfl rfl hw fun a11 hw => st_load_r rfl rfl (st_mv rfl (g_endq [(0, ln (eLst eGVersion_Range) p1), (3, ii v2), (5, ln eGVersion_Range a11), (9, ln (eLst eGVersion_Range) p1), (10, ii (p1.length : Int)), (11, ii v3)] rfl ?_)))))))
    refine q_reg (st_mv rfl (st_mv rfl (g_len rfl (g_add rfl rfl hw fun v12 hw => st_mv rfl (g_endq [(0, ln (eLst eGVersion_Range) p1), (3, ii v12), (9, ln (eLst eGVersion_Range) p1), (10, ii (p1.length : Int)), (11, ii v3)] rfl ?_)))))
    refine q_reg (st_mv rfl (g_lss rfl rfl hw (fun hw => g_endq [(0, ln (eLst eGVersion_Range) p1), (3, ii v12), (9, ln (eLst eGVersion_Range) p1), (10, ii (p1.length : Int)), (11, ii v3), (20, .bool true)] rfl ?_) (fun hw => g_endq [(0, ln (eLst eGVersion_Range) p1), (3, ii v12), (9, ln (eLst eGVersion_Range) p1), (10, ii (p1.length : Int)), (11, ii v3), (20, .bool false)] rfl ?_)))
    · refine s_cond_t rfl (s_reg (hw.elim))
    · refine s_cond_f rfl (sc_skip (bl_n (sq_n (s_reg (g_add rfl rfl hw fun v13 hw => st_mv rfl (g_end [(0, ln (eLst eGVersion_Range) p1), (3, ii v12), (9, ln (eLst eGVersion_Range) p1), (10, ii (p1.length : Int)), (11, ii v13)] rfl ?_))))))
      exact lo_n ⟨(v12, v13), hw.1⟩ hw.2 ws
  · refine sc_exit (sq_x (lo_x (bl_x (sq_n (q_reg (st_mv rfl (kh (hback := fun _ => (ou_arr enc_GVersion_Range (fun a => (lfc rfl (lfc rfl lfn))) rfl ou_nil)) (hres := fun _ => (rn_arr rfl)) hh (g2 := fun r14 : List (GVersion_Range) => .arr 0 0 r14.length 2) (H2 := fun r14 : List (GVersion_Range) => [GA eGVersion_Range r14]) [] [0] 0 1 (ec rfl (ec rfl en)) hw fun r14 hw => st_mv rfl (g_endq [(0, ln (eLst eGVersion_Range) p1), (6, .arr 0 0 r14.length 2)] rfl ?_))))))))
    refine sc_seq (q_reg (st_mv rfl (g_len rfl (st_mv rfl (g_endq [(6, .arr 0 0 r14.length 2), (25, ln (eLst eGVersion_Range) p1), (26, ii (p1.length : Int)), (27, ii 0)] rfl ?_)))))
    refine sc_block ?_
    obtain ⟨I21, M22, hi, hw⟩ := hw
    refine sc_loop (X := { x : List GVersion_Range × Int // I21 x.1 x.2 }) (fun x => ([(6, .arr 0 0 x.1.1.length 2), (25, ln (eLst eGVersion_Range) p1), (26, ii (p1.length : Int)), (27, ii x.1.2)], [GA eGVersion_Range x.1.1])) (fun x => M22 x.1.1 x.1.2) ⟨(r14, (0 : Int)), hi⟩ ws ?_
    rintro ⟨⟨v15, v16⟩, hi2⟩
    have hw := hw v15 v16 hi2
    clear hi
    refine q_reg (gb_cmp rfl rfl trivial rfl hw fun v23 hw => g_endq [(6, .arr 0 0 v15.length 2), (25, ln (eLst eGVersion_Range) p1), (26, ii (p1.length : Int)), (27, ii v16), (28, .bool v23)] rfl ?_)
    refine sc_seq (s_cond rfl hw (fun hw => ?_) (fun hw => ?_))
    · refine sc_skip (sq_n (sc_seq (sc_block (q_reg (g_iaddr (enc_lst enc_GVersion_Range) rfl rfl hw fun a24 hw => st_load_r rfl rfl (st_mv rfl (g_endq [(6, .arr 0 0 v15.length 2), (8, ln eGVersion_Range a24), (25, ln (eLst eGVersion_Range) p1), (26, ii (p1.length : Int)), (27, ii v16)] rfl ?_)))))))
      refine s_reg (st_mv rfl (st_mv rfl (g_apW (n := 1) enc_GVersion_Range rfl rfl rfl rfl (asrc_list enc_GVersion_Range) rfl hw (fun z => [.dead, GA eGVersion_Range z]) (fun _ => rfl) fun v25 hw => st_mv rfl (g_end [(6, .arr 1 0 v25.length 2), (25, ln (eLst eGVersion_Range) p1), (26, ii (p1.length : Int)), (27, ii v16)] rfl ?_))))
      refine bl_n (sq_n (s_reg (g_add rfl rfl hw fun v26 hw => st_mv rfl (g_end [(6, .arr 1 0 v25.length 2), (25, ln (eLst eGVersion_Range) p1), (26, ii (p1.length : Int)), (27, ii v26)] rfl ?_))))
      exact lo_n ⟨(v25, v26), hw.1⟩ hw.2 (weak_ren [1] (by simp) (by decide) (ro_arr enc_GVersion_Range (fun a => (lfc rfl (lfc rfl lfn))) rfl ro_nil) (re_cons rfl (rn_arr rfl) (re_cons rfl (.pv _ (pv_lst (enc_lst enc_GVersion_Range) _ _ (by simp))) (re_cons rfl (.pv _ (.int _ _)) (re_cons rfl (.pv _ (.int _ _)) re_nil)))))
    · refine sc_exit (sq_x (lo_x (bl_x (sq_n (q_reg (st_mv rfl (st_mv rfl (g_endq [(2, .arr 0 0 v15.length 2)] rfl ?_))))))))
      exact sc_ret (gr (g := zg24) (ho := fun _ => []) [.arr 0 0 v15.length 2] [ln eGVersion_Range v15] hw (.inr rfl) ((w_freeze (l := v15) (h' := [.dead]) 0 enc_GVersion_Range rfl rfl rfl rfl).trans (wr [])))
def hc25 : C := (.seq (.reg [oo 2 (.mv (.c (.list [] .full)))] [0]) (.seq (.seq (.reg [mo 3 0, oo 4 (.eqv false .slice 3 (.c .nilslice))] [0, 4]) (.cond 4 (.seq (.reg [oo 2 (.mv (.c (.list [] .full)))] [2]) .ret) .skip)) (.seq (.reg [oo 5 (.mklist 2 []), mo 6 0, oo 7 (.append 2 16 5 6), mo 2 7] [2]) .ret)))
def ha25 : Ann := ⟨[], [], [(0, [0]), (1, [0, 4]), (2, [2]), (3, [2])], []⟩
theorem hk25 : comp Try.prog ha25 Try.f25.ntmps Try.f25.code = some hc25 := by kernel_rfl
def w25 (p1 : List (GVersion_Range)) (Q : List (GVersion_Range) → Prop) : Prop :=
  ((p1.length = 0 → Q ([] : List GVersion_Range)) ∧ (((([] : List GVersion_Range).length + p1.length) * 16 ≤ 140737488355328) ∧ ∀ v2 : List GVersion_Range, v2 = ([] : List GVersion_Range) ++ p1 → Q v2))
theorem ok25 (p1 : List (GVersion_Range)) (r : List (GVersion_Range)) (hw : w25 p1 fun r' => r' = r) : sp25 p1 r := by
  refine zf (rs := [.t 2]) (g := zg25) Try.func25 hk25 ?_
  unfold w25 at hw
  show SC Try.prog Try.f25.ntmps 0 hc25 _ [(0, ln eGVersion_Range p1)] []
  unfold hc25
  refine q_reg (st_mv rfl (g_endq [(0, ln eGVersion_Range p1)] rfl ?_))
  refine sc_seq (q_reg (st_mv rfl (g_eqn2 rfl rfl hw (fun hw => g_endq [(0, ln eGVersion_Range p1), (4, .bool true)] rfl ?_) (fun hw => g_endq [(0, ln eGVersion_Range p1), (4, .bool false)] rfl ?_))))
  · refine s_cond_t rfl (q_reg (st_mv rfl (g_endq [(2, nl eGVersion_Range)] rfl ?_)))
    exact sc_ret (sq_r (gr (g := zg25) (ho := fun _ => []) [nl eGVersion_Range] [ln eGVersion_Range ([] : List GVersion_Range)] hw (.inr rfl) ws))
  · refine s_cond_f rfl (sc_skip (sq_n (q_reg (g_mkl enc_GVersion_Range [] en rfl mkn (st_mv rfl (g_appf enc_GVersion_Range rfl rfl (n := 0) rfl hw fun v2 hw => st_mv rfl (g_endq [(2, .list (List.map eGVersion_Range v2) (.own 0 1 2))] rfl ?_)))))))
    exact sc_ret (gr (g := zg25) (ho := fun _ => []) [.list (List.map eGVersion_Range v2) (.own 0 1 2)] [ln eGVersion_Range v2] hw (.inr rfl) (wr []))
def hc27 : C := (.seq (.reg [oo 2 (.box none 2 0), oo 3 (.box none 2 1), oo 4 (.mv (.c (.int .i64 0)))] [2, 3]) (.seq (.dreg [oo 5 (.faddr 0 1 2), oo 6 (.load none 5), oo 7 (.faddr 0 1 3), oo 8 (.load none 7), co 9 (.call 29 [6, 8]), oo 10 (.faddr 1 1 2), oo 11 (.load none 10), oo 12 (.faddr 1 1 3), oo 13 (.load none 12), co 14 (.call 29 [11, 13]), oo 15 (.mklist 1 [9, 14]), co 16 (.call 28 [15]), mo 4 16] [] 0 [4]) .ret))
def ha27 : Ann := ⟨[], [], [(0, [2, 3]), (1, [4])], []⟩
theorem hk27 : comp Try.prog ha27 Try.f27.ntmps Try.f27.code = some hc27 := by kernel_rfl
def w27 (p1 : GVersion_Range) (p2 : GVersion_Range) (Q : Int → Prop) : Prop :=
  ∃ r3 : Int, sp29 p1.Low p2.Low r3 ∧ ∃ r4 : Int, sp29 p1.High p2.High r4 ∧ ∃ r5 : Int, sp28 ([r3, r4] : List Int) r5 ∧ Q r5
theorem ok27 (p1 : GVersion_Range) (p2 : GVersion_Range) (r : Int) (hw : w27 p1 p2 fun r' => r' = r) : sp27 p1 p2 r := by
  refine zf (rs := [.t 4]) (g := zg27) Try.func27 hk27 ?_
  unfold w27 at hw
  show SC Try.prog Try.f27.ntmps 0 hc27 _ [(0, eGVersion_Range p1), (1, eGVersion_Range p2)] []
  unfold hc27
  refine q_reg (g_box (v := eGVersion_Range p1) rfl rfl rfl (n := 0) rfl rfl (g_box (v := eGVersion_Range p2) rfl rfl rfl (n := 1) rfl rfl (st_mv rfl (g_endq [(2, .ptr 0 0), (3, .ptr 1 0)] rfl ?_))))
  refine sc_seq (s_dreg Try.mixed rfl (g_faddr_p rfl (g_load_p rfl rfl rfl (g_faddr_p rfl (g_load_p rfl rfl rfl (k_call dd (ec rfl (ec rfl en)) rfl hw fun r3 hw => g_faddr_p rfl (g_load_p rfl rfl rfl (g_faddr_p rfl (g_load_p rfl rfl rfl (k_call dd (ec rfl (ec rfl en)) rfl hw fun r4 hw => g_mkl (enc_int .i64) [r3, r4] (ec rfl (ec rfl en)) rfl (mz (mz mkn)) (k_call dd (ec rfl en) rfl hw fun r5 hw => st_mv rfl (st_mid (g_end [(4, ii r5)] rfl ?_)))))))))))))
  exact sq_n (sc_ret (gr1 (g := zg27) (ho := fun _ => []) [ii r5] hw (.inr rfl) (wr [])))
def hc28 : C := (.seq (.reg [oo 2 (.mv (.c (.int .i64 0)))] [0]) (.seq (.reg [oo 3 (.mv (.c (.int .i64 0)))] [0, 3]) (.seq (.seq (.reg [mo 6 0, oo 7 (.len false 6), oo 8 (.mv (.c (.int .i64 0)))] [3, 6, 7, 8]) (.block 0 (.loop (.seq (.reg [oo 9 (.bin .lss 8 7)] [3, 6, 7, 8, 9]) (.seq (.cond 9 .skip (.exit 0)) (.seq (.block 1 (.seq (.reg [oo 10 (.iaddr 1 6 8), oo 11 (.load none 10), mo 5 11] [3, 5, 6, 7, 8]) (.seq (.reg [mo 12 5, mo 13 3, oo 14 (.eqv true .int 12 13)] [3, 5, 6, 7, 8, 14]) (.cond 14 (.seq (.reg [mo 15 5, mo 2 15] [2]) .ret) .skip)))) (.reg [oo 16 (.bin .add 8 (.c (.int .i64 1))), mo 8 16] [3, 6, 7, 8]))))))) (.seq (.reg [mo 17 3, mo 2 17] [2]) .ret))))
def ha28 : Ann := ⟨[], [], [(0, [0]), (1, [0, 3]), (2, [3, 6, 7, 8]), (3, [3, 6, 7, 8, 9]), (4, [3, 5, 6, 7, 8]), (5, [3, 5, 6, 7, 8, 14]), (6, [2]), (7, [3, 6, 7, 8]), (8, [2])], []⟩
theorem hk28 : comp Try.prog ha28 Try.f28.ntmps Try.f28.code = some hc28 := by kernel_rfl
def w28 (p1 : List (Int)) (Q : Int → Prop) : Prop :=
  ∃ (I6 : Int → Prop) (M7 : Int → Nat), I6 (0 : Int) ∧ ∀ (v2 : Int), I6 v2 → ∀ v8 : Bool, v8 = decide (v2 < (p1.length : Int)) → ((v8 = true → (0 ≤ v2 ∧ v2 < (p1.length : Int)) ∧ ∀ a9 : Int, p1[(v2 : Int).toNat]? = some a9 → ((a9 ≠ (0 : Int) → Q a9) ∧ (a9 = (0 : Int) → (R64 (v2 + (1 : Int))) ∧ ∀ v10 : Int, v10 = v2 + (1 : Int) → (I6 v10 ∧ M7 v10 < M7 v2)))) ∧ (v8 = false → Q (0 : Int)))
theorem ok28 (p1 : List (Int)) (r : Int) (hw : w28 p1 fun r' => r' = r) : sp28 p1 r := by
  refine zf (rs := [.t 2]) (g := zg28) Try.func28 hk28 ?_
  unfold w28 at hw
  show SC Try.prog Try.f28.ntmps 0 hc28 _ [(0, ln (eInt .i64) p1)] []
  unfold hc28
  refine q_reg (st_mv rfl (g_endq [(0, ln (eInt .i64) p1)] rfl ?_))
  refine q_reg (st_mv rfl (g_endq [(0, ln (eInt .i64) p1), (3, ii 0)] rfl ?_))
  refine sc_seq (q_reg (st_mv rfl (g_len rfl (st_mv rfl (g_endq [(3, ii 0), (6, ln (eInt .i64) p1), (7, ii (p1.length : Int)), (8, ii 0)] rfl ?_)))))
  refine sc_block ?_
  obtain ⟨I6, M7, hi, hw⟩ := hw
  refine sc_loop (X := { x : Int // I6 x }) (fun x => ([(3, ii 0), (6, ln (eInt .i64) p1), (7, ii (p1.length : Int)), (8, ii x.1)], [])) (fun x => M7 x.1) ⟨(0 : Int), hi⟩ ws ?_
  rintro ⟨v2, hi2⟩
  have hw := hw v2 hi2
  clear hi
  refine q_reg (gb_cmp rfl rfl trivial rfl hw fun v8 hw => g_endq [(3, ii 0), (6, ln (eInt .i64) p1), (7, ii (p1.length : Int)), (8, ii v2), (9, .bool v8)] rfl ?_)
  refine sc_seq (s_cond rfl hw (fun hw => ?_) (fun hw => ?_))
  · refine sc_skip (sq_n (sc_seq (sc_block (q_reg (g_iaddr (enc_int .i64) rfl rfl hw fun a9 hw => st_load_r rfl rfl (st_mv rfl (g_endq [(3, ii 0), (5, ii a9), (6, ln (eInt .i64) p1), (7, ii (p1.length : Int)), (8, ii v2)] rfl ?_)))))))
    refine q_reg (st_mv rfl (st_mv rfl (g_nei rfl rfl hw (fun hw => g_endq [(3, ii 0), (5, ii a9), (6, ln (eInt .i64) p1), (7, ii (p1.length : Int)), (8, ii v2), (14, .bool true)] rfl ?_) (fun hw => g_endq [(3, ii 0), (5, ii a9), (6, ln (eInt .i64) p1), (7, ii (p1.length : Int)), (8, ii v2), (14, .bool false)] rfl ?_))))
    · refine s_cond_t rfl (q_reg (st_mv rfl (st_mv rfl (g_endq [(2, ii a9)] rfl ?_))))
      exact sc_ret (bl_r (sq_r (lo_r (bl_r (sq_r (gr1 (g := zg28) (ho := fun _ => []) [ii a9] hw (.inr rfl) ws))))))
    · refine s_cond_f rfl (sc_skip (bl_n (sq_n (s_reg (g_add rfl rfl hw fun v10 hw => st_mv rfl (g_end [(3, ii 0), (6, ln (eInt .i64) p1), (7, ii (p1.length : Int)), (8, ii v10)] rfl ?_))))))
      exact lo_n ⟨v10, hw.1⟩ hw.2 ws
  · refine sc_exit (sq_x (lo_x (bl_x (sq_n (q_reg (st_mv rfl (st_mv rfl (g_endq [(2, ii 0)] rfl ?_))))))))
    exact sc_ret (gr1 (g := zg28) (ho := fun _ => []) [ii 0] hw (.inr rfl) ws)
def hc29 : C := (.seq (.reg [oo 4 (.mv (.c (.int .i64 0)))] [0, 1]) (.seq (.reg [mo 7 0, co 8 (.call 45 [7]), mo 5 8] [0, 1, 5]) (.seq (.reg [mo 9 1, co 10 (.call 45 [9]), mo 6 10] [0, 1, 5, 6]) (.seq (.seq (.reg [mo 11 5] [0, 1, 6, 11]) (.cond 11 (.seq (.seq (.reg [mo 12 6] [12]) (.cond 12 (.seq (.reg [oo 4 (.mv (.c (.int .i64 0)))] [4]) .ret) .skip)) (.seq (.reg [oo 4 (.mv (.c (.int .i64 (-1))))] [4]) .ret)) .skip)) (.seq (.seq (.reg [mo 13 6] [0, 1, 13]) (.cond 13 (.seq (.reg [oo 4 (.mv (.c (.int .i64 1)))] [4]) .ret) .skip)) (.seq (.seq (.reg [mo 14 0, mo 15 1, oo 16 (.bin .lss 14 15)] [0, 1, 16]) (.cond 16 (.seq (.reg [oo 4 (.mv (.c (.int .i64 (-1))))] [4]) .ret) .skip)) (.seq (.seq (.reg [mo 17 0, mo 18 1, oo 19 (.bin .gtr 17 18)] [19]) (.cond 19 (.seq (.reg [oo 4 (.mv (.c (.int .i64 1)))] [4]) .ret) .skip)) (.seq (.reg [oo 4 (.mv (.c (.int .i64 0)))] [4]) .ret))))))))
def ha29 : Ann := ⟨[], [], [(0, [0, 1]), (1, [0, 1, 5]), (2, [0, 1, 5, 6]), (3, [0, 1, 6, 11]), (4, [12]), (5, [4]), (6, [4]), (7, [0, 1, 13]), (8, [4]), (9, [0, 1, 16]), (10, [4]), (11, [19]), (12, [4]), (13, [4])], []⟩
theorem hk29 : comp Try.prog ha29 Try.f29.ntmps Try.f29.code = some hc29 := by kernel_rfl
def w29 (p1 : Int) (p2 : Int) (Q : Int → Prop) : Prop :=
  ∃ r3 : Bool, sp45 p1 r3 ∧ ∃ r4 : Bool, sp45 p2 r4 ∧ ((r3 = true → ((r4 = true → Q (0 : Int)) ∧ (r4 = false → Q (-1 : Int)))) ∧ (r3 = false → ((r4 = true → Q (1 : Int)) ∧ (r4 = false → ((p1 < p2 → Q (-1 : Int)) ∧ (p2 ≤ p1 → ((p2 < p1 → Q (1 : Int)) ∧ (p1 ≤ p2 → Q (0 : Int)))))))))
theorem ok29 (p1 : Int) (p2 : Int) (r : Int) (hw : w29 p1 p2 fun r' => r' = r) : sp29 p1 p2 r := by
  refine zf (rs := [.t 4]) (g := zg29) Try.func29 hk29 ?_
  unfold w29 at hw
  show SC Try.prog Try.f29.ntmps 0 hc29 _ [(0, ii p1), (1, ii p2)] []
  unfold hc29
  refine q_reg (st_mv rfl (g_endq [(0, ii p1), (1, ii p2)] rfl ?_))
  refine q_reg (st_mv rfl (k_call dh (ec rfl en) rfl hw fun r3 hw => st_mv rfl (g_endq [(0, ii p1), (1, ii p2), (5, .bool r3)] rfl ?_)))
  refine q_reg (st_mv rfl (k_call dh (ec rfl en) rfl hw fun r4 hw => st_mv rfl (g_endq [(0, ii p1), (1, ii p2), (5, .bool r3), (6, .bool r4)] rfl ?_)))
  refine sc_seq (q_reg (st_mv rfl (g_endq [(0, ii p1), (1, ii p2), (6, .bool r4), (11, .bool r3)] rfl ?_)))
  refine s_cond rfl hw (fun hw => ?_) (fun hw => ?_)
  · refine sc_seq (q_reg (st_mv rfl (g_endq [(12, .bool r4)] rfl ?_)))
    refine s_cond rfl hw (fun hw => ?_) (fun hw => ?_)
    · refine q_reg (st_mv rfl (g_endq [(4, ii 0)] rfl ?_))
      exact sc_ret (sq_r (sq_r (gr1 (g := zg29) (ho := fun _ => []) [ii 0] hw (.inr rfl) ws)))
    · refine sc_skip (sq_n (q_reg (st_mv rfl (g_endq [(4, ii (-1 : Int))] rfl ?_))))
      exact sc_ret (sq_r (gr1 (g := zg29) (ho := fun _ => []) [ii (-1 : Int)] hw (.inr rfl) ws))
  · refine sc_skip (sq_n (sc_seq (q_reg (st_mv rfl (g_endq [(0, ii p1), (1, ii p2), (13, .bool r4)] rfl ?_)))))
    refine s_cond rfl hw (fun hw => ?_) (fun hw => ?_)
    · refine q_reg (st_mv rfl (g_endq [(4, ii 1)] rfl ?_))
      exact sc_ret (sq_r (gr1 (g := zg29) (ho := fun _ => []) [ii 1] hw (.inr rfl) ws))
    · refine sc_skip (sq_n (sc_seq (q_reg (st_mv rfl (st_mv rfl (g_lss rfl rfl hw (fun hw => g_endq [(0, ii p1), (1, ii p2), (16, .bool true)] rfl ?_) (fun hw => g_endq [(0, ii p1), (1, ii p2), (16, .bool false)] rfl ?_)))))))
      · refine s_cond_t rfl (q_reg (st_mv rfl (g_endq [(4, ii (-1 : Int))] rfl ?_)))
        exact sc_ret (sq_r (gr1 (g := zg29) (ho := fun _ => []) [ii (-1 : Int)] hw (.inr rfl) ws))
      · refine s_cond_f rfl (sc_skip (sq_n (sc_seq (q_reg (st_mv rfl (st_mv rfl (g_gtr rfl rfl hw (fun hw => g_endq [(19, .bool true)] rfl ?_) (fun hw => g_endq [(19, .bool false)] rfl ?_))))))))
        · refine s_cond_t rfl (q_reg (st_mv rfl (g_endq [(4, ii 1)] rfl ?_)))
          exact sc_ret (sq_r (gr1 (g := zg29) (ho := fun _ => []) [ii 1] hw (.inr rfl) ws))
        · refine s_cond_f rfl (sc_skip (sq_n (q_reg (st_mv rfl (g_endq [(4, ii 0)] rfl ?_)))))
          exact sc_ret (gr1 (g := zg29) (ho := fun _ => []) [ii 0] hw (.inr rfl) ws)
def hc45 : C := (.seq (.reg [oo 2 (.mv (.c (.bool false)))] [0]) (.seq (.reg [mo 3 0, mo 4 0, oo 5 (.eqv true .int 3 4), mo 2 5] [2]) .ret))
def ha45 : Ann := ⟨[], [], [(0, [0]), (1, [2])], []⟩
theorem hk45 : comp Try.prog ha45 Try.f45.ntmps Try.f45.code = some hc45 := by kernel_rfl
def w45 (p1 : Int) (Q : Bool → Prop) : Prop :=
  ∀ v2 : Bool, v2 = (if true then !(p1 == p1) else (p1 == p1)) → Q v2
theorem ok45 (p1 : Int) (r : Bool) (hw : w45 p1 fun r' => r' = r) : sp45 p1 r := by
  refine zf (rs := [.t 2]) (g := zg45) Try.func45 hk45 ?_
  unfold w45 at hw
  show SC Try.prog Try.f45.ntmps 0 hc45 _ [(0, ii p1)] []
  unfold hc45
  refine q_reg (st_mv rfl (g_endq [(0, ii p1)] rfl ?_))
  refine q_reg (st_mv rfl (st_mv rfl (gb_eqi rfl rfl hw fun v2 hw => st_mv rfl (g_endq [(2, .bool v2)] rfl ?_))))
  exact sc_ret (gr1 (g := zg45) (ho := fun _ => []) [.bool v2] hw (.inr rfl) ws)
def hc25m : C := (.seq (.reg [oo 2 (.mv (.c (.list [] .full)))] [0]) (.seq (.seq (.reg [mo 3 0, oo 4 (.eqv false .slice 3 (.c .nilslice))] [0, 4]) (.cond 4 (.seq (.reg [oo 2 (.mv (.c (.list [] .full)))] [2]) .ret) .skip)) (.seq (.reg [oo 5 (.mklist 2 []), mo 6 0, oo 7 (.appendarr 2 16 5 6), mo 2 7] [2]) .ret)))
def ha25m : Ann := ⟨[(3, 2)], [], [(0, [0]), (1, [0, 4]), (2, [2]), (3, [2])], []⟩
theorem hk25m : comp Try.prog ha25m Try.f25.ntmps Try.f25.code = some hc25m := by kernel_rfl
def w25m (p1 : List (GVersion_Range)) (Q : List (GVersion_Range) → Prop) : Prop :=
  ((p1.length = 0 → Q ([] : List GVersion_Range)) ∧ ((p1.length * 16 ≤ 140737488355328) ∧ ∀ v2 : List GVersion_Range, v2 = p1 → Q v2))
theorem ok25m (p1 : List (GVersion_Range)) (r : List (GVersion_Range)) (hw : w25m p1 fun r' => r' = r) : sp25m p1 r := by
  refine zh (rs := [.t 2]) Try.func25 hk25m ?_
  unfold w25m at hw
  show SC Try.prog Try.f25.ntmps 0 hc25m _ [(0, ln eGVersion_Range p1)] []
  unfold hc25m
  refine q_reg (st_mv rfl (g_endq [(0, ln eGVersion_Range p1)] rfl ?_))
  refine sc_seq (q_reg (st_mv rfl (g_eqn2 rfl rfl hw (fun hw => g_endq [(0, ln eGVersion_Range p1), (4, .bool true)] rfl ?_) (fun hw => g_endq [(0, ln eGVersion_Range p1), (4, .bool false)] rfl ?_))))
  · refine s_cond_t rfl (q_reg (st_mv rfl (g_endq [(2, nl eGVersion_Range)] rfl ?_)))
    exact sc_ret (sq_r (gr (g := zg25m) (ho := zo25m) [nl eGVersion_Range] [.arr 0 0 (([] : List GVersion_Range).length) 2] hw (.inr rfl) ((w_nilarr (A := GVersion_Range) (f := eGVersion_Range) (sz := 2) (n := 0) (h' := [GA eGVersion_Range ([] : List GVersion_Range)]) 0 rfl rfl rfl).trans ws)))
  · refine s_cond_f rfl (sc_skip (sq_n (q_reg (g_mkl enc_GVersion_Range [] en rfl mkn (st_mv rfl (g_apB0 (n := 0) (f := eGVersion_Range) rfl rfl (asrc_list enc_GVersion_Range) rfl hw fun v2 hw => st_mv rfl (g_endq [(2, .arr 0 0 v2.length 2)] rfl ?_)))))))
    exact sc_ret (gr1 (g := zg25m) (ho := zo25m) [.arr 0 0 v2.length 2] hw (.inr rfl) ws)
end Go.Hw.VD

