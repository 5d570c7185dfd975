import Derived.Test.YthogcmalebekkaaHwR1b
set_option linter.unusedVariables false
set_option linter.unusedSimpArgs false
namespace Go.Hw.VR
open Go Go.Proofs
def hc84 : C := (.seq (.reg [oo 3 (.box none 3 0), oo 6 (.alloc none [(.int .i64 0), (.str []), (.list [] .full)])] [1, 2, 3, 6]) (.seq (.seq (.reg [mo 11 1, oo 12 (.faddr 1 1 3), oo 13 (.load none 12), co 14 (.call 36 [11, 13]), mo 7 14] [1, 2, 3, 6, 7]) (.seq (.reg [oo 15 (.faddr 0 1 3), oo 16 (.load none 15), oo 17 (.eqv false .int 16 (.c (.int .i64 5))), mo 18 17, og 19 (.mv 7) 18 true, og 20 (.bin .geq 19 (.c (.int .i64 0))) 18 true, oo 21 (.pick 18 20 (.c (.bool false))), mo 22 21, og 23 (.mv 7) 22 true, og 24 (.mv 2) 22 true, og 25 (.len false 24) 22 true, og 26 (.bin .lss 23 25) 22 true, oo 27 (.pick 22 26 (.c (.bool false)))] [1, 2, 3, 6, 7, 27]) (.cond 27 (.seq (.reg [mo 28 2, mo 29 7, oo 30 (.iaddr 3 28 29), oo 31 (.load (some 3) 30), os (.store 3 6 31)] [6]) .ret) .skip))) (.seq (.reg [oo 32 (.faddr 0 1 3), oo 33 (.load none 32), oo 34 (.faddr 1 1 3), oo 35 (.load none 34), oo 36 (.build [(.int .i64 0), (.str []), (.list [] .full)] [(0, 1, 33), (1, 1, 35)]), oo 8 (.alloc none [(.int .i64 0), (.str []), (.list [] .full)]), os (.store 3 8 36)] [1, 2, 3, 6, 8]) (.seq (.seq (.reg [oo 37 (.faddr 2 1 3), oo 38 (.load none 37), oo 39 (.len false 38), oo 40 (.mv (.c (.int .i64 0)))] [1, 2, 6, 8, 38, 39, 40]) (.block 0 (.loop (.seq (.reg [oo 41 (.bin .lss 40 39)] [1, 2, 6, 8, 38, 39, 40, 41]) (.seq (.cond 41 .skip (.exit 0)) (.seq (.block 1 (.seq (.reg [oo 42 (.iaddr 3 38 40), oo 43 (.load (some 3) 42), oo 10 (.alloc none [(.int .i64 0), (.str []), (.list [] .full)]), os (.store 3 10 43)] [1, 2, 6, 8, 10, 38, 39, 40]) (.dreg [oo 44 (.faddr 2 1 8), oo 45 (.load none 44), oo 46 (.load (some 3) 10), mo 47 1, mo 48 2, co 49 (.call 84 [46, 47, 48]), oo 50 (.mklist 3 [49]), oo 51 (.append 3 48 45 50), oo 52 (.faddr 2 1 8), os (.store 1 52 51)] [] 0 [1, 2, 6, 8, 38, 39, 40]))) (.reg [oo 53 (.bin .add 40 (.c (.int .i64 1))), mo 40 53] [1, 2, 6, 8, 38, 39, 40]))))))) (.seq (.reg [oo 54 (.load (some 3) 8), os (.store 3 6 54)] [6]) .ret)))))
def ha84 : Ann := ⟨[], [], [(0, [1, 2, 3, 6]), (1, [1, 2, 3, 6, 7]), (2, [1, 2, 3, 6, 7, 27]), (3, [6]), (4, [1, 2, 3, 6, 8]), (5, [1, 2, 6, 8, 38, 39, 40]), (6, [1, 2, 6, 8, 38, 39, 40, 41]), (7, [1, 2, 6, 8, 10, 38, 39, 40]), (8, [1, 2, 6, 8, 38, 39, 40]), (9, [1, 2, 6, 8, 38, 39, 40]), (10, [6])], []⟩
theorem hk84 : comp Try.prog ha84 Try.f84.ntmps Try.f84.code = some hc84 := by kernel_rfl
def w84 (p1 : GaType) (p2 : List (List UInt8)) (p3 : List (GaType)) (Q : GaType → Prop) : Prop :=
  ∃ J5 : Int → Prop, (∃ r6 : Int, sp36 p2 p1.Name r6 ∧ ((p1.Kind = (5 : Int) → (((0 : Int) ≤ r6 → ((r6 < (p3.length : Int) → (0 ≤ r6 ∧ r6 < (p3.length : Int)) ∧ ∀ a7 : GaType, p3[(r6 : Int).toNat]? = some a7 → Q (GaType.mk a7.Kind a7.Name a7.Args)) ∧ ((p3.length : Int) ≤ r6 → J5 r6))) ∧ (r6 < (0 : Int) → J5 r6))) ∧ (p1.Kind ≠ (5 : Int) → J5 r6))) ∧ ∀ (v4 : Int), J5 v4 → ∃ (I15 : (List GaType) → Int → Prop) (M16 : (List GaType) → Int → Nat), I15 ([] : List GaType) (0 : Int) ∧ ∀ (v8 : List GaType) (v9 : Int), I15 v8 v9 → ∀ v17 : Bool, v17 = decide (v9 < (p1.Args.length : Int)) → ((v17 = true → (0 ≤ v9 ∧ v9 < (p1.Args.length : Int)) ∧ ∀ a18 : GaType, p1.Args[(v9 : Int).toNat]? = some a18 → ∃ r19 : GaType, sp84 (GaType.mk a18.Kind a18.Name a18.Args) p2 p3 r19 ∧ ((v8.length + ([r19] : List GaType).length) * 48 ≤ 140737488355328) ∧ ∀ v20 : List GaType, v20 = v8 ++ ([r19] : List GaType) → (R64 (v9 + (1 : Int))) ∧ ∀ v21 : Int, v21 = v9 + (1 : Int) → (I15 v20 v21 ∧ M16 v20 v21 < M16 v8 v9)) ∧ (v17 = false → Q (GaType.mk p1.Kind p1.Name v8)))
theorem ok84 (p1 : GaType) (p2 : List (List UInt8)) (p3 : List (GaType)) (r : GaType) (hw : w84 p1 p2 p3 fun r' => r' = r) : sp84 p1 p2 p3 r := by
  refine zf (rs := [.c 6 (some 3)]) (g := zg84) Try.func84 hk84 ?_
  unfold w84 at hw
  show SC Try.prog Try.f84.ntmps 0 hc84 _ [(0, .agg [ii p1.Kind, .str p1.Name, ln eGaType p1.Args]), (1, ln eStr p2), (2, ln eGaType p3)] []
  unfold hc84
  refine q_reg (g_box (v := .agg [ii p1.Kind, .str p1.Name, ln eGaType p1.Args]) rfl rfl rfl (n := 0) rfl rfl (g_alloc (n := 1) rfl rfl (g_endq [(1, ln eStr p2), (2, ln eGaType p3), (3, .ptr 0 0), (6, .ptr 1 0)] rfl ?_)))
  obtain ⟨J5, hw, hk⟩ := hw
  refine sc_join (A := Int) (fun x => J5 x) (fun x => ([(1, ln eStr p2), (2, ln eGaType p3), (3, .ptr 0 0), (6, .ptr 1 0), (7, ii x), (27, .bool false)], [.cells [ii p1.Kind, .str p1.Name, ln eGaType p1.Args], .cells [ii 0, .str [], nl eGaType]])) ?_ ?_
  · rintro v4 hj
    have hw := hk v4 hj
    clear hk hj
    refine q_reg (g_faddr_p rfl (g_load_p rfl rfl rfl (g_faddr_p rfl (g_load_p rfl rfl rfl (g_build (cs := [ii p1.Kind, .str p1.Name, nl eGaType]) (ep_cons rfl (ep_cons rfl ep_nil)) rfl (g_alloc (n := 2) rfl rfl (g_sp (v := .agg [ii p1.Kind, .str p1.Name, nl eGaType]) (h' := [.cells [ii p1.Kind, .str p1.Name, ln eGaType p1.Args], .cells [ii 0, .str [], nl eGaType], .cells [ii p1.Kind, .str p1.Name, nl eGaType]]) rfl rfl rfl (g_endq [(1, ln eStr p2), (2, ln eGaType p3), (3, .ptr 0 0), (6, .ptr 1 0), (8, .ptr 2 0)] rfl ?_))))))))
    refine sc_seq (q_reg (g_faddr_p rfl (g_load_p rfl rfl rfl (g_len rfl (st_mv rfl (g_endq [(1, ln eStr p2), (2, ln eGaType p3), (6, .ptr 1 0), (8, .ptr 2 0), (38, ln eGaType p1.Args), (39, ii (p1.Args.length : Int)), (40, ii 0)] rfl ?_))))))
    refine sc_block ?_
    obtain ⟨I15, M16, hi, hw⟩ := hw
    refine sc_loop (X := { x : List GaType × Int // I15 x.1 x.2 }) (fun x => ([(1, ln eStr p2), (2, ln eGaType p3), (6, .ptr 0 0), (8, .ptr 1 0), (38, ln eGaType p1.Args), (39, ii (p1.Args.length : Int)), (40, ii x.1.2)], [.cells [ii 0, .str [], nl eGaType], .cells [ii p1.Kind, .str p1.Name, .list (List.map eGaType x.1.1) (.own 2 1 3)], .tok (1 + x.1.1.length)])) (fun x => M16 x.1.1 x.1.2) ⟨(([] : List GaType), (0 : Int)), hi⟩ ((w_acc_cell (l := ([] : List GaType)) (f := _) 2 2 3 (n := 3) (h' := [.cells [ii p1.Kind, .str p1.Name, ln eGaType p1.Args], .cells [ii 0, .str [], nl eGaType], .cells [ii p1.Kind, .str p1.Name, .list (List.map eGaType ([] : List GaType)) (.own 3 1 3)], .tok (1 + ([] : List GaType).length)]) rfl enc_GaType rfl rfl rfl).trans (wr [1, 2, 3])) ?_
    rintro ⟨⟨v8, v9⟩, hi2⟩
    have hw := hw v8 v9 hi2
    clear hi
    refine q_reg (gb_cmp rfl rfl trivial rfl hw fun v17 hw => g_endq [(1, ln eStr p2), (2, ln eGaType p3), (6, .ptr 0 0), (8, .ptr 1 0), (38, ln eGaType p1.Args), (39, ii (p1.Args.length : Int)), (40, ii v9), (41, .bool v17)] rfl ?_)
    refine sc_seq (s_cond rfl hw (fun hw => ?_) (fun hw => ?_))
    · refine sc_skip (sq_n (sc_seq (sc_block (q_reg (g_iaddrE enc_GaType (fun a18 => [ii a18.Kind, .str a18.Name, ln eGaType a18.Args]) cGaType_eq rfl rfl hw fun a18 hw => st_load_r (v := .agg [ii a18.Kind, .str a18.Name, ln eGaType a18.Args]) rfl rfl (g_alloc (n := 3) rfl rfl (g_sp (v := .agg [ii a18.Kind, .str a18.Name, ln eGaType a18.Args]) (h' := [.cells [ii 0, .str [], nl eGaType], .cells [ii p1.Kind, .str p1.Name, .list (List.map eGaType v8) (.own 2 1 3)], .tok (1 + v8.length), .cells [ii a18.Kind, .str a18.Name, ln eGaType a18.Args]]) rfl rfl rfl (g_endq [(1, ln eStr p2), (2, ln eGaType p3), (6, .ptr 0 0), (8, .ptr 1 0), (10, .ptr 3 0), (38, ln eGaType p1.Args), (39, ii (p1.Args.length : Int)), (40, ii v9)] rfl ?_))))))))
      refine s_dreg Try.mixed rfl (g_faddr_p rfl (g_load_p rfl rfl rfl (g_load_p (v := .agg [ii a18.Kind, .str a18.Name, ln eGaType a18.Args]) rfl rfl rfl (st_mv rfl (st_mv rfl (k_call dd (ec rfl (ec rfl (ec rfl en))) rfl hw fun r19 hw => g_mkl enc_GaType [r19] (ec rfl en) (mk_cons (eGaType_eq r19).symm mk_nil) (mz mkn) (g_appo enc_GaType rfl rfl rfl hw (fun z => [.cells [ii 0, .str [], nl eGaType], .cells [ii p1.Kind, .str p1.Name, .list (List.map eGaType v8) (.own 2 1 3)], .tok (1 + z.length), .cells [ii a18.Kind, .str a18.Name, ln eGaType a18.Args]]) (fun _ => rfl) fun v20 hw => g_faddr_p rfl (g_sp (v := .list (List.map eGaType v20) (.own 2 1 3)) (h' := [.cells [ii 0, .str [], nl eGaType], .cells [ii p1.Kind, .str p1.Name, .list (List.map eGaType v20) (.own 2 1 3)], .tok (1 + v20.length), .cells [ii a18.Kind, .str a18.Name, ln eGaType a18.Args]]) rfl rfl rfl (st_mid (g_end [(1, ln eStr p2), (2, ln eGaType p3), (6, .ptr 0 0), (8, .ptr 1 0), (38, ln eGaType p1.Args), (39, ii (p1.Args.length : Int)), (40, ii v9)] rfl ?_))))))))))
      refine bl_n (sq_n (s_reg (g_add rfl rfl hw fun v21 hw => st_mv rfl (g_end [(1, ln eStr p2), (2, ln eGaType p3), (6, .ptr 0 0), (8, .ptr 1 0), (38, ln eGaType p1.Args), (39, ii (p1.Args.length : Int)), (40, ii v21)] rfl ?_))))
      exact lo_n ⟨(v20, v21), hw.1⟩ hw.2 (wr [0, 1, 2])
    · refine sc_exit (sq_x (lo_x (bl_x (sq_n (q_reg (g_load_p (v := .agg [ii p1.Kind, .str p1.Name, .list (List.map eGaType v8) (.own 2 1 3)]) rfl rfl rfl (g_sp (v := .agg [ii p1.Kind, .str p1.Name, .list (List.map eGaType v8) (.own 2 1 3)]) (h' := [.cells [ii p1.Kind, .str p1.Name, .list (List.map eGaType v8) (.own 2 1 3)], .cells [ii p1.Kind, .str p1.Name, .list (List.map eGaType v8) (.own 2 1 3)], .tok (1 + v8.length)]) rfl rfl rfl (g_endq [(6, .ptr 0 0)] rfl ?_))))))))
      exact sc_ret (gr (g := zg84) (ho := fun _ => []) [.agg [ii p1.Kind, .str p1.Name, .list (List.map eGaType v8) (.own 2 1 3)]] [.agg [ii p1.Kind, .str p1.Name, ln eGaType v8]] hw (.inr rfl) (wr []))
  · clear hk
    refine q_reg (st_mv rfl (g_faddr_p rfl (g_load_p rfl rfl rfl (k_call dh (ec rfl (ec rfl en)) rfl hw fun r6 hw => st_mv rfl (g_endq [(1, ln eStr p2), (2, ln eGaType p3), (3, .ptr 0 0), (6, .ptr 1 0), (7, ii r6)] rfl ?_)))))
    refine q_reg (g_faddr_p rfl (g_load_p rfl rfl rfl (g_eqi rfl rfl hw (fun hw => st_mv rfl (st_g rfl (st_mv rfl (st_g rfl (g_geq rfl rfl hw (fun hw => st_pick_t rfl rfl rfl (st_mv rfl (st_g rfl (st_mv rfl (st_g rfl (st_mv rfl (st_g rfl (g_len rfl (st_g rfl (g_lss rfl rfl hw (fun hw => st_pick_t rfl rfl rfl (g_endq [(1, ln eStr p2), (2, ln eGaType p3), (3, .ptr 0 0), (6, .ptr 1 0), (7, ii r6), (27, .bool true)] rfl ?_)) (fun hw => st_pick_t rfl rfl rfl (g_endq [(1, ln eStr p2), (2, ln eGaType p3), (3, .ptr 0 0), (6, .ptr 1 0), (7, ii r6), (27, .bool false)] rfl ?_)))))))))))) (fun hw => st_pick_t rfl rfl rfl (st_mv rfl (st_gft rfl (st_gft rfl (st_gft rfl (st_gft rfl (st_pick_f rfl rfl rfl (g_endq [(1, ln eStr p2), (2, ln eGaType p3), (3, .ptr 0 0), (6, .ptr 1 0), (7, ii r6), (27, .bool false)] rfl ?_))))))))))))) (fun hw => st_mv rfl (st_gft rfl (st_gft rfl (st_pick_f rfl rfl rfl (st_mv rfl (st_gft rfl (st_gft rfl (st_gft rfl (st_gft rfl (st_pick_f rfl rfl rfl (g_endq [(1, ln eStr p2), (2, ln eGaType p3), (3, .ptr 0 0), (6, .ptr 1 0), (7, ii r6), (27, .bool false)] rfl ?_))))))))))))))
    · refine s_cond_t rfl (q_reg (st_mv rfl (st_mv rfl (g_iaddrE enc_GaType (fun a7 => [ii a7.Kind, .str a7.Name, ln eGaType a7.Args]) cGaType_eq rfl rfl hw fun a7 hw => st_load_r (v := .agg [ii a7.Kind, .str a7.Name, ln eGaType a7.Args]) rfl rfl (g_sp (v := .agg [ii a7.Kind, .str a7.Name, ln eGaType a7.Args]) (h' := [.cells [ii p1.Kind, .str p1.Name, ln eGaType p1.Args], .cells [ii a7.Kind, .str a7.Name, ln eGaType a7.Args]]) rfl rfl rfl (g_endq [(6, .ptr 1 0)] rfl ?_))))))
      exact sc_ret (jo_r (gr1 (g := zg84) (ho := fun _ => []) [.agg [ii a7.Kind, .str a7.Name, ln eGaType a7.Args]] hw (.inr rfl) (wr [])))
    · exact s_cond_f rfl (sc_skip (jo_n r6 hw ws))
    · exact s_cond_f rfl (sc_skip (jo_n r6 hw ws))
    · exact s_cond_f rfl (sc_skip (jo_n r6 hw ws))
def hc65 : C := (.seq (.reg [oo 4 (.mv (.c (.int .i64 0)))] [0, 1]) (.seq (.seq (.reg [mo 6 0, oo 7 (.len false 6), oo 8 (.mv (.c (.int .i64 0)))] [0, 1, 7, 8]) (.block 0 (.loop (.seq (.reg [oo 9 (.bin .lss 8 7)] [0, 1, 7, 8, 9]) (.seq (.cond 9 .skip (.exit 0)) (.seq (.block 1 (.seq (.reg [mo 10 8, mo 5 10] [0, 1, 5, 7, 8]) (.seq (.reg [mo 11 1, mo 12 0, mo 13 5, oo 14 (.iaddr 2 12 13), oo 15 (.load (some 2) 14), co 16 (.callv 11 [15])] [0, 1, 5, 7, 8, 16]) (.cond 16 (.seq (.reg [mo 17 5, mo 4 17] [4]) .ret) .skip)))) (.reg [oo 18 (.bin .add 8 (.c (.int .i64 1))), mo 8 18] [0, 1, 7, 8]))))))) (.seq (.reg [oo 4 (.mv (.c (.int .i64 (-1))))] [4]) .ret)))
def ha65 : Ann := ⟨[], [16, 48, 54, 57, 59, 66, 68, 71, 77, 78, 80, 83, 999999], [(0, [0, 1]), (1, [0, 1, 7, 8]), (2, [0, 1, 7, 8, 9]), (3, [0, 1, 5, 7, 8]), (4, [0, 1, 5, 7, 8, 16]), (5, [4]), (6, [0, 1, 7, 8]), (7, [4])], []⟩
theorem hk65 : comp Try.prog ha65 Try.f65.ntmps Try.f65.code = some hc65 := by kernel_rfl
def hc67 : C := (.seq (.reg [oo 4 (.mv (.c (.int .i64 0)))] [0, 1]) (.seq (.seq (.reg [mo 6 0, oo 7 (.len false 6), oo 8 (.mv (.c (.int .i64 0)))] [0, 1, 7, 8]) (.block 0 (.loop (.seq (.reg [oo 9 (.bin .lss 8 7)] [0, 1, 7, 8, 9]) (.seq (.cond 9 .skip (.exit 0)) (.seq (.block 1 (.seq (.reg [mo 10 8, mo 5 10] [0, 1, 5, 7, 8]) (.seq (.reg [mo 11 1, mo 12 0, mo 13 5, oo 14 (.iaddr 3 12 13), oo 15 (.load (some 3) 14), co 16 (.callv 11 [15])] [0, 1, 5, 7, 8, 16]) (.cond 16 (.seq (.reg [mo 17 5, mo 4 17] [4]) .ret) .skip)))) (.reg [oo 18 (.bin .add 8 (.c (.int .i64 1))), mo 8 18] [0, 1, 7, 8]))))))) (.seq (.reg [oo 4 (.mv (.c (.int .i64 (-1))))] [4]) .ret)))
def ha67 : Ann := ⟨[], [16, 48, 54, 57, 59, 66, 68, 71, 77, 78, 80, 83, 999999], [(0, [0, 1]), (1, [0, 1, 7, 8]), (2, [0, 1, 7, 8, 9]), (3, [0, 1, 5, 7, 8]), (4, [0, 1, 5, 7, 8, 16]), (5, [4]), (6, [0, 1, 7, 8]), (7, [4])], []⟩
theorem hk67 : comp Try.prog ha67 Try.f67.ntmps Try.f67.code = some hc67 := by kernel_rfl
def w67_68 (p1 : List (GaData)) (p2 : List UInt8) (Q : Int × List UInt8 → Prop) : Prop :=
  ∃ (I9 : (List UInt8) → Int → Prop) (M10 : (List UInt8) → Int → Nat), I9 p2 (0 : Int) ∧ ∀ (v3 : List UInt8) (v4 : Int), I9 v3 v4 → ∀ v11 : Bool, v11 = decide (v4 < (p1.length : Int)) → ((v11 = true → (0 ≤ v4 ∧ v4 < (p1.length : Int)) ∧ ∀ a12 : GaData, p1[(v4 : Int).toNat]? = some a12 → ∃ r13 : Bool × List UInt8, sp68 a12 v3 r13 ∧ ((r13.1 = true → Q (v4, r13.2)) ∧ (r13.1 = false → (R64 (v4 + (1 : Int))) ∧ ∀ v14 : Int, v14 = v4 + (1 : Int) → (I9 r13.2 v14 ∧ M10 r13.2 v14 < M10 v3 v4)))) ∧ (v11 = false → Q ((-1 : Int), v3)))
theorem ok67_68 (p1 : List (GaData)) (p2 : List UInt8) (r : Int × List UInt8) (hw : w67_68 p1 p2 fun r' => r' = r) : sp67_68 p1 p2 r := by
  refine zh (rs := [.t 4]) Try.func67 hk67 ?_
  unfold w67_68 at hw
  show SC Try.prog Try.f67.ntmps 1 hc67 _ [(0, ln eGaData p1), (1, .func 68 [.ptr 0 0])] [.cells [.str p2]]
  unfold hc67
  refine q_reg (st_mv rfl (g_endq [(0, ln eGaData p1), (1, .func 68 [.ptr 0 0])] rfl ?_))
  refine sc_seq (q_reg (st_mv rfl (g_len rfl (st_mv rfl (g_endq [(0, ln eGaData p1), (1, .func 68 [.ptr 0 0]), (7, ii (p1.length : Int)), (8, ii 0)] rfl ?_)))))
  refine sc_block ?_
  obtain ⟨I9, M10, hi, hw⟩ := hw
  refine sc_loop (X := { x : List UInt8 × Int // I9 x.1 x.2 }) (fun x => ([(0, ln eGaData p1), (1, .func 68 [.ptr 0 0]), (7, ii (p1.length : Int)), (8, ii x.1.2)], [.cells [.str x.1.1]])) (fun x => M10 x.1.1 x.1.2) ⟨(p2, (0 : Int)), hi⟩ ws ?_
  rintro ⟨⟨v3, v4⟩, hi2⟩
  have hw := hw v3 v4 hi2
  clear hi
  refine q_reg (gb_cmp rfl rfl trivial rfl hw fun v11 hw => g_endq [(0, ln eGaData p1), (1, .func 68 [.ptr 0 0]), (7, ii (p1.length : Int)), (8, ii v4), (9, .bool v11)] rfl ?_)
  refine sc_seq (s_cond rfl hw (fun hw => ?_) (fun hw => ?_))
  · refine sc_skip (sq_n (sc_seq (sc_block (q_reg (st_mv rfl (st_mv rfl (g_endq [(0, ln eGaData p1), (1, .func 68 [.ptr 0 0]), (5, ii v4), (7, ii (p1.length : Int)), (8, ii v4)] rfl ?_)))))))
    refine q_reg (st_mv rfl (st_mv rfl (st_mv rfl (g_iaddr enc_GaData rfl rfl hw fun a12 hw => st_load_r (v := eGaData a12) rfl rfl (khv hh rfl (g2 := fun r13 : Bool × List UInt8 => .bool r13.1) (H2 := fun r13 : Bool × List UInt8 => [.cells [.str r13.2]]) [0] [0] 1 0 (ec rfl en) hw fun r13 hw => g_endq [(0, ln eGaData p1), (1, .func 68 [.ptr 0 0]), (5, ii v4), (7, ii (p1.length : Int)), (8, ii v4), (16, .bool r13.1)] rfl ?_)))))
    refine s_cond rfl hw (fun hw => ?_) (fun hw => ?_)
    · refine q_reg (st_mv rfl (st_mv rfl (g_endq [(4, ii v4)] rfl ?_)))
      exact sc_ret (bl_r (sq_r (lo_r (bl_r (sq_r (gr1 (g := zg67_68) (ho := zo67_68) [ii v4] hw (.inr rfl) ws))))))
    · refine sc_skip (bl_n (sq_n (s_reg (g_add rfl rfl hw fun v14 hw => st_mv rfl (g_end [(0, ln eGaData p1), (1, .func 68 [.ptr 0 0]), (7, ii (p1.length : Int)), (8, ii v14)] rfl ?_)))))
      exact lo_n ⟨(r13.2, v14), hw.1⟩ hw.2 ws
  · refine sc_exit (sq_x (lo_x (bl_x (sq_n (q_reg (st_mv rfl (g_endq [(4, ii (-1 : Int))] rfl ?_)))))))
    exact sc_ret (gr1 (g := zg67_68) (ho := zo67_68) [ii (-1 : Int)] hw (.inr rfl) ws)
def w65_83 (p1 : List (GaMake)) (p2 : List UInt8) (Q : Int × List UInt8 → Prop) : Prop :=
  ∃ (I9 : (List UInt8) → Int → Prop) (M10 : (List UInt8) → Int → Nat), I9 p2 (0 : Int) ∧ ∀ (v3 : List UInt8) (v4 : Int), I9 v3 v4 → ∀ v11 : Bool, v11 = decide (v4 < (p1.length : Int)) → ((v11 = true → (0 ≤ v4 ∧ v4 < (p1.length : Int)) ∧ ∀ a12 : GaMake, p1[(v4 : Int).toNat]? = some a12 → ∃ r13 : Bool × List UInt8, sp83 a12 v3 r13 ∧ ((r13.1 = true → Q (v4, r13.2)) ∧ (r13.1 = false → (R64 (v4 + (1 : Int))) ∧ ∀ v14 : Int, v14 = v4 + (1 : Int) → (I9 r13.2 v14 ∧ M10 r13.2 v14 < M10 v3 v4)))) ∧ (v11 = false → Q ((-1 : Int), v3)))
theorem ok65_83 (p1 : List (GaMake)) (p2 : List UInt8) (r : Int × List UInt8) (hw : w65_83 p1 p2 fun r' => r' = r) : sp65_83 p1 p2 r := by
  refine zh (rs := [.t 4]) Try.func65 hk65 ?_
  unfold w65_83 at hw
  show SC Try.prog Try.f65.ntmps 1 hc65 _ [(0, ln eGaMake p1), (1, .func 83 [.ptr 0 0])] [.cells [.str p2]]
  unfold hc65
  refine q_reg (st_mv rfl (g_endq [(0, ln eGaMake p1), (1, .func 83 [.ptr 0 0])] rfl ?_))
  refine sc_seq (q_reg (st_mv rfl (g_len rfl (st_mv rfl (g_endq [(0, ln eGaMake p1), (1, .func 83 [.ptr 0 0]), (7, ii (p1.length : Int)), (8, ii 0)] rfl ?_)))))
  refine sc_block ?_
  obtain ⟨I9, M10, hi, hw⟩ := hw
  refine sc_loop (X := { x : List UInt8 × Int // I9 x.1 x.2 }) (fun x => ([(0, ln eGaMake p1), (1, .func 83 [.ptr 0 0]), (7, ii (p1.length : Int)), (8, ii x.1.2)], [.cells [.str x.1.1]])) (fun x => M10 x.1.1 x.1.2) ⟨(p2, (0 : Int)), hi⟩ ws ?_
  rintro ⟨⟨v3, v4⟩, hi2⟩
  have hw := hw v3 v4 hi2
  clear hi
  refine q_reg (gb_cmp rfl rfl trivial rfl hw fun v11 hw => g_endq [(0, ln eGaMake p1), (1, .func 83 [.ptr 0 0]), (7, ii (p1.length : Int)), (8, ii v4), (9, .bool v11)] rfl ?_)
  refine sc_seq (s_cond rfl hw (fun hw => ?_) (fun hw => ?_))
  · refine sc_skip (sq_n (sc_seq (sc_block (q_reg (st_mv rfl (st_mv rfl (g_endq [(0, ln eGaMake p1), (1, .func 83 [.ptr 0 0]), (5, ii v4), (7, ii (p1.length : Int)), (8, ii v4)] rfl ?_)))))))
    refine q_reg (st_mv rfl (st_mv rfl (st_mv rfl (g_iaddr enc_GaMake rfl rfl hw fun a12 hw => st_load_r (v := eGaMake a12) rfl rfl (khv hh rfl (g2 := fun r13 : Bool × List UInt8 => .bool r13.1) (H2 := fun r13 : Bool × List UInt8 => [.cells [.str r13.2]]) [0] [0] 1 0 (ec rfl en) hw fun r13 hw => g_endq [(0, ln eGaMake p1), (1, .func 83 [.ptr 0 0]), (5, ii v4), (7, ii (p1.length : Int)), (8, ii v4), (16, .bool r13.1)] rfl ?_)))))
    refine s_cond rfl hw (fun hw => ?_) (fun hw => ?_)
    · refine q_reg (st_mv rfl (st_mv rfl (g_endq [(4, ii v4)] rfl ?_)))
      exact sc_ret (bl_r (sq_r (lo_r (bl_r (sq_r (gr1 (g := zg65_83) (ho := zo65_83) [ii v4] hw (.inr rfl) ws))))))
    · refine sc_skip (bl_n (sq_n (s_reg (g_add rfl rfl hw fun v14 hw => st_mv rfl (g_end [(0, ln eGaMake p1), (1, .func 83 [.ptr 0 0]), (7, ii (p1.length : Int)), (8, ii v14)] rfl ?_)))))
      exact lo_n ⟨(r13.2, v14), hw.1⟩ hw.2 ws
  · refine sc_exit (sq_x (lo_x (bl_x (sq_n (q_reg (st_mv rfl (g_endq [(4, ii (-1 : Int))] rfl ?_)))))))
    exact sc_ret (gr1 (g := zg65_83) (ho := zo65_83) [ii (-1 : Int)] hw (.inr rfl) ws)
end Go.Hw.VR

