import Derived.Test.YthogcmalebekkaaHwR1b
set_option linter.unusedVariables false
set_option linter.unusedSimpArgs false
namespace Go.Hw.VR
open Go Go.Proofs
def hc84 : C := (.seq (.reg [oo 3 (.box none 3 0), oo 6 (.alloc none [(.int .i64 0), (.str []), (.list [] .full)])] [1, 2, 3, 6]) (.seq (.seq (.reg [mo 11 1, oo 12 (.faddr 1 1 3), oo 13 (.load none 12), co 14 (.call 36 [11, 13]), mo 7 14] [1, 2, 3, 6, 7]) (.seq (.reg [oo 15 (.faddr 0 1 3), oo 16 (.load none 15), oo 17 (.eqv false .int 16 (.c (.int .i64 5))), mo 18 17, og 19 (.mv 7) 18 true, og 20 (.bin .geq 19 (.c (.int .i64 0))) 18 true, oo 21 (.pick 18 20 (.c (.bool false))), mo 22 21, og 23 (.mv 7) 22 true, og 24 (.mv 2) 22 true, og 25 (.len false 24) 22 true, og 26 (.bin .lss 23 25) 22 true, oo 27 (.pick 22 26 (.c (.bool false)))] [1, 2, 3, 6, 7, 27]) (.cond 27 (.seq (.reg [mo 28 2, mo 29 7, oo 30 (.iaddr 3 28 29), oo 31 (.load (some 3) 30), os (.store 3 6 31)] [6]) .ret) .skip))) (.seq (.reg [oo 32 (.faddr 0 1 3), oo 33 (.load none 32), oo 34 (.faddr 1 1 3), oo 35 (.load none 34), oo 36 (.build [(.int .i64 0), (.str []), (.list [] .full)] [(0, 1, 33), (1, 1, 35)]), oo 8 (.alloc none [(.int .i64 0), (.str []), (.list [] .full)]), os (.store 3 8 36)] [1, 2, 3, 6, 8]) (.seq (.seq (.reg [oo 37 (.faddr 2 1 3), oo 38 (.load none 37), oo 39 (.len false 38), oo 40 (.mv (.c (.int .i64 0)))] [1, 2, 6, 8, 38, 39, 40]) (.block 0 (.loop (.seq (.reg [oo 41 (.bin .lss 40 39)] [1, 2, 6, 8, 38, 39, 40, 41]) (.seq (.cond 41 .skip (.exit 0)) (.seq (.block 1 (.seq (.reg [oo 42 (.iaddr 3 38 40), oo 43 (.load (some 3) 42), oo 10 (.alloc none [(.int .i64 0), (.str []), (.list [] .full)]), os (.store 3 10 43)] [1, 2, 6, 8, 10, 38, 39, 40]) (.dreg [oo 44 (.faddr 2 1 8), oo 45 (.load none 44), oo 46 (.load (some 3) 10), mo 47 1, mo 48 2, co 49 (.call 84 [46, 47, 48]), oo 50 (.mklist 3 [49]), oo 51 (.append 3 48 45 50), oo 52 (.faddr 2 1 8), os (.store 1 52 51)] [] 0 [1, 2, 6, 8, 38, 39, 40]))) (.reg [oo 53 (.bin .add 40 (.c (.int .i64 1))), mo 40 53] [1, 2, 6, 8, 38, 39, 40]))))))) (.seq (.reg [oo 54 (.load (some 3) 8), os (.store 3 6 54)] [6]) .ret)))))
def ha84 : Ann := ⟨[], [], [(0, [1, 2, 3, 6]), (1, [1, 2, 3, 6, 7]), (2, [1, 2, 3, 6, 7, 27]), (3, [6]), (4, [1, 2, 3, 6, 8]), (5, [1, 2, 6, 8, 38, 39, 40]), (6, [1, 2, 6, 8, 38, 39, 40, 41]), (7, [1, 2, 6, 8, 10, 38, 39, 40]), (8, [1, 2, 6, 8, 38, 39, 40]), (9, [1, 2, 6, 8, 38, 39, 40]), (10, [6])], []⟩
theorem hk84 : comp Try.prog ha84 Try.f84.ntmps Try.f84.code = some hc84 := by kernel_rfl
def w84 (p1 : GTy) (p2 : List (List UInt8)) (p3 : List (GTy)) (Q : GTy → Prop) : Prop :=
  ∃ J5 : Int → Prop, (∃ r6 : Int, sp36 p2 p1.Name r6 ∧ ((p1.Kind = (5 : Int) → (((0 : Int) ≤ r6 → ((r6 < (p3.length : Int) → (0 ≤ r6 ∧ r6 < (p3.length : Int)) ∧ ∀ a7 : GTy, p3[(r6 : Int).toNat]? = some a7 → Q (GTy.mk a7.Kind a7.Name a7.Args)) ∧ ((p3.length : Int) ≤ r6 → J5 r6))) ∧ (r6 < (0 : Int) → J5 r6))) ∧ (p1.Kind ≠ (5 : Int) → J5 r6))) ∧ ∀ (v4 : Int), J5 v4 → ∃ (I15 : (List GTy) → Int → Prop) (M16 : (List GTy) → Int → Nat), I15 ([] : List GTy) (0 : Int) ∧ ∀ (v8 : List GTy) (v9 : Int), I15 v8 v9 → ∀ v17 : Bool, v17 = decide (v9 < (p1.Args.length : Int)) → ((v17 = true → (0 ≤ v9 ∧ v9 < (p1.Args.length : Int)) ∧ ∀ a18 : GTy, p1.Args[(v9 : Int).toNat]? = some a18 → ∃ r19 : GTy, sp84 (GTy.mk a18.Kind a18.Name a18.Args) p2 p3 r19 ∧ ((v8.length + ([r19] : List GTy).length) * 48 ≤ 140737488355328) ∧ ∀ v20 : List GTy, v20 = v8 ++ ([r19] : List GTy) → (R64 (v9 + (1 : Int))) ∧ ∀ v21 : Int, v21 = v9 + (1 : Int) → (I15 v20 v21 ∧ M16 v20 v21 < M16 v8 v9)) ∧ (v17 = false → Q (GTy.mk p1.Kind p1.Name v8)))
theorem ok84 (p1 : GTy) (p2 : List (List UInt8)) (p3 : List (GTy)) (r : GTy) (hw : w84 p1 p2 p3 fun r' => r' = r) : sp84 p1 p2 p3 r := by
  refine zf (rs := [.c 6 (some 3)]) (g := zg84) Try.func84 hk84 ?_
  unfold w84 at hw
  show SC Try.prog Try.f84.ntmps 0 hc84 _ [(0, .agg [ii p1.Kind, .str p1.Name, ln eGTy p1.Args]), (1, ln eStr p2), (2, ln eGTy p3)] []
  unfold hc84
  refine qrg (g_box (v := .agg [ii p1.Kind, .str p1.Name, ln eGTy p1.Args]) rfl rfl rfl (n := 0) rfl rfl (g_alloc (n := 1) rfl rfl (gq [(1, ln eStr p2), (2, ln eGTy p3), (3, .ptr 0 0), (6, .ptr 1 0)] rfl ?_)))
  obtain ⟨J5, hw, hk⟩ := hw
  refine sc_join (A := Int) (fun x => J5 x) (fun x => ([(1, ln eStr p2), (2, ln eGTy p3), (3, .ptr 0 0), (6, .ptr 1 0), (7, ii x), (27, .bool false)], [.cells [ii p1.Kind, .str p1.Name, ln eGTy p1.Args], .cells [ii 0, .str [], nl eGTy]])) ?_ ?_
  · rintro v4 hj
    have hw := hk v4 hj
    clear hk hj
    refine qrg (g_faddr_p rfl (glp rfl rfl rfl (g_faddr_p rfl (glp rfl rfl rfl (g_build (cs := [ii p1.Kind, .str p1.Name, nl eGTy]) (ep_cons rfl (ep_cons rfl ep_nil)) rfl (g_alloc (n := 2) rfl rfl (g_sp (v := .agg [ii p1.Kind, .str p1.Name, nl eGTy]) (h' := [.cells [ii p1.Kind, .str p1.Name, ln eGTy p1.Args], .cells [ii 0, .str [], nl eGTy], .cells [ii p1.Kind, .str p1.Name, nl eGTy]]) rfl rfl rfl (gq [(1, ln eStr p2), (2, ln eGTy p3), (3, .ptr 0 0), (6, .ptr 1 0), (8, .ptr 2 0)] rfl ?_))))))))
    refine sc_seq (qrg (g_faddr_p rfl (glp rfl rfl rfl (g_len rfl (smv rfl (gq [(1, ln eStr p2), (2, ln eGTy p3), (6, .ptr 1 0), (8, .ptr 2 0), (38, ln eGTy p1.Args), (39, ii (p1.Args.length : Int)), (40, ii 0)] rfl ?_))))))
    refine sc_block ?_
    obtain ⟨I15, M16, hi, hw⟩ := hw
    refine sc_loop (X := { x : List GTy × Int // I15 x.1 x.2 }) (fun x => ([(1, ln eStr p2), (2, ln eGTy p3), (6, .ptr 0 0), (8, .ptr 1 0), (38, ln eGTy p1.Args), (39, ii (p1.Args.length : Int)), (40, ii x.1.2)], [.cells [ii 0, .str [], nl eGTy], .cells [ii p1.Kind, .str p1.Name, .list (List.map eGTy x.1.1) (.own 2 1 3)], .tok (1 + x.1.1.length)])) (fun x => M16 x.1.1 x.1.2) ⟨(([] : List GTy), (0 : Int)), hi⟩ ((w_acc_cell (l := ([] : List GTy)) (f := _) 2 2 3 (n := 3) (h' := [.cells [ii p1.Kind, .str p1.Name, ln eGTy p1.Args], .cells [ii 0, .str [], nl eGTy], .cells [ii p1.Kind, .str p1.Name, .list (List.map eGTy ([] : List GTy)) (.own 3 1 3)], .tok (1 + ([] : List GTy).length)]) rfl enc_GTy rfl rfl rfl).trans (wr [1, 2, 3])) ?_
    rintro ⟨⟨v8, v9⟩, hi2⟩
    have hw := hw v8 v9 hi2
    clear hi
    refine qrg (gb_cmp rfl rfl trivial rfl hw fun v17 hw => gq [(1, ln eStr p2), (2, ln eGTy p3), (6, .ptr 0 0), (8, .ptr 1 0), (38, ln eGTy p1.Args), (39, ii (p1.Args.length : Int)), (40, ii v9), (41, .bool v17)] rfl ?_)
    refine sc_seq (s_cond rfl hw (fun hw => ?_) (fun hw => ?_))
    · refine sc_skip (sq_n (sc_seq (sc_block (qrg (g_iaddrE enc_GTy (fun a18 => [ii a18.Kind, .str a18.Name, ln eGTy a18.Args]) cGTy_eq rfl rfl hw fun a18 hw => st_load_r (v := .agg [ii a18.Kind, .str a18.Name, ln eGTy a18.Args]) rfl rfl (g_alloc (n := 3) rfl rfl (g_sp (v := .agg [ii a18.Kind, .str a18.Name, ln eGTy a18.Args]) (h' := [.cells [ii 0, .str [], nl eGTy], .cells [ii p1.Kind, .str p1.Name, .list (List.map eGTy v8) (.own 2 1 3)], .tok (1 + v8.length), .cells [ii a18.Kind, .str a18.Name, ln eGTy a18.Args]]) rfl rfl rfl (gq [(1, ln eStr p2), (2, ln eGTy p3), (6, .ptr 0 0), (8, .ptr 1 0), (10, .ptr 3 0), (38, ln eGTy p1.Args), (39, ii (p1.Args.length : Int)), (40, ii v9)] rfl ?_))))))))
      refine s_dreg Try.mixed rfl (g_faddr_p rfl (glp rfl rfl rfl (glp (v := .agg [ii a18.Kind, .str a18.Name, ln eGTy a18.Args]) rfl rfl rfl (smv rfl (smv rfl (k_call dd (ec rfl (ec rfl (ec rfl en))) rfl hw fun r19 hw => g_mkl enc_GTy [r19] (ec rfl en) (mk_cons (eGTy_eq r19).symm mk_nil) (mz mkn) (g_appo enc_GTy rfl rfl rfl hw (fun z => [.cells [ii 0, .str [], nl eGTy], .cells [ii p1.Kind, .str p1.Name, .list (List.map eGTy v8) (.own 2 1 3)], .tok (1 + z.length), .cells [ii a18.Kind, .str a18.Name, ln eGTy a18.Args]]) (fun _ => rfl) fun v20 hw => g_faddr_p rfl (g_sp (v := .list (List.map eGTy v20) (.own 2 1 3)) (h' := [.cells [ii 0, .str [], nl eGTy], .cells [ii p1.Kind, .str p1.Name, .list (List.map eGTy v20) (.own 2 1 3)], .tok (1 + v20.length), .cells [ii a18.Kind, .str a18.Name, ln eGTy a18.Args]]) rfl rfl rfl (st_mid (g_end [(1, ln eStr p2), (2, ln eGTy p3), (6, .ptr 0 0), (8, .ptr 1 0), (38, ln eGTy p1.Args), (39, ii (p1.Args.length : Int)), (40, ii v9)] rfl ?_))))))))))
      refine bl_n (sq_n (s_reg (g_add rfl rfl hw fun v21 hw => smv rfl (g_end [(1, ln eStr p2), (2, ln eGTy p3), (6, .ptr 0 0), (8, .ptr 1 0), (38, ln eGTy p1.Args), (39, ii (p1.Args.length : Int)), (40, ii v21)] rfl ?_))))
      exact lo_n ⟨(v20, v21), hw.1⟩ hw.2 (wr [0, 1, 2])
    · refine sc_exit (sq_x (lo_x (bl_x (sq_n (qrg (glp (v := .agg [ii p1.Kind, .str p1.Name, .list (List.map eGTy v8) (.own 2 1 3)]) rfl rfl rfl (g_sp (v := .agg [ii p1.Kind, .str p1.Name, .list (List.map eGTy v8) (.own 2 1 3)]) (h' := [.cells [ii p1.Kind, .str p1.Name, .list (List.map eGTy v8) (.own 2 1 3)], .cells [ii p1.Kind, .str p1.Name, .list (List.map eGTy v8) (.own 2 1 3)], .tok (1 + v8.length)]) rfl rfl rfl (gq [(6, .ptr 0 0)] rfl ?_))))))))
      exact sc_ret (gr (g := zg84) (ho := fun _ => []) [.agg [ii p1.Kind, .str p1.Name, .list (List.map eGTy v8) (.own 2 1 3)]] [.agg [ii p1.Kind, .str p1.Name, ln eGTy v8]] hw (.inr rfl) (wr []))
  · clear hk
    refine qrg (smv rfl (g_faddr_p rfl (glp rfl rfl rfl (k_call dh (ec rfl (ec rfl en)) rfl hw fun r6 hw => smv rfl (gq [(1, ln eStr p2), (2, ln eGTy p3), (3, .ptr 0 0), (6, .ptr 1 0), (7, ii r6)] rfl ?_)))))
    refine qrg (g_faddr_p rfl (glp rfl rfl rfl (g_eqi rfl rfl hw (fun hw => smv rfl (st_g rfl (smv rfl (st_g rfl (g_geq rfl rfl hw (fun hw => st_pick_t rfl rfl rfl (smv rfl (st_g rfl (smv rfl (st_g rfl (smv rfl (st_g rfl (g_len rfl (st_g rfl (g_lss rfl rfl hw (fun hw => st_pick_t rfl rfl rfl (gq [(1, ln eStr p2), (2, ln eGTy p3), (3, .ptr 0 0), (6, .ptr 1 0), (7, ii r6), (27, .bool true)] rfl ?_)) (fun hw => st_pick_t rfl rfl rfl (gq [(1, ln eStr p2), (2, ln eGTy p3), (3, .ptr 0 0), (6, .ptr 1 0), (7, ii r6), (27, .bool false)] rfl ?_)))))))))))) (fun hw => st_pick_t rfl rfl rfl (smv rfl (st_gft rfl (st_gft rfl (st_gft rfl (st_gft rfl (st_pick_f rfl rfl rfl (gq [(1, ln eStr p2), (2, ln eGTy p3), (3, .ptr 0 0), (6, .ptr 1 0), (7, ii r6), (27, .bool false)] rfl ?_))))))))))))) (fun hw => smv rfl (st_gft rfl (st_gft rfl (st_pick_f rfl rfl rfl (smv rfl (st_gft rfl (st_gft rfl (st_gft rfl (st_gft rfl (st_pick_f rfl rfl rfl (gq [(1, ln eStr p2), (2, ln eGTy p3), (3, .ptr 0 0), (6, .ptr 1 0), (7, ii r6), (27, .bool false)] rfl ?_))))))))))))))
    · refine s_cond_t rfl (qrg (smv rfl (smv rfl (g_iaddrE enc_GTy (fun a7 => [ii a7.Kind, .str a7.Name, ln eGTy a7.Args]) cGTy_eq rfl rfl hw fun a7 hw => st_load_r (v := .agg [ii a7.Kind, .str a7.Name, ln eGTy a7.Args]) rfl rfl (g_sp (v := .agg [ii a7.Kind, .str a7.Name, ln eGTy a7.Args]) (h' := [.cells [ii p1.Kind, .str p1.Name, ln eGTy p1.Args], .cells [ii a7.Kind, .str a7.Name, ln eGTy a7.Args]]) rfl rfl rfl (gq [(6, .ptr 1 0)] rfl ?_))))))
      exact sc_ret (jo_r (gr1 (g := zg84) (ho := fun _ => []) [.agg [ii a7.Kind, .str a7.Name, ln eGTy a7.Args]] hw (.inr rfl) (wr [])))
    · exact s_cond_f rfl (sc_skip (jo_n r6 hw ws))
    · exact s_cond_f rfl (sc_skip (jo_n r6 hw ws))
    · exact s_cond_f rfl (sc_skip (jo_n r6 hw ws))
def hc31 : C := (.seq (.reg [oo 6 (.mv (.c (.bool false)))] [0, 1, 2]) (.seq (.seq (.reg [mo 10 0, oo 11 (.len false 10), mo 12 1, oo 13 (.len false 12), oo 14 (.eqv true .int 11 13)] [0, 1, 2, 14]) (.cond 14 (.seq (.reg [oo 6 (.mv (.c (.bool false)))] [6]) .ret) .skip)) (.seq (.seq (.reg [mo 15 0, oo 16 (.len false 15), oo 17 (.mv (.c (.int .i64 0)))] [1, 2, 15, 16, 17]) (.block 0 (.loop (.seq (.reg [oo 18 (.bin .lss 17 16)] [1, 2, 15, 16, 17, 18]) (.seq (.cond 18 .skip (.exit 0)) (.seq (.block 1 (.seq (.reg [mo 19 17, oo 20 (.iaddr 4 15 17), oo 21 (.load (some 4) 20), oo 8 (.alloc none [(.int .i64 0), (.int .i64 0), (.str []), (.list [] .full)]), mo 7 19, os (.store 4 8 21)] [1, 2, 7, 8, 15, 16, 17]) (.seq (.reg [mo 22 1, mo 23 7, oo 24 (.iaddr 4 22 23), oo 25 (.load (some 4) 24), oo 9 (.alloc none [(.int .i64 0), (.int .i64 0), (.str []), (.list [] .full)]), os (.store 4 9 25)] [1, 2, 8, 9, 15, 16, 17]) (.seq (.reg [mo 26 2, oo 27 (.load (some 4) 8), oo 28 (.load (some 4) 9), co 29 (.callv 26 [27, 28]), oo 30 (.un .not 29)] [1, 2, 15, 16, 17, 30]) (.cond 30 (.seq (.reg [oo 6 (.mv (.c (.bool false)))] [6]) .ret) .skip))))) (.reg [oo 31 (.bin .add 17 (.c (.int .i64 1))), mo 17 31] [1, 2, 15, 16, 17]))))))) (.seq (.reg [oo 6 (.mv (.c (.bool true)))] [6]) .ret))))
def ha31 : Ann := ⟨[], [16, 48, 54, 57, 59, 66, 68, 71, 77, 78, 80, 83, 999999], [(0, [0, 1, 2]), (1, [0, 1, 2, 14]), (2, [6]), (3, [1, 2, 15, 16, 17]), (4, [1, 2, 15, 16, 17, 18]), (5, [1, 2, 7, 8, 15, 16, 17]), (6, [1, 2, 8, 9, 15, 16, 17]), (7, [1, 2, 15, 16, 17, 30]), (8, [6]), (9, [1, 2, 15, 16, 17]), (10, [6])], []⟩
theorem hk31 : comp Try.prog ha31 Try.f31.ntmps Try.f31.code = some hc31 := by kernel_rfl
def w31_17 (p1 : List (GVl)) (p2 : List (GVl)) (Q : Bool → Prop) : Prop :=
  (((p1.length : Int) ≠ (p2.length : Int) → Q false) ∧ ((p1.length : Int) = (p2.length : Int) → ∃ (I9 : Int → Prop) (M10 : Int → Nat), I9 (0 : Int) ∧ ∀ (v3 : Int), I9 v3 → ∀ v11 : Bool, v11 = decide (v3 < (p1.length : Int)) → ((v11 = true → (0 ≤ v3 ∧ v3 < (p1.length : Int)) ∧ ∀ a12 : GVl, p1[(v3 : Int).toNat]? = some a12 → (0 ≤ v3 ∧ v3 < (p2.length : Int)) ∧ ∀ a13 : GVl, p2[(v3 : Int).toNat]? = some a13 → ∃ r14 : Bool, sp17 (GVl.mk a12.Kind a12.Num a12.Text a12.Args) (GVl.mk a13.Kind a13.Num a13.Text a13.Args) r14 ∧ (((!r14) = true → Q false) ∧ ((!r14) = false → (R64 (v3 + (1 : Int))) ∧ ∀ v15 : Int, v15 = v3 + (1 : Int) → (I9 v15 ∧ M10 v15 < M10 v3)))) ∧ (v11 = false → Q true))))
theorem ok31_17 (p1 : List (GVl)) (p2 : List (GVl)) (r : Bool) (hw : w31_17 p1 p2 fun r' => r' = r) : sp31_17 p1 p2 r := by
  refine zf (rs := [.t 6]) (g := zg31_17) Try.func31 hk31 ?_
  unfold w31_17 at hw
  show SC Try.prog Try.f31.ntmps 0 hc31 _ [(0, ln eGVl p1), (1, ln eGVl p2), (2, .func 17 [])] []
  unfold hc31
  refine qrg (smv rfl (gq [(0, ln eGVl p1), (1, ln eGVl p2), (2, .func 17 [])] rfl ?_))
  refine sc_seq (qrg (smv rfl (g_len rfl (smv rfl (g_len rfl (g_nei rfl rfl hw (fun hw => gq [(0, ln eGVl p1), (1, ln eGVl p2), (2, .func 17 []), (14, .bool true)] rfl ?_) (fun hw => gq [(0, ln eGVl p1), (1, ln eGVl p2), (2, .func 17 []), (14, .bool false)] rfl ?_)))))))
  · refine s_cond_t rfl (qrg (smv rfl (gq [(6, .bool false)] rfl ?_)))
    exact sc_ret (sq_r (gr1 (g := zg31_17) (ho := fun _ => []) [.bool false] hw (.inr rfl) ws))
  · refine s_cond_f rfl (sc_skip (sq_n (sc_seq (qrg (smv rfl (g_len rfl (smv rfl (gq [(1, ln eGVl p2), (2, .func 17 []), (15, ln eGVl p1), (16, ii (p1.length : Int)), (17, ii 0)] rfl ?_))))))))
    refine sc_block ?_
    obtain ⟨I9, M10, hi, hw⟩ := hw
    refine sc_loop (X := { x : Int // I9 x }) (fun x => ([(1, ln eGVl p2), (2, .func 17 []), (15, ln eGVl p1), (16, ii (p1.length : Int)), (17, ii x.1)], [])) (fun x => M10 x.1) ⟨(0 : Int), hi⟩ ws ?_
    rintro ⟨v3, hi2⟩
    have hw := hw v3 hi2
    clear hi
    refine qrg (gb_cmp rfl rfl trivial rfl hw fun v11 hw => gq [(1, ln eGVl p2), (2, .func 17 []), (15, ln eGVl p1), (16, ii (p1.length : Int)), (17, ii v3), (18, .bool v11)] rfl ?_)
    refine sc_seq (s_cond rfl hw (fun hw => ?_) (fun hw => ?_))
    · refine sc_skip (sq_n (sc_seq (sc_block (qrg (smv rfl (g_iaddrE enc_GVl (fun a12 => [ii a12.Kind, ii a12.Num, .str a12.Text, ln eGVl a12.Args]) cGVl_eq rfl rfl hw fun a12 hw => st_load_r (v := .agg [ii a12.Kind, ii a12.Num, .str a12.Text, ln eGVl a12.Args]) rfl rfl (g_alloc (n := 0) rfl rfl (smv rfl (g_sp (v := .agg [ii a12.Kind, ii a12.Num, .str a12.Text, ln eGVl a12.Args]) (h' := [.cells [ii a12.Kind, ii a12.Num, .str a12.Text, ln eGVl a12.Args]]) rfl rfl rfl (gq [(1, ln eGVl p2), (2, .func 17 []), (7, ii v3), (8, .ptr 0 0), (15, ln eGVl p1), (16, ii (p1.length : Int)), (17, ii v3)] rfl ?_))))))))))
      refine qrg (smv rfl (smv rfl (g_iaddrE enc_GVl (fun a13 => [ii a13.Kind, ii a13.Num, .str a13.Text, ln eGVl a13.Args]) cGVl_eq rfl rfl hw fun a13 hw => st_load_r (v := .agg [ii a13.Kind, ii a13.Num, .str a13.Text, ln eGVl a13.Args]) rfl rfl (g_alloc (n := 1) rfl rfl (g_sp (v := .agg [ii a13.Kind, ii a13.Num, .str a13.Text, ln eGVl a13.Args]) (h' := [.cells [ii a12.Kind, ii a12.Num, .str a12.Text, ln eGVl a12.Args], .cells [ii a13.Kind, ii a13.Num, .str a13.Text, ln eGVl a13.Args]]) rfl rfl rfl (gq [(1, ln eGVl p2), (2, .func 17 []), (8, .ptr 0 0), (9, .ptr 1 0), (15, ln eGVl p1), (16, ii (p1.length : Int)), (17, ii v3)] rfl ?_))))))
      refine qrg (smv rfl (glp (v := .agg [ii a12.Kind, ii a12.Num, .str a12.Text, ln eGVl a12.Args]) rfl rfl rfl (glp (v := .agg [ii a13.Kind, ii a13.Num, .str a13.Text, ln eGVl a13.Args]) rfl rfl rfl (k_callv dh rfl (ec rfl (ec rfl en)) rfl hw fun r14 hw => st_not rfl (gq [(1, ln eGVl p2), (2, .func 17 []), (15, ln eGVl p1), (16, ii (p1.length : Int)), (17, ii v3), (30, .bool (!r14))] rfl ?_)))))
      refine s_cond rfl hw (fun hw => ?_) (fun hw => ?_)
      · refine qrg (smv rfl (gq [(6, .bool false)] rfl ?_))
        exact sc_ret (bl_r (sq_r (lo_r (bl_r (sq_r (gr1 (g := zg31_17) (ho := fun _ => []) [.bool false] hw (.inr rfl) (wr [])))))))
      · refine sc_skip (bl_n (sq_n (s_reg (g_add rfl rfl hw fun v15 hw => smv rfl (g_end [(1, ln eGVl p2), (2, .func 17 []), (15, ln eGVl p1), (16, ii (p1.length : Int)), (17, ii v15)] rfl ?_)))))
        exact lo_n ⟨v15, hw.1⟩ hw.2 (wr [])
    · refine sc_exit (sq_x (lo_x (bl_x (sq_n (qrg (smv rfl (gq [(6, .bool true)] rfl ?_)))))))
      exact sc_ret (gr1 (g := zg31_17) (ho := fun _ => []) [.bool true] hw (.inr rfl) ws)
def hc47 : C := (.seq (.reg [oo 6 (.mv (.c (.bool false)))] [0, 1, 2]) (.seq (.seq (.reg [mo 10 0, oo 11 (.len false 10), mo 12 1, oo 13 (.len false 12), oo 14 (.eqv true .int 11 13)] [0, 1, 2, 14]) (.cond 14 (.seq (.reg [oo 6 (.mv (.c (.bool false)))] [6]) .ret) .skip)) (.seq (.seq (.reg [mo 15 0, oo 16 (.len false 15), oo 17 (.mv (.c (.int .i64 0)))] [1, 2, 15, 16, 17]) (.block 0 (.loop (.seq (.reg [oo 18 (.bin .lss 17 16)] [1, 2, 15, 16, 17, 18]) (.seq (.cond 18 .skip (.exit 0)) (.seq (.block 1 (.seq (.reg [mo 19 17, oo 20 (.iaddr 5 15 17), oo 21 (.load (some 5) 20), oo 8 (.alloc none [(.int .i64 0), (.str []), (.list [] .full), (.list [] .full), (.list [] .full)]), mo 7 19, os (.store 5 8 21)] [1, 2, 7, 8, 15, 16, 17]) (.seq (.reg [mo 22 1, mo 23 7, oo 24 (.iaddr 4 22 23), oo 25 (.load (some 4) 24), oo 9 (.alloc none [(.int .i64 0), (.int .i64 0), (.str []), (.list [] .full)]), os (.store 4 9 25)] [1, 2, 8, 9, 15, 16, 17]) (.seq (.reg [mo 26 2, oo 27 (.load (some 5) 8), oo 28 (.load (some 4) 9), co 29 (.callv 26 [27, 28]), oo 30 (.un .not 29)] [1, 2, 15, 16, 17, 30]) (.cond 30 (.seq (.reg [oo 6 (.mv (.c (.bool false)))] [6]) .ret) .skip))))) (.reg [oo 31 (.bin .add 17 (.c (.int .i64 1))), mo 17 31] [1, 2, 15, 16, 17]))))))) (.seq (.reg [oo 6 (.mv (.c (.bool true)))] [6]) .ret))))
def ha47 : Ann := ⟨[], [16, 48, 54, 57, 59, 66, 68, 71, 77, 78, 80, 83, 999999], [(0, [0, 1, 2]), (1, [0, 1, 2, 14]), (2, [6]), (3, [1, 2, 15, 16, 17]), (4, [1, 2, 15, 16, 17, 18]), (5, [1, 2, 7, 8, 15, 16, 17]), (6, [1, 2, 8, 9, 15, 16, 17]), (7, [1, 2, 15, 16, 17, 30]), (8, [6]), (9, [1, 2, 15, 16, 17]), (10, [6])], []⟩
theorem hk47 : comp Try.prog ha47 Try.f47.ntmps Try.f47.code = some hc47 := by kernel_rfl
def w47_48 (p1 : List (GBd)) (p2 : List (GVl)) (p3 : GPr) (Q : Bool × GPr → Prop) : Prop :=
  (((p1.length : Int) ≠ (p2.length : Int) → Q (false, (GPr.mk p3.Name p3.Version p3.Uses p3.Datas p3.Traits p3.Impls p3.Funcs p3.Actors))) ∧ ((p1.length : Int) = (p2.length : Int) → ∃ (I18 : (List UInt8) → Int → (List GUs) → (List GDa) → (List GTr) → (List GIm) → (List GFn) → (List GAc) → Int → Prop) (M19 : (List UInt8) → Int → (List GUs) → (List GDa) → (List GTr) → (List GIm) → (List GFn) → (List GAc) → Int → Nat), I18 p3.Name p3.Version p3.Uses p3.Datas p3.Traits p3.Impls p3.Funcs p3.Actors (0 : Int) ∧ ∀ (v4 : List UInt8) (v5 : Int) (v6 : List GUs) (v7 : List GDa) (v8 : List GTr) (v9 : List GIm) (v10 : List GFn) (v11 : List GAc) (v12 : Int), I18 v4 v5 v6 v7 v8 v9 v10 v11 v12 → ∀ v20 : Bool, v20 = decide (v12 < (p1.length : Int)) → ((v20 = true → (0 ≤ v12 ∧ v12 < (p1.length : Int)) ∧ ∀ a21 : GBd, p1[(v12 : Int).toNat]? = some a21 → (0 ≤ v12 ∧ v12 < (p2.length : Int)) ∧ ∀ a22 : GVl, p2[(v12 : Int).toNat]? = some a22 → ∃ r23 : Bool × GPr, sp48 (GBd.mk (GTy.mk a21.t.Kind a21.t.Name a21.t.Args) a21.names a21.args) (GVl.mk a22.Kind a22.Num a22.Text a22.Args) (GPr.mk v4 v5 v6 v7 v8 v9 v10 v11) r23 ∧ (((!r23.1) = true → Q (false, (GPr.mk r23.2.Name r23.2.Version r23.2.Uses r23.2.Datas r23.2.Traits r23.2.Impls r23.2.Funcs r23.2.Actors))) ∧ ((!r23.1) = false → (R64 (v12 + (1 : Int))) ∧ ∀ v24 : Int, v24 = v12 + (1 : Int) → (I18 r23.2.Name r23.2.Version r23.2.Uses r23.2.Datas r23.2.Traits r23.2.Impls r23.2.Funcs r23.2.Actors v24 ∧ M19 r23.2.Name r23.2.Version r23.2.Uses r23.2.Datas r23.2.Traits r23.2.Impls r23.2.Funcs r23.2.Actors v24 < M19 v4 v5 v6 v7 v8 v9 v10 v11 v12)))) ∧ (v20 = false → Q (true, (GPr.mk v4 v5 v6 v7 v8 v9 v10 v11))))))
theorem ok47_48 (p1 : List (GBd)) (p2 : List (GVl)) (p3 : GPr) (r : Bool × GPr) (hw : w47_48 p1 p2 p3 fun r' => r' = r) : sp47_48 p1 p2 p3 r := by
  refine zh (rs := [.t 6]) Try.func47 hk47 ?_
  unfold w47_48 at hw
  show SC Try.prog Try.f47.ntmps 1 hc47 _ [(0, ln eGBd p1), (1, ln eGVl p2), (2, .func 48 [.ptr 0 0])] [.cells [.str p3.Name, ii p3.Version, ln eGUs p3.Uses, ln eGDa p3.Datas, ln eGTr p3.Traits, ln eGIm p3.Impls, ln eGFn p3.Funcs, ln eGAc p3.Actors]]
  unfold hc47
  refine qrg (smv rfl (gq [(0, ln eGBd p1), (1, ln eGVl p2), (2, .func 48 [.ptr 0 0])] rfl ?_))
  refine sc_seq (qrg (smv rfl (g_len rfl (smv rfl (g_len rfl (g_nei rfl rfl hw (fun hw => gq [(0, ln eGBd p1), (1, ln eGVl p2), (2, .func 48 [.ptr 0 0]), (14, .bool true)] rfl ?_) (fun hw => gq [(0, ln eGBd p1), (1, ln eGVl p2), (2, .func 48 [.ptr 0 0]), (14, .bool false)] rfl ?_)))))))
  · refine s_cond_t rfl (qrg (smv rfl (gq [(6, .bool false)] rfl ?_)))
    exact sc_ret (sq_r (gr1 (g := zg47_48) (ho := zo47_48) [.bool false] hw (.inr rfl) ws))
  · refine s_cond_f rfl (sc_skip (sq_n (sc_seq (qrg (smv rfl (g_len rfl (smv rfl (gq [(1, ln eGVl p2), (2, .func 48 [.ptr 0 0]), (15, ln eGBd p1), (16, ii (p1.length : Int)), (17, ii 0)] rfl ?_))))))))
    refine sc_block ?_
    obtain ⟨I18, M19, hi, hw⟩ := hw
    refine sc_loop (X := { x : List UInt8 × Int × List GUs × List GDa × List GTr × List GIm × List GFn × List GAc × Int // I18 x.1 x.2.1 x.2.2.1 x.2.2.2.1 x.2.2.2.2.1 x.2.2.2.2.2.1 x.2.2.2.2.2.2.1 x.2.2.2.2.2.2.2.1 x.2.2.2.2.2.2.2.2 }) (fun x => ([(1, ln eGVl p2), (2, .func 48 [.ptr 0 0]), (15, ln eGBd p1), (16, ii (p1.length : Int)), (17, ii x.1.2.2.2.2.2.2.2.2)], [.cells [.str x.1.1, ii x.1.2.1, ln eGUs x.1.2.2.1, ln eGDa x.1.2.2.2.1, ln eGTr x.1.2.2.2.2.1, ln eGIm x.1.2.2.2.2.2.1, ln eGFn x.1.2.2.2.2.2.2.1, ln eGAc x.1.2.2.2.2.2.2.2.1]])) (fun x => M19 x.1.1 x.1.2.1 x.1.2.2.1 x.1.2.2.2.1 x.1.2.2.2.2.1 x.1.2.2.2.2.2.1 x.1.2.2.2.2.2.2.1 x.1.2.2.2.2.2.2.2.1 x.1.2.2.2.2.2.2.2.2) ⟨(p3.Name, p3.Version, p3.Uses, p3.Datas, p3.Traits, p3.Impls, p3.Funcs, p3.Actors, (0 : Int)), hi⟩ ws ?_
    rintro ⟨⟨v4, v5, v6, v7, v8, v9, v10, v11, v12⟩, hi2⟩
    have hw := hw v4 v5 v6 v7 v8 v9 v10 v11 v12 hi2
    clear hi
    refine qrg (gb_cmp rfl rfl trivial rfl hw fun v20 hw => gq [(1, ln eGVl p2), (2, .func 48 [.ptr 0 0]), (15, ln eGBd p1), (16, ii (p1.length : Int)), (17, ii v12), (18, .bool v20)] rfl ?_)
    refine sc_seq (s_cond rfl hw (fun hw => ?_) (fun hw => ?_))
    · refine sc_skip (sq_n (sc_seq (sc_block (qrg (smv rfl (g_iaddrE enc_GBd (fun a21 => [ii a21.t.Kind, .str a21.t.Name, ln eGTy a21.t.Args, ln eStr a21.names, ln eGBd a21.args]) cGBd_eq rfl rfl hw fun a21 hw => st_load_r (v := .agg [ii a21.t.Kind, .str a21.t.Name, ln eGTy a21.t.Args, ln eStr a21.names, ln eGBd a21.args]) rfl rfl (g_alloc (n := 1) rfl rfl (smv rfl (g_sp (v := .agg [ii a21.t.Kind, .str a21.t.Name, ln eGTy a21.t.Args, ln eStr a21.names, ln eGBd a21.args]) (h' := [.cells [.str v4, ii v5, ln eGUs v6, ln eGDa v7, ln eGTr v8, ln eGIm v9, ln eGFn v10, ln eGAc v11], .cells [ii a21.t.Kind, .str a21.t.Name, ln eGTy a21.t.Args, ln eStr a21.names, ln eGBd a21.args]]) rfl rfl rfl (gq [(1, ln eGVl p2), (2, .func 48 [.ptr 0 0]), (7, ii v12), (8, .ptr 1 0), (15, ln eGBd p1), (16, ii (p1.length : Int)), (17, ii v12)] rfl ?_))))))))))
      refine qrg (smv rfl (smv rfl (g_iaddrE enc_GVl (fun a22 => [ii a22.Kind, ii a22.Num, .str a22.Text, ln eGVl a22.Args]) cGVl_eq rfl rfl hw fun a22 hw => st_load_r (v := .agg [ii a22.Kind, ii a22.Num, .str a22.Text, ln eGVl a22.Args]) rfl rfl (g_alloc (n := 2) rfl rfl (g_sp (v := .agg [ii a22.Kind, ii a22.Num, .str a22.Text, ln eGVl a22.Args]) (h' := [.cells [.str v4, ii v5, ln eGUs v6, ln eGDa v7, ln eGTr v8, ln eGIm v9, ln eGFn v10, ln eGAc v11], .cells [ii a21.t.Kind, .str a21.t.Name, ln eGTy a21.t.Args, ln eStr a21.names, ln eGBd a21.args], .cells [ii a22.Kind, ii a22.Num, .str a22.Text, ln eGVl a22.Args]]) rfl rfl rfl (gq [(1, ln eGVl p2), (2, .func 48 [.ptr 0 0]), (8, .ptr 1 0), (9, .ptr 2 0), (15, ln eGBd p1), (16, ii (p1.length : Int)), (17, ii v12)] rfl ?_))))))
      refine qrg (smv rfl (glp (v := .agg [ii a21.t.Kind, .str a21.t.Name, ln eGTy a21.t.Args, ln eStr a21.names, ln eGBd a21.args]) rfl rfl rfl (glp (v := .agg [ii a22.Kind, ii a22.Num, .str a22.Text, ln eGVl a22.Args]) rfl rfl rfl (khv hh rfl (g2 := fun r23 : Bool × GPr => .bool r23.1) (H2 := fun r23 : Bool × GPr => [.cells [.str r23.2.Name, ii r23.2.Version, ln eGUs r23.2.Uses, ln eGDa r23.2.Datas, ln eGTr r23.2.Traits, ln eGIm r23.2.Impls, ln eGFn r23.2.Funcs, ln eGAc r23.2.Actors], .cells [ii a21.t.Kind, .str a21.t.Name, ln eGTy a21.t.Args, ln eStr a21.names, ln eGBd a21.args], .cells [ii a22.Kind, ii a22.Num, .str a22.Text, ln eGVl a22.Args]]) [0] [0] 3 0 (ec rfl (ec rfl en)) hw fun r23 hw => st_not rfl (gq [(1, ln eGVl p2), (2, .func 48 [.ptr 0 0]), (15, ln eGBd p1), (16, ii (p1.length : Int)), (17, ii v12), (30, .bool (!r23.1))] rfl ?_)))))
      refine s_cond rfl hw (fun hw => ?_) (fun hw => ?_)
      · refine qrg (smv rfl (gq [(6, .bool false)] rfl ?_))
        exact sc_ret (bl_r (sq_r (lo_r (bl_r (sq_r (gr1 (g := zg47_48) (ho := zo47_48) [.bool false] hw (.inr rfl) (wrm 1 [0])))))))
      · refine sc_skip (bl_n (sq_n (s_reg (g_add rfl rfl hw fun v24 hw => smv rfl (g_end [(1, ln eGVl p2), (2, .func 48 [.ptr 0 0]), (15, ln eGBd p1), (16, ii (p1.length : Int)), (17, ii v24)] rfl ?_)))))
        exact lo_n ⟨(r23.2.Name, r23.2.Version, r23.2.Uses, r23.2.Datas, r23.2.Traits, r23.2.Impls, r23.2.Funcs, r23.2.Actors, v24), hw.1⟩ hw.2 (weak_renm 1 rfl [0] (by decide) (by decide) (ro_cells rfl (rlc rnI rfl (rlc rnI rfl (rlc rnI rfl (rlc rnI rfl (rlc rnI rfl (rlc rnI rfl (rlc rnI rfl (rlc rnI rfl rl_nil)))))))) ro_nil) (re_cons rfl rnI (re_cons rfl (Ren.fn (rf_cons (.ptr _ _ _ rfl) rf_nil)) (re_cons rfl rnI (re_cons rfl rnI (re_cons rfl rnI re_nil))))))
    · refine sc_exit (sq_x (lo_x (bl_x (sq_n (qrg (smv rfl (gq [(6, .bool true)] rfl ?_)))))))
      exact sc_ret (gr1 (g := zg47_48) (ho := zo47_48) [.bool true] hw (.inr rfl) ws)
def hc65 : C := (.seq (.reg [oo 4 (.mv (.c (.int .i64 0)))] [0, 1]) (.seq (.seq (.reg [mo 6 0, oo 7 (.len false 6), oo 8 (.mv (.c (.int .i64 0)))] [0, 1, 7, 8]) (.block 0 (.loop (.seq (.reg [oo 9 (.bin .lss 8 7)] [0, 1, 7, 8, 9]) (.seq (.cond 9 .skip (.exit 0)) (.seq (.block 1 (.seq (.reg [mo 10 8, mo 5 10] [0, 1, 5, 7, 8]) (.seq (.reg [mo 11 1, mo 12 0, mo 13 5, oo 14 (.iaddr 2 12 13), oo 15 (.load (some 2) 14), co 16 (.callv 11 [15])] [0, 1, 5, 7, 8, 16]) (.cond 16 (.seq (.reg [mo 17 5, mo 4 17] [4]) .ret) .skip)))) (.reg [oo 18 (.bin .add 8 (.c (.int .i64 1))), mo 8 18] [0, 1, 7, 8]))))))) (.seq (.reg [oo 4 (.mv (.c (.int .i64 (-1))))] [4]) .ret)))
def ha65 : Ann := ⟨[], [16, 48, 54, 57, 59, 66, 68, 71, 77, 78, 80, 83, 999999], [(0, [0, 1]), (1, [0, 1, 7, 8]), (2, [0, 1, 7, 8, 9]), (3, [0, 1, 5, 7, 8]), (4, [0, 1, 5, 7, 8, 16]), (5, [4]), (6, [0, 1, 7, 8]), (7, [4])], []⟩
theorem hk65 : comp Try.prog ha65 Try.f65.ntmps Try.f65.code = some hc65 := by kernel_rfl
def w65_66 (p1 : List (GMk)) (p2 : List UInt8) (Q : Int × List UInt8 → Prop) : Prop :=
  ∃ (I9 : (List UInt8) → Int → Prop) (M10 : (List UInt8) → Int → Nat), I9 p2 (0 : Int) ∧ ∀ (v3 : List UInt8) (v4 : Int), I9 v3 v4 → ∀ v11 : Bool, v11 = decide (v4 < (p1.length : Int)) → ((v11 = true → (0 ≤ v4 ∧ v4 < (p1.length : Int)) ∧ ∀ a12 : GMk, p1[(v4 : Int).toNat]? = some a12 → ∃ r13 : Bool × List UInt8, sp66 a12 v3 r13 ∧ ((r13.1 = true → Q (v4, r13.2)) ∧ (r13.1 = false → (R64 (v4 + (1 : Int))) ∧ ∀ v14 : Int, v14 = v4 + (1 : Int) → (I9 r13.2 v14 ∧ M10 r13.2 v14 < M10 v3 v4)))) ∧ (v11 = false → Q ((-1 : Int), v3)))
theorem ok65_66 (p1 : List (GMk)) (p2 : List UInt8) (r : Int × List UInt8) (hw : w65_66 p1 p2 fun r' => r' = r) : sp65_66 p1 p2 r := by
  refine zh (rs := [.t 4]) Try.func65 hk65 ?_
  unfold w65_66 at hw
  show SC Try.prog Try.f65.ntmps 1 hc65 _ [(0, ln eGMk p1), (1, .func 66 [.ptr 0 0])] [.cells [.str p2]]
  unfold hc65
  refine qrg (smv rfl (gq [(0, ln eGMk p1), (1, .func 66 [.ptr 0 0])] rfl ?_))
  refine sc_seq (qrg (smv rfl (g_len rfl (smv rfl (gq [(0, ln eGMk p1), (1, .func 66 [.ptr 0 0]), (7, ii (p1.length : Int)), (8, ii 0)] rfl ?_)))))
  refine sc_block ?_
  obtain ⟨I9, M10, hi, hw⟩ := hw
  refine sc_loop (X := { x : List UInt8 × Int // I9 x.1 x.2 }) (fun x => ([(0, ln eGMk p1), (1, .func 66 [.ptr 0 0]), (7, ii (p1.length : Int)), (8, ii x.1.2)], [.cells [.str x.1.1]])) (fun x => M10 x.1.1 x.1.2) ⟨(p2, (0 : Int)), hi⟩ ws ?_
  rintro ⟨⟨v3, v4⟩, hi2⟩
  have hw := hw v3 v4 hi2
  clear hi
  refine qrg (gb_cmp rfl rfl trivial rfl hw fun v11 hw => gq [(0, ln eGMk p1), (1, .func 66 [.ptr 0 0]), (7, ii (p1.length : Int)), (8, ii v4), (9, .bool v11)] rfl ?_)
  refine sc_seq (s_cond rfl hw (fun hw => ?_) (fun hw => ?_))
  · refine sc_skip (sq_n (sc_seq (sc_block (qrg (smv rfl (smv rfl (gq [(0, ln eGMk p1), (1, .func 66 [.ptr 0 0]), (5, ii v4), (7, ii (p1.length : Int)), (8, ii v4)] rfl ?_)))))))
    refine qrg (smv rfl (smv rfl (smv rfl (g_iaddr enc_GMk rfl rfl hw fun a12 hw => st_load_r (v := eGMk a12) rfl rfl (khv hh rfl (g2 := fun r13 : Bool × List UInt8 => .bool r13.1) (H2 := fun r13 : Bool × List UInt8 => [.cells [.str r13.2]]) [0] [0] 1 0 (ec rfl en) hw fun r13 hw => gq [(0, ln eGMk p1), (1, .func 66 [.ptr 0 0]), (5, ii v4), (7, ii (p1.length : Int)), (8, ii v4), (16, .bool r13.1)] rfl ?_)))))
    refine s_cond rfl hw (fun hw => ?_) (fun hw => ?_)
    · refine qrg (smv rfl (smv rfl (gq [(4, ii v4)] rfl ?_)))
      exact sc_ret (bl_r (sq_r (lo_r (bl_r (sq_r (gr1 (g := zg65_66) (ho := zo65_66) [ii v4] hw (.inr rfl) ws))))))
    · refine sc_skip (bl_n (sq_n (s_reg (g_add rfl rfl hw fun v14 hw => smv rfl (g_end [(0, ln eGMk p1), (1, .func 66 [.ptr 0 0]), (7, ii (p1.length : Int)), (8, ii v14)] rfl ?_)))))
      exact lo_n ⟨(r13.2, v14), hw.1⟩ hw.2 ws
  · refine sc_exit (sq_x (lo_x (bl_x (sq_n (qrg (smv rfl (gq [(4, ii (-1 : Int))] rfl ?_)))))))
    exact sc_ret (gr1 (g := zg65_66) (ho := zo65_66) [ii (-1 : Int)] hw (.inr rfl) ws)
def hc67 : C := (.seq (.reg [oo 4 (.mv (.c (.int .i64 0)))] [0, 1]) (.seq (.seq (.reg [mo 6 0, oo 7 (.len false 6), oo 8 (.mv (.c (.int .i64 0)))] [0, 1, 7, 8]) (.block 0 (.loop (.seq (.reg [oo 9 (.bin .lss 8 7)] [0, 1, 7, 8, 9]) (.seq (.cond 9 .skip (.exit 0)) (.seq (.block 1 (.seq (.reg [mo 10 8, mo 5 10] [0, 1, 5, 7, 8]) (.seq (.reg [mo 11 1, mo 12 0, mo 13 5, oo 14 (.iaddr 3 12 13), oo 15 (.load (some 3) 14), co 16 (.callv 11 [15])] [0, 1, 5, 7, 8, 16]) (.cond 16 (.seq (.reg [mo 17 5, mo 4 17] [4]) .ret) .skip)))) (.reg [oo 18 (.bin .add 8 (.c (.int .i64 1))), mo 8 18] [0, 1, 7, 8]))))))) (.seq (.reg [oo 4 (.mv (.c (.int .i64 (-1))))] [4]) .ret)))
def ha67 : Ann := ⟨[], [16, 48, 54, 57, 59, 66, 68, 71, 77, 78, 80, 83, 999999], [(0, [0, 1]), (1, [0, 1, 7, 8]), (2, [0, 1, 7, 8, 9]), (3, [0, 1, 5, 7, 8]), (4, [0, 1, 5, 7, 8, 16]), (5, [4]), (6, [0, 1, 7, 8]), (7, [4])], []⟩
theorem hk67 : comp Try.prog ha67 Try.f67.ntmps Try.f67.code = some hc67 := by kernel_rfl
def w67_68 (p1 : List (GDa)) (p2 : List UInt8) (Q : Int × List UInt8 → Prop) : Prop :=
  ∃ (I9 : (List UInt8) → Int → Prop) (M10 : (List UInt8) → Int → Nat), I9 p2 (0 : Int) ∧ ∀ (v3 : List UInt8) (v4 : Int), I9 v3 v4 → ∀ v11 : Bool, v11 = decide (v4 < (p1.length : Int)) → ((v11 = true → (0 ≤ v4 ∧ v4 < (p1.length : Int)) ∧ ∀ a12 : GDa, p1[(v4 : Int).toNat]? = some a12 → ∃ r13 : Bool × List UInt8, sp68 a12 v3 r13 ∧ ((r13.1 = true → Q (v4, r13.2)) ∧ (r13.1 = false → (R64 (v4 + (1 : Int))) ∧ ∀ v14 : Int, v14 = v4 + (1 : Int) → (I9 r13.2 v14 ∧ M10 r13.2 v14 < M10 v3 v4)))) ∧ (v11 = false → Q ((-1 : Int), v3)))
theorem ok67_68 (p1 : List (GDa)) (p2 : List UInt8) (r : Int × List UInt8) (hw : w67_68 p1 p2 fun r' => r' = r) : sp67_68 p1 p2 r := by
  refine zh (rs := [.t 4]) Try.func67 hk67 ?_
  unfold w67_68 at hw
  show SC Try.prog Try.f67.ntmps 1 hc67 _ [(0, ln eGDa p1), (1, .func 68 [.ptr 0 0])] [.cells [.str p2]]
  unfold hc67
  refine qrg (smv rfl (gq [(0, ln eGDa p1), (1, .func 68 [.ptr 0 0])] rfl ?_))
  refine sc_seq (qrg (smv rfl (g_len rfl (smv rfl (gq [(0, ln eGDa p1), (1, .func 68 [.ptr 0 0]), (7, ii (p1.length : Int)), (8, ii 0)] rfl ?_)))))
  refine sc_block ?_
  obtain ⟨I9, M10, hi, hw⟩ := hw
  refine sc_loop (X := { x : List UInt8 × Int // I9 x.1 x.2 }) (fun x => ([(0, ln eGDa p1), (1, .func 68 [.ptr 0 0]), (7, ii (p1.length : Int)), (8, ii x.1.2)], [.cells [.str x.1.1]])) (fun x => M10 x.1.1 x.1.2) ⟨(p2, (0 : Int)), hi⟩ ws ?_
  rintro ⟨⟨v3, v4⟩, hi2⟩
  have hw := hw v3 v4 hi2
  clear hi
  refine qrg (gb_cmp rfl rfl trivial rfl hw fun v11 hw => gq [(0, ln eGDa p1), (1, .func 68 [.ptr 0 0]), (7, ii (p1.length : Int)), (8, ii v4), (9, .bool v11)] rfl ?_)
  refine sc_seq (s_cond rfl hw (fun hw => ?_) (fun hw => ?_))
  · refine sc_skip (sq_n (sc_seq (sc_block (qrg (smv rfl (smv rfl (gq [(0, ln eGDa p1), (1, .func 68 [.ptr 0 0]), (5, ii v4), (7, ii (p1.length : Int)), (8, ii v4)] rfl ?_)))))))
    refine qrg (smv rfl (smv rfl (smv rfl (g_iaddr enc_GDa rfl rfl hw fun a12 hw => st_load_r (v := eGDa a12) rfl rfl (khv hh rfl (g2 := fun r13 : Bool × List UInt8 => .bool r13.1) (H2 := fun r13 : Bool × List UInt8 => [.cells [.str r13.2]]) [0] [0] 1 0 (ec rfl en) hw fun r13 hw => gq [(0, ln eGDa p1), (1, .func 68 [.ptr 0 0]), (5, ii v4), (7, ii (p1.length : Int)), (8, ii v4), (16, .bool r13.1)] rfl ?_)))))
    refine s_cond rfl hw (fun hw => ?_) (fun hw => ?_)
    · refine qrg (smv rfl (smv rfl (gq [(4, ii v4)] rfl ?_)))
      exact sc_ret (bl_r (sq_r (lo_r (bl_r (sq_r (gr1 (g := zg67_68) (ho := zo67_68) [ii v4] hw (.inr rfl) ws))))))
    · refine sc_skip (bl_n (sq_n (s_reg (g_add rfl rfl hw fun v14 hw => smv rfl (g_end [(0, ln eGDa p1), (1, .func 68 [.ptr 0 0]), (7, ii (p1.length : Int)), (8, ii v14)] rfl ?_)))))
      exact lo_n ⟨(r13.2, v14), hw.1⟩ hw.2 ws
  · refine sc_exit (sq_x (lo_x (bl_x (sq_n (qrg (smv rfl (gq [(4, ii (-1 : Int))] rfl ?_)))))))
    exact sc_ret (gr1 (g := zg67_68) (ho := zo67_68) [ii (-1 : Int)] hw (.inr rfl) ws)
def w65_83 (p1 : List (GMk)) (p2 : List UInt8) (Q : Int × List UInt8 → Prop) : Prop :=
  ∃ (I9 : (List UInt8) → Int → Prop) (M10 : (List UInt8) → Int → Nat), I9 p2 (0 : Int) ∧ ∀ (v3 : List UInt8) (v4 : Int), I9 v3 v4 → ∀ v11 : Bool, v11 = decide (v4 < (p1.length : Int)) → ((v11 = true → (0 ≤ v4 ∧ v4 < (p1.length : Int)) ∧ ∀ a12 : GMk, p1[(v4 : Int).toNat]? = some a12 → ∃ r13 : Bool × List UInt8, sp83 a12 v3 r13 ∧ ((r13.1 = true → Q (v4, r13.2)) ∧ (r13.1 = false → (R64 (v4 + (1 : Int))) ∧ ∀ v14 : Int, v14 = v4 + (1 : Int) → (I9 r13.2 v14 ∧ M10 r13.2 v14 < M10 v3 v4)))) ∧ (v11 = false → Q ((-1 : Int), v3)))
theorem ok65_83 (p1 : List (GMk)) (p2 : List UInt8) (r : Int × List UInt8) (hw : w65_83 p1 p2 fun r' => r' = r) : sp65_83 p1 p2 r := by
  refine zh (rs := [.t 4]) Try.func65 hk65 ?_
  unfold w65_83 at hw
  show SC Try.prog Try.f65.ntmps 1 hc65 _ [(0, ln eGMk p1), (1, .func 83 [.ptr 0 0])] [.cells [.str p2]]
  unfold hc65
  refine qrg (smv rfl (gq [(0, ln eGMk p1), (1, .func 83 [.ptr 0 0])] rfl ?_))
  refine sc_seq (qrg (smv rfl (g_len rfl (smv rfl (gq [(0, ln eGMk p1), (1, .func 83 [.ptr 0 0]), (7, ii (p1.length : Int)), (8, ii 0)] rfl ?_)))))
  refine sc_block ?_
  obtain ⟨I9, M10, hi, hw⟩ := hw
  refine sc_loop (X := { x : List UInt8 × Int // I9 x.1 x.2 }) (fun x => ([(0, ln eGMk p1), (1, .func 83 [.ptr 0 0]), (7, ii (p1.length : Int)), (8, ii x.1.2)], [.cells [.str x.1.1]])) (fun x => M10 x.1.1 x.1.2) ⟨(p2, (0 : Int)), hi⟩ ws ?_
  rintro ⟨⟨v3, v4⟩, hi2⟩
  have hw := hw v3 v4 hi2
  clear hi
  refine qrg (gb_cmp rfl rfl trivial rfl hw fun v11 hw => gq [(0, ln eGMk p1), (1, .func 83 [.ptr 0 0]), (7, ii (p1.length : Int)), (8, ii v4), (9, .bool v11)] rfl ?_)
  refine sc_seq (s_cond rfl hw (fun hw => ?_) (fun hw => ?_))
  · refine sc_skip (sq_n (sc_seq (sc_block (qrg (smv rfl (smv rfl (gq [(0, ln eGMk p1), (1, .func 83 [.ptr 0 0]), (5, ii v4), (7, ii (p1.length : Int)), (8, ii v4)] rfl ?_)))))))
    refine qrg (smv rfl (smv rfl (smv rfl (g_iaddr enc_GMk rfl rfl hw fun a12 hw => st_load_r (v := eGMk a12) rfl rfl (khv hh rfl (g2 := fun r13 : Bool × List UInt8 => .bool r13.1) (H2 := fun r13 : Bool × List UInt8 => [.cells [.str r13.2]]) [0] [0] 1 0 (ec rfl en) hw fun r13 hw => gq [(0, ln eGMk p1), (1, .func 83 [.ptr 0 0]), (5, ii v4), (7, ii (p1.length : Int)), (8, ii v4), (16, .bool r13.1)] rfl ?_)))))
    refine s_cond rfl hw (fun hw => ?_) (fun hw => ?_)
    · refine qrg (smv rfl (smv rfl (gq [(4, ii v4)] rfl ?_)))
      exact sc_ret (bl_r (sq_r (lo_r (bl_r (sq_r (gr1 (g := zg65_83) (ho := zo65_83) [ii v4] hw (.inr rfl) ws))))))
    · refine sc_skip (bl_n (sq_n (s_reg (g_add rfl rfl hw fun v14 hw => smv rfl (g_end [(0, ln eGMk p1), (1, .func 83 [.ptr 0 0]), (7, ii (p1.length : Int)), (8, ii v14)] rfl ?_)))))
      exact lo_n ⟨(r13.2, v14), hw.1⟩ hw.2 ws
  · refine sc_exit (sq_x (lo_x (bl_x (sq_n (qrg (smv rfl (gq [(4, ii (-1 : Int))] rfl ?_)))))))
    exact sc_ret (gr1 (g := zg65_83) (ho := zo65_83) [ii (-1 : Int)] hw (.inr rfl) ws)
end Go.Hw.VR

