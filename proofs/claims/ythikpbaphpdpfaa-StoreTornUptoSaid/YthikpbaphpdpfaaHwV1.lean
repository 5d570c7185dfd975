import Derived.Test.YthikpbaphpdpfaaHwV1a
set_option linter.unusedVariables false
set_option linter.unusedSimpArgs false
namespace Go.Hw.VB
open Go Go.Proofs
def hc88 : C := (.seq (.reg [oo 4 (.alloc none [(.int .i64 0), (.int .i64 0), (.str []), (.list [] .full)])] [0, 1, 4]) (.seq (.reg [mo 7 0, oo 8 (.nilck 7), oo 9 (.faddr 2 1 8), oo 10 (.load none 9), oo 11 (.bin .sub 10 (.c (.int .i64 1))), oo 12 (.nilck 7), oo 13 (.faddr 2 1 12), os (.store 1 13 11)] [0, 1, 4]) (.seq (.seq (.reg [mo 14 0, mo 15 0, oo 16 (.nilck 15), oo 17 (.faddr 1 1 16), oo 18 (.load none 17), mo 19 18, og 20 (.mv 0) 19 false, og 21 (.nilck 20) 19 false, og 22 (.faddr 2 1 21) 19 false, og 23 (.load none 22) 19 false, og 24 (.bin .lss 23 (.c (.int .i64 0))) 19 false, oo 25 (.pick 19 (.c (.bool true)) 24), mo 26 25, og 27 (.mv 1) 26 false, og 28 (.bin .gtr 27 (.c (.int .i64 40))) 26 false, oo 29 (.pick 26 (.c (.bool true)) 28), oo 30 (.nilck 14), oo 31 (.faddr 1 1 30), os (.store 1 31 29)] [0, 1, 4]) (.seq (.reg [mo 32 0, oo 33 (.nilck 32), oo 34 (.faddr 1 1 33), oo 35 (.load none 34)] [0, 1, 4, 35]) (.cond 35 (.seq (.reg [oo 36 (.build [(.int .i64 0), (.int .i64 0), (.str []), (.list [] .full)] []), os (.store 4 4 36)] [4]) .ret) .skip))) (.seq (.reg [mo 37 0, co 38 (.call 90 [37]), oo 39 (.conv (.int .i64) 38), oo 40 (.build [(.int .i64 0), (.int .i64 0), (.str []), (.list [] .full)] [(0, 1, 39)]), oo 5 (.alloc none [(.int .i64 0), (.int .i64 0), (.str []), (.list [] .full)]), os (.store 4 5 40)] [0, 1, 4, 5]) (.seq (.reg [mo 41 0, co 42 (.call 57 [41]), oo 43 (.faddr 1 1 5), os (.store 1 43 42)] [0, 1, 4, 5]) (.seq (.reg [mo 44 0, co 45 (.call 91 [44]), oo 46 (.faddr 2 1 5), os (.store 1 46 45)] [0, 1, 4, 5]) (.seq (.seq (.reg [mo 47 0, co 48 (.call 56 [47, (.c (.int .i64 400))]), mo 6 48] [0, 1, 4, 5, 6]) (.block 0 (.loop (.seq (.seq (.reg [mo 49 6, oo 50 (.bin .gtr 49 (.c (.int .i64 0))), mo 51 50, og 52 (.mv 0) 51 true, og 53 (.nilck 52) 51 true, og 54 (.faddr 1 1 53) 51 true, og 55 (.load none 54) 51 true, og 56 (.un .not 55) 51 true, oo 57 (.pick 51 56 (.c (.bool false)))] [0, 1, 4, 5, 6, 57]) (.cond 57 .skip (.exit 0))) (.seq (.block 1 (.dord [56, 57, 88, 90, 91] [[oo 60 (.faddr 3 1 5), oo 61 (.load none 60), mo 62 0, mo 63 1, oo 64 (.bin .add 63 (.c (.int .i64 1))), co 65 (.call 88 [62, 64]), oo 66 (.mklist 4 [65]), oo 67 (.append 4 56 61 66), oo 68 (.faddr 3 1 5), os (.store 1 68 67)], [oo 60 (.faddr 3 1 5), mo 62 0, mo 63 1, oo 64 (.bin .add 63 (.c (.int .i64 1))), co 65 (.call 88 [62, 64]), oo 61 (.load none 60), oo 66 (.mklist 4 [65]), oo 67 (.append 4 56 61 66), oo 68 (.faddr 3 1 5), os (.store 1 68 67)]] 0 [0, 1, 4, 5, 6])) (.reg [mo 58 6, oo 59 (.bin .sub 58 (.c (.int .i64 1))), mo 6 59] [0, 1, 4, 5, 6])))))) (.seq (.reg [oo 69 (.load (some 4) 5), os (.store 4 4 69)] [4]) .ret))))))))
def ha88 : Ann := ⟨[], [56, 57, 88, 90, 91], [(0, [0, 1, 4]), (1, [0, 1, 4]), (2, [0, 1, 4]), (3, [0, 1, 4, 35]), (4, [4]), (5, [0, 1, 4, 5]), (6, [0, 1, 4, 5]), (7, [0, 1, 4, 5]), (8, [0, 1, 4, 5, 6]), (9, [0, 1, 4, 5, 6, 57]), (11, [0, 1, 4, 5, 6]), (10, [0, 1, 4, 5, 6]), (12, [4])], [(11, [(1, 5)], [[0, 1, 2, 3, 4, 5, 6, 7, 8, 9], [0, 2, 3, 4, 5, 1, 6, 7, 8, 9]])]⟩
theorem hk88 : comp Try.prog ha88 Try.f88.ntmps Try.f88.code = some hc88 := by kernel_rfl
def w88 (p1 : Gvreader) (p2 : Int) (Q : GaValue × Gvreader → Prop) : Prop :=
  (R64 (p1.left - (1 : Int))) ∧ ∀ v3 : Int, v3 = p1.left - (1 : Int) → ∃ J5 : Bool → Prop, (((p1.bad = true → J5 true) ∧ (p1.bad = false → ((v3 < (0 : Int) → J5 true) ∧ ((0 : Int) ≤ v3 → ∀ v6 : Bool, v6 = decide (p2 > (40 : Int)) → J5 v6))))) ∧ ∀ (v4 : Bool), J5 v4 → ((v4 = true → Q ((GaValue.mk (0 : Int) (0 : Int) [] ([] : List GaValue)), (Gvreader.mk p1.rest v4 v3))) ∧ (v4 = false → ∃ r7 : Int × Gvreader, sp90 (Gvreader.mk p1.rest v4 v3) r7 ∧ ∀ v8 : Int, v8 = IntKind.wrap .i64 r7.1 → ∃ r9 : Int × Gvreader, sp57 (Gvreader.mk r7.2.rest r7.2.bad r7.2.left) r9 ∧ ∃ r10 : List UInt8 × Gvreader, sp91 (Gvreader.mk r9.2.rest r9.2.bad r9.2.left) r10 ∧ ∃ r11 : Int × Gvreader, sp56 (Gvreader.mk r10.2.rest r10.2.bad r10.2.left) (400 : Int) r11 ∧ ∃ (I26 : (List UInt8) → Bool → Int → (List GaValue) → Int → Prop) (M27 : (List UInt8) → Bool → Int → (List GaValue) → Int → Nat), I26 r11.2.rest r11.2.bad r11.2.left ([] : List GaValue) r11.1 ∧ ∀ (v12 : List UInt8) (v13 : Bool) (v14 : Int) (v15 : List GaValue) (v16 : Int), I26 v12 v13 v14 v15 v16 → (((0 : Int) < v16 → (((!v13) = true → ∃ J32 : (List UInt8) → Bool → Int → (List GaValue) → Prop, ((R64 (p2 + (1 : Int))) ∧ ∀ v33 : Int, v33 = p2 + (1 : Int) → ∃ r34 : GaValue × Gvreader, sp88 (Gvreader.mk v12 v13 v14) v33 r34 ∧ ((v15.length + ([r34.1] : List GaValue).length) * 56 ≤ 140737488355328) ∧ ∀ v35 : List GaValue, v35 = v15 ++ ([r34.1] : List GaValue) → J32 r34.2.rest r34.2.bad r34.2.left v35) ∧ ∀ (v28 : List UInt8) (v29 : Bool) (v30 : Int) (v31 : List GaValue), J32 v28 v29 v30 v31 → (R64 (v16 - (1 : Int))) ∧ ∀ v36 : Int, v36 = v16 - (1 : Int) → (I26 v28 v29 v30 v31 v36 ∧ M27 v28 v29 v30 v31 v36 < M27 v12 v13 v14 v15 v16)) ∧ ((!v13) = false → Q ((GaValue.mk v8 r9.1 r10.1 v15), (Gvreader.mk v12 v13 v14))))) ∧ (v16 ≤ (0 : Int) → Q ((GaValue.mk v8 r9.1 r10.1 v15), (Gvreader.mk v12 v13 v14))))))
theorem ok88 (p1 : Gvreader) (p2 : Int) (r : GaValue × Gvreader) (hw : w88 p1 p2 fun r' => r' = r) : sp88 p1 p2 r := by
  refine zh (rs := [.c 4 (some 4)]) Try.func88 hk88 ?_
  unfold w88 at hw
  show SC Try.prog Try.f88.ntmps 1 hc88 _ [(0, .ptr 0 0), (1, ii p2)] [.cells [bn p1.rest, .bool p1.bad, ii p1.left]]
  unfold hc88
  refine q_reg (g_alloc (n := 1) rfl rfl (g_endq [(0, .ptr 0 0), (1, ii p2), (4, .ptr 1 0)] rfl ?_))
  refine q_reg (st_mv rfl (st_nilck_p rfl (g_faddr_p rfl (g_load_p rfl rfl rfl (g_sub rfl rfl hw fun v3 hw => st_nilck_p rfl (g_faddr_p rfl (g_sp (v := ii v3) (h' := [.cells [bn p1.rest, .bool p1.bad, ii v3], .cells [ii 0, ii 0, .str [], nl eGaValue]]) rfl rfl rfl (g_endq [(0, .ptr 0 0), (1, ii p2), (4, .ptr 1 0)] rfl ?_))))))))
  refine sc_seq ?_
  obtain ⟨J5, hw, hk⟩ := hw
  refine sc_join (A := Bool) (fun x => J5 x) (fun x => ([(0, .ptr 0 0), (1, ii p2), (4, .ptr 1 0)], [.cells [bn p1.rest, .bool x, ii v3], .cells [ii 0, ii 0, .str [], nl eGaValue]])) ?_ ?_
  · rintro v4 hj
    have hw := hk v4 hj
    clear hk hj
    refine q_reg (st_mv rfl (st_nilck_p rfl (g_faddr_p rfl (g_load_p rfl rfl rfl (g_endq [(0, .ptr 0 0), (1, ii p2), (4, .ptr 1 0), (35, .bool v4)] rfl ?_)))))
    refine s_cond rfl hw (fun hw => ?_) (fun hw => ?_)
    · refine q_reg (g_build (cs := [ii 0, ii 0, .str [], nl eGaValue]) ep_nil rfl (g_sp (v := .agg [ii 0, ii 0, .str [], nl eGaValue]) (h' := [.cells [bn p1.rest, .bool v4, ii v3], .cells [ii 0, ii 0, .str [], nl eGaValue]]) rfl rfl rfl (g_endq [(4, .ptr 1 0)] rfl ?_)))
      exact sc_ret (sq_r (gr (g := zg88) (ho := zo88) [.agg [ii 0, ii 0, .str [], nl eGaValue]] [.agg [ii 0, ii 0, .str [], ln eGaValue ([] : List GaValue)]] hw (.inr rfl) (wrm 1 [0])))
    · refine sc_skip (sq_n (q_reg (st_mv rfl (kh hh (g2 := fun r7 : Int × Gvreader => .int .u8 r7.1) (H2 := fun r7 : Int × Gvreader => [.cells [bn r7.2.rest, .bool r7.2.bad, ii r7.2.left], .cells [ii 0, ii 0, .str [], nl eGaValue]]) [0] [0] 2 0 (ec rfl en) hw fun r7 hw => g_conv rfl hw fun v8 hw => g_build (cs := [ii v8, ii 0, .str [], nl eGaValue]) (ep_cons rfl ep_nil) rfl (g_alloc (n := 2) rfl rfl (g_sp (v := .agg [ii v8, ii 0, .str [], nl eGaValue]) (h' := [.cells [bn r7.2.rest, .bool r7.2.bad, ii r7.2.left], .cells [ii 0, ii 0, .str [], nl eGaValue], .cells [ii v8, ii 0, .str [], nl eGaValue]]) rfl rfl rfl (g_endq [(0, .ptr 0 0), (1, ii p2), (4, .ptr 1 0), (5, .ptr 2 0)] rfl ?_)))))))
      refine q_reg (st_mv rfl (kh hh (g2 := fun r9 : Int × Gvreader => ii r9.1) (H2 := fun r9 : Int × Gvreader => [.cells [bn r9.2.rest, .bool r9.2.bad, ii r9.2.left], .cells [ii 0, ii 0, .str [], nl eGaValue], .cells [ii v8, ii 0, .str [], nl eGaValue]]) [0] [0] 3 0 (ec rfl en) hw fun r9 hw => g_faddr_p rfl (g_sp (v := ii r9.1) (h' := [.cells [bn r9.2.rest, .bool r9.2.bad, ii r9.2.left], .cells [ii 0, ii 0, .str [], nl eGaValue], .cells [ii v8, ii r9.1, .str [], nl eGaValue]]) rfl rfl rfl (g_endq [(0, .ptr 0 0), (1, ii p2), (4, .ptr 1 0), (5, .ptr 2 0)] rfl ?_))))
      refine q_reg (st_mv rfl (kh hh (g2 := fun r10 : List UInt8 × Gvreader => .str r10.1) (H2 := fun r10 : List UInt8 × Gvreader => [.cells [bn r10.2.rest, .bool r10.2.bad, ii r10.2.left], .cells [ii 0, ii 0, .str [], nl eGaValue], .cells [ii v8, ii r9.1, .str [], nl eGaValue]]) [0] [0] 3 0 (ec rfl en) hw fun r10 hw => g_faddr_p rfl (g_sp (v := .str r10.1) (h' := [.cells [bn r10.2.rest, .bool r10.2.bad, ii r10.2.left], .cells [ii 0, ii 0, .str [], nl eGaValue], .cells [ii v8, ii r9.1, .str r10.1, nl eGaValue]]) rfl rfl rfl (g_endq [(0, .ptr 0 0), (1, ii p2), (4, .ptr 1 0), (5, .ptr 2 0)] rfl ?_))))
      refine sc_seq (q_reg (st_mv rfl (kh hh (g2 := fun r11 : Int × Gvreader => ii r11.1) (H2 := fun r11 : Int × Gvreader => [.cells [bn r11.2.rest, .bool r11.2.bad, ii r11.2.left], .cells [ii 0, ii 0, .str [], nl eGaValue], .cells [ii v8, ii r9.1, .str r10.1, nl eGaValue]]) [0] [0] 3 0 (ec rfl (ec rfl en)) hw fun r11 hw => st_mv rfl (g_endq [(0, .ptr 0 0), (1, ii p2), (4, .ptr 1 0), (5, .ptr 2 0), (6, ii r11.1)] rfl ?_))))
      refine sc_block ?_
      obtain ⟨I26, M27, hi, hw⟩ := hw
      refine sc_loop (X := { x : List UInt8 × Bool × Int × List GaValue × Int // I26 x.1 x.2.1 x.2.2.1 x.2.2.2.1 x.2.2.2.2 }) (fun x => ([(0, .ptr 0 0), (1, ii p2), (4, .ptr 1 0), (5, .ptr 2 0), (6, ii x.1.2.2.2.2)], [.cells [bn x.1.1, .bool x.1.2.1, ii x.1.2.2.1], .cells [ii 0, ii 0, .str [], nl eGaValue], .cells [ii v8, ii r9.1, .str r10.1, .list (List.map eGaValue x.1.2.2.2.1) (.own 3 1 4)], .tok (1 + x.1.2.2.2.1.length)])) (fun x => M27 x.1.1 x.1.2.1 x.1.2.2.1 x.1.2.2.2.1 x.1.2.2.2.2) ⟨(r11.2.rest, r11.2.bad, r11.2.left, ([] : List GaValue), r11.1), hi⟩ ((w_acc_cell (l := ([] : List GaValue)) (f := _) 2 3 4 (n := 3) (h' := [.cells [bn r11.2.rest, .bool r11.2.bad, ii r11.2.left], .cells [ii 0, ii 0, .str [], nl eGaValue], .cells [ii v8, ii r9.1, .str r10.1, .list (List.map eGaValue ([] : List GaValue)) (.own 3 1 4)], .tok (1 + ([] : List GaValue).length)]) rfl enc_GaValue rfl rfl rfl).trans ws) ?_
      rintro ⟨⟨v12, v13, v14, v15, v16⟩, hi2⟩
      have hw := hw v12 v13 v14 v15 v16 hi2
      clear hi
      refine sc_seq (q_reg (st_mv rfl (g_gtr rfl rfl hw (fun hw => st_mv rfl (st_g rfl (st_mv rfl (st_g rfl (st_nilck_p rfl (st_g rfl (g_faddr_p rfl (st_g rfl (g_load_p rfl rfl rfl (st_g rfl (st_not rfl (st_pick_t rfl rfl rfl (g_endq [(0, .ptr 0 0), (1, ii p2), (4, .ptr 1 0), (5, .ptr 2 0), (6, ii v16), (57, .bool (!v13))] rfl ?_))))))))))))) (fun hw => st_mv rfl (st_gft rfl (st_gft rfl (st_gft rfl (st_gft rfl (st_gft rfl (st_pick_f rfl rfl rfl (g_endq [(0, .ptr 0 0), (1, ii p2), (4, .ptr 1 0), (5, .ptr 2 0), (6, ii v16), (57, .bool false)] rfl ?_)))))))))))
      · refine s_cond rfl hw (fun hw => ?_) (fun hw => ?_)
        · refine sc_skip (sq_n ?_)
          obtain ⟨J32, hw, hk⟩ := hw
          refine sc_join (A := List UInt8 × Bool × Int × List GaValue) (fun x => J32 x.1 x.2.1 x.2.2.1 x.2.2.2) (fun x => ([(0, .ptr 0 0), (1, ii p2), (4, .ptr 1 0), (5, .ptr 2 0), (6, ii v16)], [.cells [bn x.1, .bool x.2.1, ii x.2.2.1], .cells [ii 0, ii 0, .str [], nl eGaValue], .cells [ii v8, ii r9.1, .str r10.1, .list (List.map eGaValue x.2.2.2) (.own 3 1 4)], .tok (1 + x.2.2.2.length)])) ?_ ?_
          · rintro ⟨v28, v29, v30, v31⟩ hj
            have hw := hk v28 v29 v30 v31 hj
            clear hk hj
            refine s_reg (st_mv rfl (g_sub rfl rfl hw fun v36 hw => st_mv rfl (g_end [(0, .ptr 0 0), (1, ii p2), (4, .ptr 1 0), (5, .ptr 2 0), (6, ii v36)] rfl ?_)))
            exact lo_n ⟨(v28, v29, v30, v31, v36), hw.1⟩ hw.2 ws
          · clear hk
            refine sc_block (s_dord Try.mixed rfl rfl ⟨?_, ?_, trivial⟩)
            · refine g_faddr_p rfl (g_load_p rfl rfl rfl (st_mv rfl (st_mv rfl (g_add rfl rfl hw fun v33 hw => kh (hm rfl) (g2 := fun r34 : GaValue × Gvreader => .agg [ii r34.1.Kind, ii r34.1.Num, .str r34.1.Text, ln eGaValue r34.1.Args]) (H2 := fun r34 : GaValue × Gvreader => [.cells [bn r34.2.rest, .bool r34.2.bad, ii r34.2.left], .cells [ii 0, ii 0, .str [], nl eGaValue], .cells [ii v8, ii r9.1, .str r10.1, .list (List.map eGaValue v15) (.own 3 1 4)], .tok (1 + v15.length)]) [0] [0] 4 0 (ec rfl (ec rfl en)) hw fun r34 hw => g_mkl enc_GaValue [r34.1] (ec rfl en) (mk_cons (eGaValue_eq _).symm mk_nil) (mz mkn) (g_appo enc_GaValue rfl rfl rfl hw (fun z => [.cells [bn r34.2.rest, .bool r34.2.bad, ii r34.2.left], .cells [ii 0, ii 0, .str [], nl eGaValue], .cells [ii v8, ii r9.1, .str r10.1, .list (List.map eGaValue v15) (.own 3 1 4)], .tok (1 + z.length)]) (fun _ => rfl) fun v35 hw => g_faddr_p rfl (g_sp (v := .list (List.map eGaValue v35) (.own 3 1 4)) (h' := [.cells [bn r34.2.rest, .bool r34.2.bad, ii r34.2.left], .cells [ii 0, ii 0, .str [], nl eGaValue], .cells [ii v8, ii r9.1, .str r10.1, .list (List.map eGaValue v35) (.own 3 1 4)], .tok (1 + v35.length)]) rfl rfl rfl (g_end [(0, .ptr 0 0), (1, ii p2), (4, .ptr 1 0), (5, .ptr 2 0), (6, ii v16)] rfl ?_)))))))
              exact bl_n (jo_n (r34.2.rest, r34.2.bad, r34.2.left, v35) hw ws)
            · refine g_faddr_p rfl (st_mv rfl (st_mv rfl (g_add rfl rfl hw fun v33 hw => kh (hm rfl) (g2 := fun r34 : GaValue × Gvreader => .agg [ii r34.1.Kind, ii r34.1.Num, .str r34.1.Text, ln eGaValue r34.1.Args]) (H2 := fun r34 : GaValue × Gvreader => [.cells [bn r34.2.rest, .bool r34.2.bad, ii r34.2.left], .cells [ii 0, ii 0, .str [], nl eGaValue], .cells [ii v8, ii r9.1, .str r10.1, .list (List.map eGaValue v15) (.own 3 1 4)], .tok (1 + v15.length)]) [0] [0] 4 0 (ec rfl (ec rfl en)) hw fun r34 hw => g_load_p rfl rfl rfl (g_mkl enc_GaValue [r34.1] (ec rfl en) (mk_cons (eGaValue_eq _).symm mk_nil) (mz mkn) (g_appo enc_GaValue rfl rfl rfl hw (fun z => [.cells [bn r34.2.rest, .bool r34.2.bad, ii r34.2.left], .cells [ii 0, ii 0, .str [], nl eGaValue], .cells [ii v8, ii r9.1, .str r10.1, .list (List.map eGaValue v15) (.own 3 1 4)], .tok (1 + z.length)]) (fun _ => rfl) fun v35 hw => g_faddr_p rfl (g_sp (v := .list (List.map eGaValue v35) (.own 3 1 4)) (h' := [.cells [bn r34.2.rest, .bool r34.2.bad, ii r34.2.left], .cells [ii 0, ii 0, .str [], nl eGaValue], .cells [ii v8, ii r9.1, .str r10.1, .list (List.map eGaValue v35) (.own 3 1 4)], .tok (1 + v35.length)]) rfl rfl rfl (g_end [(0, .ptr 0 0), (1, ii p2), (4, .ptr 1 0), (5, .ptr 2 0), (6, ii v16)] rfl ?_)))))))
              exact bl_n (jo_n (r34.2.rest, r34.2.bad, r34.2.left, v35) hw ws)
        · refine sc_exit (sq_x (lo_x (bl_x (sq_n (q_reg (g_load_p (v := .agg [ii v8, ii r9.1, .str r10.1, .list (List.map eGaValue v15) (.own 3 1 4)]) rfl rfl rfl (g_sp (v := .agg [ii v8, ii r9.1, .str r10.1, .list (List.map eGaValue v15) (.own 3 1 4)]) (h' := [.cells [bn v12, .bool v13, ii v14], .cells [ii v8, ii r9.1, .str r10.1, .list (List.map eGaValue v15) (.own 3 1 4)], .cells [ii v8, ii r9.1, .str r10.1, .list (List.map eGaValue v15) (.own 3 1 4)], .tok (1 + v15.length)]) rfl rfl rfl (g_endq [(4, .ptr 1 0)] rfl ?_))))))))
          exact sc_ret (gr (g := zg88) (ho := zo88) [.agg [ii v8, ii r9.1, .str r10.1, .list (List.map eGaValue v15) (.own 3 1 4)]] [.agg [ii v8, ii r9.1, .str r10.1, ln eGaValue v15]] hw (.inr rfl) (wrm 1 [0]))
      · refine s_cond_f rfl (sc_exit (sq_x (lo_x (bl_x (sq_n (q_reg (g_load_p (v := .agg [ii v8, ii r9.1, .str r10.1, .list (List.map eGaValue v15) (.own 3 1 4)]) rfl rfl rfl (g_sp (v := .agg [ii v8, ii r9.1, .str r10.1, .list (List.map eGaValue v15) (.own 3 1 4)]) (h' := [.cells [bn v12, .bool v13, ii v14], .cells [ii v8, ii r9.1, .str r10.1, .list (List.map eGaValue v15) (.own 3 1 4)], .cells [ii v8, ii r9.1, .str r10.1, .list (List.map eGaValue v15) (.own 3 1 4)], .tok (1 + v15.length)]) rfl rfl rfl (g_endq [(4, .ptr 1 0)] rfl ?_)))))))))
        exact sc_ret (gr (g := zg88) (ho := zo88) [.agg [ii v8, ii r9.1, .str r10.1, .list (List.map eGaValue v15) (.own 3 1 4)]] [.agg [ii v8, ii r9.1, .str r10.1, ln eGaValue v15]] hw (.inr rfl) (wrm 1 [0]))
  · clear hk
    refine s_reg (st_mv rfl (st_mv rfl (st_nilck_p rfl (g_faddr_p rfl (g_load_p rfl rfl rfl (st_mv rfl (g_split rfl hw ?_ ?_)))))))
    · intro c hw
      rw [c]
      refine st_gtf rfl (st_gtf rfl (st_gtf rfl (st_gtf rfl (st_gtf rfl (st_pick_t rfl rfl rfl (st_mv rfl (st_gtf rfl (st_gtf rfl (st_pick_t rfl rfl rfl (st_nilck_p rfl (g_faddr_p rfl (g_sp (v := .bool true) (h' := [.cells [bn p1.rest, .bool true, ii v3], .cells [ii 0, ii 0, .str [], nl eGaValue]]) rfl rfl rfl (g_end [(0, .ptr 0 0), (1, ii p2), (4, .ptr 1 0)] rfl ?_)))))))))))))
      exact jo_n true hw ws
    · intro c hw
      rw [c]
      refine st_g rfl (st_mv rfl (st_g rfl (st_nilck_p rfl (st_g rfl (g_faddr_p rfl (st_g rfl (g_load_p rfl rfl rfl (st_g rfl (g_lss rfl rfl hw (fun hw => st_pick_f rfl rfl rfl (st_mv rfl (st_gtf rfl (st_gtf rfl (st_pick_t rfl rfl rfl (st_nilck_p rfl (g_faddr_p rfl (g_sp (v := .bool true) (h' := [.cells [bn p1.rest, .bool true, ii v3], .cells [ii 0, ii 0, .str [], nl eGaValue]]) rfl rfl rfl (g_end [(0, .ptr 0 0), (1, ii p2), (4, .ptr 1 0)] rfl ?_))))))))) (fun hw => st_pick_f rfl rfl rfl (st_mv rfl (st_g rfl (st_mv rfl (st_g rfl (gb_cmp rfl rfl trivial rfl hw fun v6 hw => st_pick_f rfl rfl rfl (st_nilck_p rfl (g_faddr_p rfl (g_sp (v := .bool v6) (h' := [.cells [bn p1.rest, .bool v6, ii v3], .cells [ii 0, ii 0, .str [], nl eGaValue]]) rfl rfl rfl (g_end [(0, .ptr 0 0), (1, ii p2), (4, .ptr 1 0)] rfl ?_)))))))))))))))))))
      · exact jo_n true hw ws
      · exact jo_n v6 hw ws
def hc90 : C := (.seq (.reg [oo 2 (.mv (.c (.int .u8 0)))] [0]) (.seq (.seq (.reg [mo 4 0, oo 5 (.nilck 4), oo 6 (.faddr 0 1 5), oo 7 (.load none 6), oo 8 (.len false 7), oo 9 (.eqv false .int 8 (.c (.int .i64 0)))] [0, 9]) (.cond 9 (.seq (.reg [mo 10 0, oo 11 (.nilck 10), oo 12 (.faddr 1 1 11), os (.store 1 12 (.c (.bool true)))] []) (.seq (.reg [oo 2 (.mv (.c (.int .u8 0)))] [2]) .ret)) .skip)) (.seq (.reg [mo 13 0, oo 14 (.nilck 13), oo 15 (.faddr 0 1 14), oo 16 (.load none 15), oo 17 (.iaddr 1 16 (.c (.int .i64 0))), oo 18 (.load none 17), mo 3 18] [0, 3]) (.seq (.reg [mo 19 0, mo 20 0, oo 21 (.nilck 20), oo 22 (.faddr 0 1 21), oo 23 (.load none 22), oo 24 (.slice 1 23 (some (.c (.int .i64 1))) none none), oo 25 (.nilck 19), oo 26 (.faddr 0 1 25), os (.store 1 26 24)] [3]) (.seq (.reg [mo 27 3, mo 2 27] [2]) .ret)))))
def ha90 : Ann := ⟨[], [], [(0, [0]), (1, [0, 9]), (2, []), (3, [2]), (4, [0, 3]), (5, [3]), (6, [2])], []⟩
theorem hk90 : comp Try.prog ha90 Try.f90.ntmps Try.f90.code = some hc90 := by kernel_rfl
def w90 (p1 : Gvreader) (Q : Int × Gvreader → Prop) : Prop :=
  (((p1.rest.length : Int) = (0 : Int) → Q ((0 : Int), (Gvreader.mk p1.rest true p1.left))) ∧ ((p1.rest.length : Int) ≠ (0 : Int) → (0 ≤ (0 : Int) ∧ (0 : Int) < (p1.rest.length : Int)) ∧ ∀ a2 : UInt8, p1.rest[((0 : Int) : Int).toNat]? = some a2 → (0 ≤ (1 : Int) ∧ (1 : Int) ≤ (p1.rest.length : Int) ∧ (p1.rest.length : Int) ≤ (p1.rest.length : Int)) ∧ ∀ v3 : List UInt8, v3 = (p1.rest.take ((p1.rest.length : Int) : Int).toNat).drop ((1 : Int) : Int).toNat → Q ((a2.toNat : Int), (Gvreader.mk v3 p1.bad p1.left))))
theorem ok90 (p1 : Gvreader) (r : Int × Gvreader) (hw : w90 p1 fun r' => r' = r) : sp90 p1 r := by
  refine zh (rs := [.t 2]) Try.func90 hk90 ?_
  unfold w90 at hw
  show SC Try.prog Try.f90.ntmps 1 hc90 _ [(0, .ptr 0 0)] [.cells [bn p1.rest, .bool p1.bad, ii p1.left]]
  unfold hc90
  refine q_reg (st_mv rfl (g_endq [(0, .ptr 0 0)] rfl ?_))
  refine sc_seq (q_reg (st_mv rfl (st_nilck_p rfl (g_faddr_p rfl (g_load_p rfl rfl rfl (g_len rfl (g_eqi rfl rfl hw (fun hw => g_endq [(0, .ptr 0 0), (9, .bool true)] rfl ?_) (fun hw => g_endq [(0, .ptr 0 0), (9, .bool false)] rfl ?_))))))))
  · refine s_cond_t rfl (q_reg (st_mv rfl (st_nilck_p rfl (g_faddr_p rfl (g_sp (v := .bool true) (h' := [.cells [bn p1.rest, .bool true, ii p1.left]]) rfl rfl rfl (g_endq [] rfl ?_))))))
    refine q_reg (st_mv rfl (g_endq [(2, .int .u8 0)] rfl ?_))
    exact sc_ret (sq_r (gr1 (g := zg90) (ho := zo90) [.int .u8 0] hw (.inr rfl) ws))
  · refine s_cond_f rfl (sc_skip (sq_n (q_reg (st_mv rfl (st_nilck_p rfl (g_faddr_p rfl (g_load_p rfl rfl rfl (g_iaddr enc_byte rfl rfl hw fun a2 hw => st_load_r rfl rfl (st_mv rfl (g_endq [(0, .ptr 0 0), (3, .int .u8 (a2.toNat : Int))] rfl ?_))))))))))
    refine q_reg (st_mv rfl (st_mv rfl (st_nilck_p rfl (g_faddr_p rfl (g_load_p rfl rfl rfl (g_slice enc_byte rfl (bnd_some rfl) bnd_none hw fun v3 hw => st_nilck_p rfl (g_faddr_p rfl (g_sp (v := bn v3) (h' := [.cells [bn v3, .bool p1.bad, ii p1.left]]) rfl rfl rfl (g_endq [(3, .int .u8 (a2.toNat : Int))] rfl ?_)))))))))
    refine q_reg (st_mv rfl (st_mv rfl (g_endq [(2, .int .u8 (a2.toNat : Int))] rfl ?_)))
    exact sc_ret (gr1 (g := zg90) (ho := zo90) [.int .u8 (a2.toNat : Int)] hw (.inr rfl) ws)
def hc91 : C := (.seq (.reg [oo 2 (.mv (.c (.str [])))] [0]) (.seq (.reg [mo 5 0, co 6 (.call 56 [5, (.c (.int .i64 4000))]), mo 3 6] [0, 3]) (.seq (.seq (.reg [mo 7 3, mo 8 0, oo 9 (.nilck 8), oo 10 (.faddr 0 1 9), oo 11 (.load none 10), oo 12 (.len false 11), oo 13 (.bin .gtr 7 12)] [0, 3, 13]) (.cond 13 (.seq (.reg [mo 14 0, oo 15 (.nilck 14), oo 16 (.faddr 1 1 15), os (.store 1 16 (.c (.bool true)))] []) (.seq (.reg [oo 2 (.mv (.c (.str [])))] [2]) .ret)) .skip)) (.seq (.reg [mo 17 0, oo 18 (.nilck 17), oo 19 (.faddr 0 1 18), oo 20 (.load none 19), mo 21 3, oo 22 (.slice 1 20 none (some 21) none), oo 23 (.conv .ofBytes 22), mo 4 23] [0, 3, 4]) (.seq (.reg [mo 24 0, mo 25 0, oo 26 (.nilck 25), oo 27 (.faddr 0 1 26), oo 28 (.load none 27), mo 29 3, oo 30 (.slice 1 28 (some 29) none none), oo 31 (.nilck 24), oo 32 (.faddr 0 1 31), os (.store 1 32 30)] [4]) (.seq (.reg [mo 33 4, mo 2 33] [2]) .ret))))))
def ha91 : Ann := ⟨[], [56], [(0, [0]), (1, [0, 3]), (2, [0, 3, 13]), (3, []), (4, [2]), (5, [0, 3, 4]), (6, [4]), (7, [2])], []⟩
theorem hk91 : comp Try.prog ha91 Try.f91.ntmps Try.f91.code = some hc91 := by kernel_rfl
def w91 (p1 : Gvreader) (Q : List UInt8 × Gvreader → Prop) : Prop :=
  ∃ r2 : Int × Gvreader, sp56 (Gvreader.mk p1.rest p1.bad p1.left) (4000 : Int) r2 ∧ (((r2.2.rest.length : Int) < r2.1 → Q ([], (Gvreader.mk r2.2.rest true r2.2.left))) ∧ (r2.1 ≤ (r2.2.rest.length : Int) → (0 ≤ (0 : Int) ∧ (0 : Int) ≤ r2.1 ∧ r2.1 ≤ (r2.2.rest.length : Int)) ∧ ∀ v3 : List UInt8, v3 = (r2.2.rest.take (r2.1 : Int).toNat).drop ((0 : Int) : Int).toNat → (0 ≤ r2.1 ∧ r2.1 ≤ (r2.2.rest.length : Int) ∧ (r2.2.rest.length : Int) ≤ (r2.2.rest.length : Int)) ∧ ∀ v4 : List UInt8, v4 = (r2.2.rest.take ((r2.2.rest.length : Int) : Int).toNat).drop (r2.1 : Int).toNat → Q (v3, (Gvreader.mk v4 r2.2.bad r2.2.left))))
theorem ok91 (p1 : Gvreader) (r : List UInt8 × Gvreader) (hw : w91 p1 fun r' => r' = r) : sp91 p1 r := by
  refine zh (rs := [.t 2]) Try.func91 hk91 ?_
  unfold w91 at hw
  show SC Try.prog Try.f91.ntmps 1 hc91 _ [(0, .ptr 0 0)] [.cells [bn p1.rest, .bool p1.bad, ii p1.left]]
  unfold hc91
  refine q_reg (st_mv rfl (g_endq [(0, .ptr 0 0)] rfl ?_))
  refine q_reg (st_mv rfl (kh hh (g2 := fun r2 : Int × Gvreader => ii r2.1) (H2 := fun r2 : Int × Gvreader => [.cells [bn r2.2.rest, .bool r2.2.bad, ii r2.2.left]]) [0] [0] 1 0 (ec rfl (ec rfl en)) hw fun r2 hw => st_mv rfl (g_endq [(0, .ptr 0 0), (3, ii r2.1)] rfl ?_)))
  refine sc_seq (q_reg (st_mv rfl (st_mv rfl (st_nilck_p rfl (g_faddr_p rfl (g_load_p rfl rfl rfl (g_len rfl (g_gtr rfl rfl hw (fun hw => g_endq [(0, .ptr 0 0), (3, ii r2.1), (13, .bool true)] rfl ?_) (fun hw => g_endq [(0, .ptr 0 0), (3, ii r2.1), (13, .bool false)] rfl ?_)))))))))
  · refine s_cond_t rfl (q_reg (st_mv rfl (st_nilck_p rfl (g_faddr_p rfl (g_sp (v := .bool true) (h' := [.cells [bn r2.2.rest, .bool true, ii r2.2.left]]) rfl rfl rfl (g_endq [] rfl ?_))))))
    refine q_reg (st_mv rfl (g_endq [(2, .str [])] rfl ?_))
    exact sc_ret (sq_r (gr1 (g := zg91) (ho := zo91) [.str []] hw (.inr rfl) ws))
  · refine s_cond_f rfl (sc_skip (sq_n (q_reg (st_mv rfl (st_nilck_p rfl (g_faddr_p rfl (g_load_p rfl rfl rfl (st_mv rfl (g_slice enc_byte rfl bnd_none (bnd_some rfl) hw fun v3 hw => st_ofbytes rfl (st_mv rfl (g_endq [(0, .ptr 0 0), (3, ii r2.1), (4, .str v3)] rfl ?_)))))))))))
    refine q_reg (st_mv rfl (st_mv rfl (st_nilck_p rfl (g_faddr_p rfl (g_load_p rfl rfl rfl (st_mv rfl (g_slice enc_byte rfl (bnd_some rfl) bnd_none hw fun v4 hw => st_nilck_p rfl (g_faddr_p rfl (g_sp (v := bn v4) (h' := [.cells [bn v4, .bool r2.2.bad, ii r2.2.left]]) rfl rfl rfl (g_endq [(4, .str v3)] rfl ?_))))))))))
    refine q_reg (st_mv rfl (st_mv rfl (g_endq [(2, .str v3)] rfl ?_)))
    exact sc_ret (gr1 (g := zg91) (ho := zo91) [.str v3] hw (.inr rfl) ws)
def hc102 : C := (.seq (.reg [oo 1 (.box none 4 0), oo 2 (.mv (.c (.bool false)))] [1]) (.seq (.dreg [oo 6 (.faddr 1 1 1), oo 7 (.load none 6), oo 8 (.eqv false .int 7 (.c (.int .i64 0))), oo 9 (.faddr 2 1 1), oo 10 (.load none 9), oo 11 (.eqv false .str 10 (.c (.str []))), oo 12 (.faddr 3 1 1), oo 13 (.load none 12), oo 14 (.len false 13), mo 3 8, mo 4 11, mo 5 14] [] 0 [1, 3, 4, 5]) (.seq (.seq (.reg [oo 15 (.faddr 0 1 1), oo 16 (.load none 15)] [1, 3, 4, 5, 16]) (.block 0 (.seq (.reg [oo 18 (.eqv false .int 16 (.c (.int .i64 1))), mo 17 18] [1, 3, 4, 5, 16, 17]) (.cond 17 (.seq (.reg [mo 19 3, mo 20 19, og 21 (.mv 4) 20 true, oo 22 (.pick 20 21 (.c (.bool false))), mo 23 22, og 24 (.mv 5) 23 true, og 25 (.eqv false .int 24 (.c (.int .i64 0))) 23 true, oo 26 (.pick 23 25 (.c (.bool false))), mo 2 26] [2]) .ret) (.seq (.seq (.reg [oo 28 (.eqv false .int 16 (.c (.int .i64 2))), mo 27 28] [1, 3, 4, 5, 16, 27]) (.cond 27 .skip (.reg [oo 29 (.eqv false .int 16 (.c (.int .i64 6))), mo 27 29] [1, 3, 4, 5, 16, 27]))) (.cond 27 (.seq (.reg [mo 30 4, mo 31 30, og 32 (.mv 5) 31 true, og 33 (.eqv false .int 32 (.c (.int .i64 0))) 31 true, oo 34 (.pick 31 33 (.c (.bool false))), mo 2 34] [2]) .ret) (.seq (.reg [oo 36 (.eqv false .int 16 (.c (.int .i64 3))), mo 35 36] [1, 3, 4, 5, 16, 35]) (.cond 35 (.seq (.reg [mo 37 3, mo 38 37, og 39 (.faddr 1 1 1) 38 false, og 40 (.load none 39) 38 false, og 41 (.eqv false .int 40 (.c (.int .i64 1))) 38 false, oo 42 (.pick 38 (.c (.bool true)) 41), mo 43 42, og 44 (.mv 4) 43 true, oo 45 (.pick 43 44 (.c (.bool false))), mo 46 45, og 47 (.mv 5) 46 true, og 48 (.eqv false .int 47 (.c (.int .i64 0))) 46 true, oo 49 (.pick 46 48 (.c (.bool false))), mo 2 49] [2]) .ret) (.seq (.reg [oo 51 (.eqv false .int 16 (.c (.int .i64 4))), mo 50 51] [3, 4, 5, 16, 50]) (.cond 50 (.seq (.reg [mo 52 3, mo 53 52, og 54 (.mv 5) 53 true, og 55 (.eqv false .int 54 (.c (.int .i64 0))) 53 true, oo 56 (.pick 53 55 (.c (.bool false))), mo 2 56] [2]) .ret) (.seq (.reg [oo 58 (.eqv false .int 16 (.c (.int .i64 5))), mo 57 58] [3, 4, 5, 16, 57]) (.cond 57 (.seq (.reg [mo 59 3, mo 60 59, og 61 (.mv 4) 60 true, og 62 (.un .not 61) 60 true, oo 63 (.pick 60 62 (.c (.bool false))), mo 2 63] [2]) .ret) (.seq (.reg [oo 65 (.eqv false .int 16 (.c (.int .i64 7))), mo 64 65] [3, 4, 5, 16, 64]) (.cond 64 (.seq (.reg [oo 2 (.mv (.c (.bool true)))] [2]) .ret) (.seq (.reg [oo 67 (.eqv false .int 16 (.c (.int .i64 8))), mo 66 67] [3, 4, 5, 66]) (.cond 66 (.seq (.reg [mo 68 3, mo 69 68, og 70 (.mv 4) 69 true, oo 71 (.pick 69 70 (.c (.bool false))), mo 72 71, og 73 (.mv 5) 72 true, og 74 (.bin .leq 73 (.c (.int .i64 1))) 72 true, oo 75 (.pick 72 74 (.c (.bool false))), mo 2 75] [2]) .ret) .skip)))))))))))))))) (.seq (.reg [oo 2 (.mv (.c (.bool false)))] [2]) .ret))))
def ha102 : Ann := ⟨[], [], [(0, [1]), (1, [1, 3, 4, 5]), (2, [1, 3, 4, 5, 16]), (3, [1, 3, 4, 5, 16, 17]), (4, [2]), (5, [1, 3, 4, 5, 16, 27]), (6, [1, 3, 4, 5, 16, 27]), (7, [2]), (8, [1, 3, 4, 5, 16, 35]), (9, [2]), (10, [3, 4, 5, 16, 50]), (11, [2]), (12, [3, 4, 5, 16, 57]), (13, [2]), (14, [3, 4, 5, 16, 64]), (15, [2]), (16, [3, 4, 5, 66]), (17, [2]), (18, [2])], []⟩
theorem hk102 : comp Try.prog ha102 Try.f102.ntmps Try.f102.code = some hc102 := by kernel_rfl
def w102 (p1 : GaValue) (Q : Bool → Prop) : Prop :=
  ∀ v2 : Bool, v2 = (if false then !(p1.Num == (0 : Int)) else (p1.Num == (0 : Int))) → ∀ v3 : Bool, v3 = (if false then !(p1.Text == []) else (p1.Text == [])) → ((p1.Kind = (1 : Int) → ((v2 = true → ((v3 = true → ∀ v4 : Bool, v4 = (if false then !((p1.Args.length : Int) == (0 : Int)) else ((p1.Args.length : Int) == (0 : Int))) → Q v4) ∧ (v3 = false → Q false))) ∧ (v2 = false → Q false))) ∧ (p1.Kind ≠ (1 : Int) → ∃ J6 : Bool → Prop, (((p1.Kind = (2 : Int) → J6 true) ∧ (p1.Kind ≠ (2 : Int) → ∀ v7 : Bool, v7 = (if false then !(p1.Kind == (6 : Int)) else (p1.Kind == (6 : Int))) → J6 v7))) ∧ ∀ (v5 : Bool), J6 v5 → ((v5 = true → ((v3 = true → ∀ v8 : Bool, v8 = (if false then !((p1.Args.length : Int) == (0 : Int)) else ((p1.Args.length : Int) == (0 : Int))) → Q v8) ∧ (v3 = false → Q false))) ∧ (v5 = false → ((p1.Kind = (3 : Int) → ((v2 = true → ((v3 = true → ∀ v9 : Bool, v9 = (if false then !((p1.Args.length : Int) == (0 : Int)) else ((p1.Args.length : Int) == (0 : Int))) → Q v9) ∧ (v3 = false → Q false))) ∧ (v2 = false → ((p1.Num = (1 : Int) → ((v3 = true → ∀ v10 : Bool, v10 = (if false then !((p1.Args.length : Int) == (0 : Int)) else ((p1.Args.length : Int) == (0 : Int))) → Q v10) ∧ (v3 = false → Q false))) ∧ (p1.Num ≠ (1 : Int) → Q false))))) ∧ (p1.Kind ≠ (3 : Int) → ((p1.Kind = (4 : Int) → ((v2 = true → ∀ v11 : Bool, v11 = (if false then !((p1.Args.length : Int) == (0 : Int)) else ((p1.Args.length : Int) == (0 : Int))) → Q v11) ∧ (v2 = false → Q false))) ∧ (p1.Kind ≠ (4 : Int) → ((p1.Kind = (5 : Int) → ((v2 = true → Q (!v3)) ∧ (v2 = false → Q false))) ∧ (p1.Kind ≠ (5 : Int) → ((p1.Kind = (7 : Int) → Q true) ∧ (p1.Kind ≠ (7 : Int) → ((p1.Kind = (8 : Int) → ((v2 = true → ((v3 = true → ∀ v12 : Bool, v12 = decide ((p1.Args.length : Int) ≤ (1 : Int)) → Q v12) ∧ (v3 = false → Q false))) ∧ (v2 = false → Q false))) ∧ (p1.Kind ≠ (8 : Int) → Q false))))))))))))))
theorem ok102 (p1 : GaValue) (r : Bool) (hw : w102 p1 fun r' => r' = r) : sp102 p1 r := by
  refine zf (rs := [.t 2]) (g := zg102) Try.func102 hk102 ?_
  unfold w102 at hw
  show SC Try.prog Try.f102.ntmps 0 hc102 _ [(0, .agg [ii p1.Kind, ii p1.Num, .str p1.Text, ln eGaValue p1.Args])] []
  unfold hc102
  refine q_reg (g_box (v := .agg [ii p1.Kind, ii p1.Num, .str p1.Text, ln eGaValue p1.Args]) rfl rfl rfl (n := 0) rfl rfl (st_mv rfl (g_endq [(1, .ptr 0 0)] rfl ?_)))
  refine sc_seq (s_dreg Try.mixed rfl (g_faddr_p rfl (g_load_p rfl rfl rfl (gb_eqi rfl rfl hw fun v2 hw => g_faddr_p rfl (g_load_p rfl rfl rfl (gb_eqs rfl rfl hw fun v3 hw => g_faddr_p rfl (g_load_p rfl rfl rfl (g_len rfl (st_mv rfl (st_mv rfl (st_mv rfl (st_mid (g_end [(1, .ptr 0 0), (3, .bool v2), (4, .bool v3), (5, ii (p1.Args.length : Int))] rfl ?_)))))))))))))
  refine sq_n (sc_seq (q_reg (g_faddr_p rfl (g_load_p rfl rfl rfl (g_endq [(1, .ptr 0 0), (3, .bool v2), (4, .bool v3), (5, ii (p1.Args.length : Int)), (16, ii p1.Kind)] rfl ?_)))))
  refine sc_block (q_reg (g_eqi rfl rfl hw (fun hw => st_mv rfl (g_endq [(1, .ptr 0 0), (3, .bool v2), (4, .bool v3), (5, ii (p1.Args.length : Int)), (16, ii p1.Kind), (17, .bool true)] rfl ?_)) (fun hw => st_mv rfl (g_endq [(1, .ptr 0 0), (3, .bool v2), (4, .bool v3), (5, ii (p1.Args.length : Int)), (16, ii p1.Kind), (17, .bool false)] rfl ?_))))
  · refine s_cond_t rfl (q_reg (st_mv rfl (st_mv rfl (g_split rfl hw ?_ ?_))))
    · intro c hw
      rw [c]
      refine st_g rfl (st_mv rfl (st_pick_t rfl rfl rfl (st_mv rfl (g_split rfl hw ?_ ?_))))
      · intro c hw
        rw [c]
        refine st_g rfl (st_mv rfl (st_g rfl (gb_eqi rfl rfl hw fun v4 hw => st_pick_t rfl rfl rfl (st_mv rfl (g_endq [(2, .bool v4)] rfl ?_)))))
        exact sc_ret (bl_r (sq_r (gr1 (g := zg102) (ho := fun _ => []) [.bool v4] hw (.inr rfl) (wr []))))
      · intro c hw
        rw [c]
        refine st_gft rfl (st_gft rfl (st_pick_f rfl rfl rfl (st_mv rfl (g_endq [(2, .bool false)] rfl ?_))))
        exact sc_ret (bl_r (sq_r (gr1 (g := zg102) (ho := fun _ => []) [.bool false] hw (.inr rfl) (wr []))))
    · intro c hw
      rw [c]
      refine st_gft rfl (st_pick_f rfl rfl rfl (st_mv rfl (st_gft rfl (st_gft rfl (st_pick_f rfl rfl rfl (st_mv rfl (g_endq [(2, .bool false)] rfl ?_)))))))
      exact sc_ret (bl_r (sq_r (gr1 (g := zg102) (ho := fun _ => []) [.bool false] hw (.inr rfl) (wr []))))
  · refine s_cond_f rfl ?_
    obtain ⟨J6, hw, hk⟩ := hw
    refine sc_join (A := Bool) (fun x => J6 x) (fun x => ([(1, .ptr 0 0), (3, .bool v2), (4, .bool v3), (5, ii (p1.Args.length : Int)), (16, ii p1.Kind), (27, .bool x)], [.cells [ii p1.Kind, ii p1.Num, .str p1.Text, ln eGaValue p1.Args]])) ?_ ?_
    · rintro v5 hj
      have hw := hk v5 hj
      clear hk hj
      refine s_cond rfl hw (fun hw => ?_) (fun hw => ?_)
      · refine q_reg (st_mv rfl (st_mv rfl (g_split rfl hw ?_ ?_)))
        · intro c hw
          rw [c]
          refine st_g rfl (st_mv rfl (st_g rfl (gb_eqi rfl rfl hw fun v8 hw => st_pick_t rfl rfl rfl (st_mv rfl (g_endq [(2, .bool v8)] rfl ?_)))))
          exact sc_ret (bl_r (sq_r (gr1 (g := zg102) (ho := fun _ => []) [.bool v8] hw (.inr rfl) (wr []))))
        · intro c hw
          rw [c]
          refine st_gft rfl (st_gft rfl (st_pick_f rfl rfl rfl (st_mv rfl (g_endq [(2, .bool false)] rfl ?_))))
          exact sc_ret (bl_r (sq_r (gr1 (g := zg102) (ho := fun _ => []) [.bool false] hw (.inr rfl) (wr []))))
      · refine q_reg (g_eqi rfl rfl hw (fun hw => st_mv rfl (g_endq [(1, .ptr 0 0), (3, .bool v2), (4, .bool v3), (5, ii (p1.Args.length : Int)), (16, ii p1.Kind), (35, .bool true)] rfl ?_)) (fun hw => st_mv rfl (g_endq [(1, .ptr 0 0), (3, .bool v2), (4, .bool v3), (5, ii (p1.Args.length : Int)), (16, ii p1.Kind), (35, .bool false)] rfl ?_)))
        · refine s_cond_t rfl (q_reg (st_mv rfl (st_mv rfl (g_split rfl hw ?_ ?_))))
          · intro c hw
            rw [c]
            refine st_gtf rfl (st_gtf rfl (st_gtf rfl (st_pick_t rfl rfl rfl (st_mv rfl (st_g rfl (st_mv rfl (st_pick_t rfl rfl rfl (st_mv rfl (g_split rfl hw ?_ ?_)))))))))
            · intro c hw
              rw [c]
              refine st_g rfl (st_mv rfl (st_g rfl (gb_eqi rfl rfl hw fun v9 hw => st_pick_t rfl rfl rfl (st_mv rfl (g_endq [(2, .bool v9)] rfl ?_)))))
              exact sc_ret (bl_r (sq_r (gr1 (g := zg102) (ho := fun _ => []) [.bool v9] hw (.inr rfl) (wr []))))
            · intro c hw
              rw [c]
              refine st_gft rfl (st_gft rfl (st_pick_f rfl rfl rfl (st_mv rfl (g_endq [(2, .bool false)] rfl ?_))))
              exact sc_ret (bl_r (sq_r (gr1 (g := zg102) (ho := fun _ => []) [.bool false] hw (.inr rfl) (wr []))))
          · intro c hw
            rw [c]
            refine st_g rfl (g_faddr_p rfl (st_g rfl (g_load_p rfl rfl rfl (st_g rfl (g_eqi rfl rfl hw (fun hw => st_pick_f rfl rfl rfl (st_mv rfl (st_g rfl (st_mv rfl (st_pick_t rfl rfl rfl (st_mv rfl (g_split rfl hw ?_ ?_))))))) (fun hw => st_pick_f rfl rfl rfl (st_mv rfl (st_gft rfl (st_pick_f rfl rfl rfl (st_mv rfl (st_gft rfl (st_gft rfl (st_pick_f rfl rfl rfl (st_mv rfl (g_endq [(2, .bool false)] rfl ?_)))))))))))))))
            · intro c hw
              rw [c]
              refine st_g rfl (st_mv rfl (st_g rfl (gb_eqi rfl rfl hw fun v10 hw => st_pick_t rfl rfl rfl (st_mv rfl (g_endq [(2, .bool v10)] rfl ?_)))))
              exact sc_ret (bl_r (sq_r (gr1 (g := zg102) (ho := fun _ => []) [.bool v10] hw (.inr rfl) (wr []))))
            · intro c hw
              rw [c]
              refine st_gft rfl (st_gft rfl (st_pick_f rfl rfl rfl (st_mv rfl (g_endq [(2, .bool false)] rfl ?_))))
              exact sc_ret (bl_r (sq_r (gr1 (g := zg102) (ho := fun _ => []) [.bool false] hw (.inr rfl) (wr []))))
            · exact sc_ret (bl_r (sq_r (gr1 (g := zg102) (ho := fun _ => []) [.bool false] hw (.inr rfl) (wr []))))
        · refine s_cond_f rfl (q_reg (g_eqi rfl rfl hw (fun hw => st_mv rfl (g_endq [(3, .bool v2), (4, .bool v3), (5, ii (p1.Args.length : Int)), (16, ii p1.Kind), (50, .bool true)] rfl ?_)) (fun hw => st_mv rfl (g_endq [(3, .bool v2), (4, .bool v3), (5, ii (p1.Args.length : Int)), (16, ii p1.Kind), (50, .bool false)] rfl ?_))))
          · refine s_cond_t rfl (q_reg (st_mv rfl (st_mv rfl (g_split rfl hw ?_ ?_))))
            · intro c hw
              rw [c]
              refine st_g rfl (st_mv rfl (st_g rfl (gb_eqi rfl rfl hw fun v11 hw => st_pick_t rfl rfl rfl (st_mv rfl (g_endq [(2, .bool v11)] rfl ?_)))))
              exact sc_ret (bl_r (sq_r (gr1 (g := zg102) (ho := fun _ => []) [.bool v11] hw (.inr rfl) (wr []))))
            · intro c hw
              rw [c]
              refine st_gft rfl (st_gft rfl (st_pick_f rfl rfl rfl (st_mv rfl (g_endq [(2, .bool false)] rfl ?_))))
              exact sc_ret (bl_r (sq_r (gr1 (g := zg102) (ho := fun _ => []) [.bool false] hw (.inr rfl) (wr []))))
          · refine s_cond_f rfl (q_reg (g_eqi rfl rfl hw (fun hw => st_mv rfl (g_endq [(3, .bool v2), (4, .bool v3), (5, ii (p1.Args.length : Int)), (16, ii p1.Kind), (57, .bool true)] rfl ?_)) (fun hw => st_mv rfl (g_endq [(3, .bool v2), (4, .bool v3), (5, ii (p1.Args.length : Int)), (16, ii p1.Kind), (57, .bool false)] rfl ?_))))
            · refine s_cond_t rfl (q_reg (st_mv rfl (st_mv rfl (g_split rfl hw ?_ ?_))))
              · intro c hw
                rw [c]
                refine st_g rfl (st_mv rfl (st_g rfl (st_not rfl (st_pick_t rfl rfl rfl (st_mv rfl (g_endq [(2, .bool (!v3))] rfl ?_))))))
                exact sc_ret (bl_r (sq_r (gr1 (g := zg102) (ho := fun _ => []) [.bool (!v3)] hw (.inr rfl) (wr []))))
              · intro c hw
                rw [c]
                refine st_gft rfl (st_gft rfl (st_pick_f rfl rfl rfl (st_mv rfl (g_endq [(2, .bool false)] rfl ?_))))
                exact sc_ret (bl_r (sq_r (gr1 (g := zg102) (ho := fun _ => []) [.bool false] hw (.inr rfl) (wr []))))
            · refine s_cond_f rfl (q_reg (g_eqi rfl rfl hw (fun hw => st_mv rfl (g_endq [(3, .bool v2), (4, .bool v3), (5, ii (p1.Args.length : Int)), (16, ii p1.Kind), (64, .bool true)] rfl ?_)) (fun hw => st_mv rfl (g_endq [(3, .bool v2), (4, .bool v3), (5, ii (p1.Args.length : Int)), (16, ii p1.Kind), (64, .bool false)] rfl ?_))))
              · refine s_cond_t rfl (q_reg (st_mv rfl (g_endq [(2, .bool true)] rfl ?_)))
                exact sc_ret (bl_r (sq_r (gr1 (g := zg102) (ho := fun _ => []) [.bool true] hw (.inr rfl) (wr []))))
              · refine s_cond_f rfl (q_reg (g_eqi rfl rfl hw (fun hw => st_mv rfl (g_endq [(3, .bool v2), (4, .bool v3), (5, ii (p1.Args.length : Int)), (66, .bool true)] rfl ?_)) (fun hw => st_mv rfl (g_endq [(3, .bool v2), (4, .bool v3), (5, ii (p1.Args.length : Int)), (66, .bool false)] rfl ?_))))
                · refine s_cond_t rfl (q_reg (st_mv rfl (st_mv rfl (g_split rfl hw ?_ ?_))))
                  · intro c hw
                    rw [c]
                    refine st_g rfl (st_mv rfl (st_pick_t rfl rfl rfl (st_mv rfl (g_split rfl hw ?_ ?_))))
                    · intro c hw
                      rw [c]
                      refine st_g rfl (st_mv rfl (st_g rfl (gb_cmp rfl rfl trivial rfl hw fun v12 hw => st_pick_t rfl rfl rfl (st_mv rfl (g_endq [(2, .bool v12)] rfl ?_)))))
                      exact sc_ret (bl_r (sq_r (gr1 (g := zg102) (ho := fun _ => []) [.bool v12] hw (.inr rfl) (wr []))))
                    · intro c hw
                      rw [c]
                      refine st_gft rfl (st_gft rfl (st_pick_f rfl rfl rfl (st_mv rfl (g_endq [(2, .bool false)] rfl ?_))))
                      exact sc_ret (bl_r (sq_r (gr1 (g := zg102) (ho := fun _ => []) [.bool false] hw (.inr rfl) (wr []))))
                  · intro c hw
                    rw [c]
                    refine st_gft rfl (st_pick_f rfl rfl rfl (st_mv rfl (st_gft rfl (st_gft rfl (st_pick_f rfl rfl rfl (st_mv rfl (g_endq [(2, .bool false)] rfl ?_)))))))
                    exact sc_ret (bl_r (sq_r (gr1 (g := zg102) (ho := fun _ => []) [.bool false] hw (.inr rfl) (wr []))))
                · refine s_cond_f rfl (sc_skip (bl_n (sq_n (q_reg (st_mv rfl (g_endq [(2, .bool false)] rfl ?_))))))
                  exact sc_ret (gr1 (g := zg102) (ho := fun _ => []) [.bool false] hw (.inr rfl) (wr []))
    · clear hk
      refine q_reg (g_eqi rfl rfl hw (fun hw => st_mv rfl (g_endq [(1, .ptr 0 0), (3, .bool v2), (4, .bool v3), (5, ii (p1.Args.length : Int)), (16, ii p1.Kind), (27, .bool true)] rfl ?_)) (fun hw => st_mv rfl (g_endq [(1, .ptr 0 0), (3, .bool v2), (4, .bool v3), (5, ii (p1.Args.length : Int)), (16, ii p1.Kind), (27, .bool false)] rfl ?_)))
      · exact s_cond_t rfl (sc_skip (jo_n true hw ws))
      · refine s_cond_f rfl (s_reg (gb_eqi rfl rfl hw fun v7 hw => st_mv rfl (g_end [(1, .ptr 0 0), (3, .bool v2), (4, .bool v3), (5, ii (p1.Args.length : Int)), (16, ii p1.Kind), (27, .bool v7)] rfl ?_)))
        exact jo_n v7 hw ws
def hc43 : C := (.seq (.reg [oo 6 (.mv (.c (.bool false)))] [0, 1, 2]) (.seq (.seq (.reg [mo 10 0, oo 11 (.len false 10), mo 12 1, oo 13 (.len false 12), oo 14 (.eqv true .int 11 13)] [0, 1, 2, 14]) (.cond 14 (.seq (.reg [oo 6 (.mv (.c (.bool false)))] [6]) .ret) .skip)) (.seq (.seq (.reg [mo 15 0, oo 16 (.len false 15), oo 17 (.mv (.c (.int .i64 0)))] [1, 2, 15, 16, 17]) (.block 0 (.loop (.seq (.reg [oo 18 (.bin .lss 17 16)] [1, 2, 15, 16, 17, 18]) (.seq (.cond 18 .skip (.exit 0)) (.seq (.block 1 (.seq (.reg [mo 19 17, oo 20 (.iaddr 4 15 17), oo 21 (.load (some 4) 20), oo 8 (.alloc none [(.int .i64 0), (.int .i64 0), (.str []), (.list [] .full)]), mo 7 19, os (.store 4 8 21)] [1, 2, 7, 8, 15, 16, 17]) (.seq (.reg [mo 22 1, mo 23 7, oo 24 (.iaddr 4 22 23), oo 25 (.load (some 4) 24), oo 9 (.alloc none [(.int .i64 0), (.int .i64 0), (.str []), (.list [] .full)]), os (.store 4 9 25)] [1, 2, 8, 9, 15, 16, 17]) (.seq (.reg [mo 26 2, oo 27 (.load (some 4) 8), oo 28 (.load (some 4) 9), co 29 (.callv 26 [27, 28]), oo 30 (.un .not 29)] [1, 2, 15, 16, 17, 30]) (.cond 30 (.seq (.reg [oo 6 (.mv (.c (.bool false)))] [6]) .ret) .skip))))) (.reg [oo 31 (.bin .add 17 (.c (.int .i64 1))), mo 17 31] [1, 2, 15, 16, 17]))))))) (.seq (.reg [oo 6 (.mv (.c (.bool true)))] [6]) .ret))))
def ha43 : Ann := ⟨[], [38, 105, 999999], [(0, [0, 1, 2]), (1, [0, 1, 2, 14]), (2, [6]), (3, [1, 2, 15, 16, 17]), (4, [1, 2, 15, 16, 17, 18]), (5, [1, 2, 7, 8, 15, 16, 17]), (6, [1, 2, 8, 9, 15, 16, 17]), (7, [1, 2, 15, 16, 17, 30]), (8, [6]), (9, [1, 2, 15, 16, 17]), (10, [6])], []⟩
theorem hk43 : comp Try.prog ha43 Try.f43.ntmps Try.f43.code = some hc43 := by kernel_rfl
def w43_13 (p1 : List (GaValue)) (p2 : List (GaValue)) (Q : Bool → Prop) : Prop :=
  (((p1.length : Int) ≠ (p2.length : Int) → Q false) ∧ ((p1.length : Int) = (p2.length : Int) → ∃ (I9 : Int → Prop) (M10 : Int → Nat), I9 (0 : Int) ∧ ∀ (v3 : Int), I9 v3 → ∀ v11 : Bool, v11 = decide (v3 < (p1.length : Int)) → ((v11 = true → (0 ≤ v3 ∧ v3 < (p1.length : Int)) ∧ ∀ a12 : GaValue, p1[(v3 : Int).toNat]? = some a12 → (0 ≤ v3 ∧ v3 < (p2.length : Int)) ∧ ∀ a13 : GaValue, p2[(v3 : Int).toNat]? = some a13 → ∃ r14 : Bool, sp13 (GaValue.mk a12.Kind a12.Num a12.Text a12.Args) (GaValue.mk a13.Kind a13.Num a13.Text a13.Args) r14 ∧ (((!r14) = true → Q false) ∧ ((!r14) = false → (R64 (v3 + (1 : Int))) ∧ ∀ v15 : Int, v15 = v3 + (1 : Int) → (I9 v15 ∧ M10 v15 < M10 v3)))) ∧ (v11 = false → Q true))))
theorem ok43_13 (p1 : List (GaValue)) (p2 : List (GaValue)) (r : Bool) (hw : w43_13 p1 p2 fun r' => r' = r) : sp43_13 p1 p2 r := by
  refine zf (rs := [.t 6]) (g := zg43_13) Try.func43 hk43 ?_
  unfold w43_13 at hw
  show SC Try.prog Try.f43.ntmps 0 hc43 _ [(0, ln eGaValue p1), (1, ln eGaValue p2), (2, .func 13 [])] []
  unfold hc43
  refine q_reg (st_mv rfl (g_endq [(0, ln eGaValue p1), (1, ln eGaValue p2), (2, .func 13 [])] rfl ?_))
  refine sc_seq (q_reg (st_mv rfl (g_len rfl (st_mv rfl (g_len rfl (g_nei rfl rfl hw (fun hw => g_endq [(0, ln eGaValue p1), (1, ln eGaValue p2), (2, .func 13 []), (14, .bool true)] rfl ?_) (fun hw => g_endq [(0, ln eGaValue p1), (1, ln eGaValue p2), (2, .func 13 []), (14, .bool false)] rfl ?_)))))))
  · refine s_cond_t rfl (q_reg (st_mv rfl (g_endq [(6, .bool false)] rfl ?_)))
    exact sc_ret (sq_r (gr1 (g := zg43_13) (ho := fun _ => []) [.bool false] hw (.inr rfl) ws))
  · refine s_cond_f rfl (sc_skip (sq_n (sc_seq (q_reg (st_mv rfl (g_len rfl (st_mv rfl (g_endq [(1, ln eGaValue p2), (2, .func 13 []), (15, ln eGaValue p1), (16, ii (p1.length : Int)), (17, ii 0)] rfl ?_))))))))
    refine sc_block ?_
    obtain ⟨I9, M10, hi, hw⟩ := hw
    refine sc_loop (X := { x : Int // I9 x }) (fun x => ([(1, ln eGaValue p2), (2, .func 13 []), (15, ln eGaValue p1), (16, ii (p1.length : Int)), (17, ii x.1)], [])) (fun x => M10 x.1) ⟨(0 : Int), hi⟩ ws ?_
    rintro ⟨v3, hi2⟩
    have hw := hw v3 hi2
    clear hi
    refine q_reg (gb_cmp rfl rfl trivial rfl hw fun v11 hw => g_endq [(1, ln eGaValue p2), (2, .func 13 []), (15, ln eGaValue p1), (16, ii (p1.length : Int)), (17, ii v3), (18, .bool v11)] rfl ?_)
    refine sc_seq (s_cond rfl hw (fun hw => ?_) (fun hw => ?_))
    · refine sc_skip (sq_n (sc_seq (sc_block (q_reg (st_mv rfl (g_iaddrE enc_GaValue (fun a12 => [ii a12.Kind, ii a12.Num, .str a12.Text, ln eGaValue a12.Args]) cGaValue_eq rfl rfl hw fun a12 hw => st_load_r (v := .agg [ii a12.Kind, ii a12.Num, .str a12.Text, ln eGaValue a12.Args]) rfl rfl (g_alloc (n := 0) rfl rfl (st_mv rfl (g_sp (v := .agg [ii a12.Kind, ii a12.Num, .str a12.Text, ln eGaValue a12.Args]) (h' := [.cells [ii a12.Kind, ii a12.Num, .str a12.Text, ln eGaValue a12.Args]]) rfl rfl rfl (g_endq [(1, ln eGaValue p2), (2, .func 13 []), (7, ii v3), (8, .ptr 0 0), (15, ln eGaValue p1), (16, ii (p1.length : Int)), (17, ii v3)] rfl ?_))))))))))
      refine q_reg (st_mv rfl (st_mv rfl (g_iaddrE enc_GaValue (fun a13 => [ii a13.Kind, ii a13.Num, .str a13.Text, ln eGaValue a13.Args]) cGaValue_eq rfl rfl hw fun a13 hw => st_load_r (v := .agg [ii a13.Kind, ii a13.Num, .str a13.Text, ln eGaValue a13.Args]) rfl rfl (g_alloc (n := 1) rfl rfl (g_sp (v := .agg [ii a13.Kind, ii a13.Num, .str a13.Text, ln eGaValue a13.Args]) (h' := [.cells [ii a12.Kind, ii a12.Num, .str a12.Text, ln eGaValue a12.Args], .cells [ii a13.Kind, ii a13.Num, .str a13.Text, ln eGaValue a13.Args]]) rfl rfl rfl (g_endq [(1, ln eGaValue p2), (2, .func 13 []), (8, .ptr 0 0), (9, .ptr 1 0), (15, ln eGaValue p1), (16, ii (p1.length : Int)), (17, ii v3)] rfl ?_))))))
      refine q_reg (st_mv rfl (g_load_p (v := .agg [ii a12.Kind, ii a12.Num, .str a12.Text, ln eGaValue a12.Args]) rfl rfl rfl (g_load_p (v := .agg [ii a13.Kind, ii a13.Num, .str a13.Text, ln eGaValue a13.Args]) rfl rfl rfl (k_callv dh rfl (ec rfl (ec rfl en)) rfl hw fun r14 hw => st_not rfl (g_endq [(1, ln eGaValue p2), (2, .func 13 []), (15, ln eGaValue p1), (16, ii (p1.length : Int)), (17, ii v3), (30, .bool (!r14))] rfl ?_)))))
      refine s_cond rfl hw (fun hw => ?_) (fun hw => ?_)
      · refine q_reg (st_mv rfl (g_endq [(6, .bool false)] rfl ?_))
        exact sc_ret (bl_r (sq_r (lo_r (bl_r (sq_r (gr1 (g := zg43_13) (ho := fun _ => []) [.bool false] hw (.inr rfl) (wr [])))))))
      · refine sc_skip (bl_n (sq_n (s_reg (g_add rfl rfl hw fun v15 hw => st_mv rfl (g_end [(1, ln eGaValue p2), (2, .func 13 []), (15, ln eGaValue p1), (16, ii (p1.length : Int)), (17, ii v15)] rfl ?_)))))
        exact lo_n ⟨v15, hw.1⟩ hw.2 (wr [])
    · refine sc_exit (sq_x (lo_x (bl_x (sq_n (q_reg (st_mv rfl (g_endq [(6, .bool true)] rfl ?_)))))))
      exact sc_ret (gr1 (g := zg43_13) (ho := fun _ => []) [.bool true] hw (.inr rfl) ws)
end Go.Hw.VB

