import Derived.Test.YthogcmalebekkaaHwR1a
set_option linter.unusedVariables false
set_option linter.unusedSimpArgs false
namespace Go.Hw.VR
open Go Go.Proofs
def hc26 : C := (.seq (.reg [oo 2 (.alloc none [(.int .i64 0), (.str []), (.list [] .full)])] [0, 2]) (.seq (.reg [mo 3 0, oo 4 (.build [(.int .i64 0), (.str []), (.list [] .full)] [(0, 1, 3)]), os (.store 3 2 4)] [2]) .ret))
def ha26 : Ann := ⟨[], [], [(0, [0, 2]), (1, [2])], []⟩
theorem hk26 : comp Try.prog ha26 Try.f26.ntmps Try.f26.code = some hc26 := by kernel_rfl
def w26 (p1 : Int) (Q : GaType → Prop) : Prop :=
  Q (GaType.mk p1 [] ([] : List GaType))
theorem ok26 (p1 : Int) (r : GaType) (hw : w26 p1 fun r' => r' = r) : sp26 p1 r := by
  refine zf (rs := [.c 2 (some 3)]) (g := zg26) Try.func26 hk26 ?_
  unfold w26 at hw
  show SC Try.prog Try.f26.ntmps 0 hc26 _ [(0, ii p1)] []
  unfold hc26
  refine q_reg (g_alloc (n := 0) rfl rfl (g_endq [(0, ii p1), (2, .ptr 0 0)] rfl ?_))
  refine q_reg (st_mv rfl (g_build (cs := [ii p1, .str [], nl eGaType]) (ep_cons rfl ep_nil) rfl (g_sp (v := .agg [ii p1, .str [], nl eGaType]) (h' := [.cells [ii p1, .str [], nl eGaType]]) rfl rfl rfl (g_endq [(2, .ptr 0 0)] rfl ?_))))
  exact sc_ret (gr (g := zg26) (ho := fun _ => []) [.agg [ii p1, .str [], nl eGaType]] [.agg [ii p1, .str [], ln eGaType ([] : List GaType)]] hw (.inr rfl) (wr []))
def hc27 : C := (.seq (.reg [oo 4 (.alloc none [(.int .i64 0), (.str []), (.list [] .full)])] [0, 1, 4]) (.seq (.reg [mo 5 0, mo 6 1, oo 7 (.build [(.int .i64 0), (.str []), (.list [] .full)] [(0, 1, (.c (.int .i64 6))), (1, 1, 5), (2, 1, 6)]), os (.store 3 4 7)] [4]) .ret))
def ha27 : Ann := ⟨[], [], [(0, [0, 1, 4]), (1, [4])], []⟩
theorem hk27 : comp Try.prog ha27 Try.f27.ntmps Try.f27.code = some hc27 := by kernel_rfl
def w27 (p1 : List UInt8) (p2 : List (GaType)) (Q : GaType → Prop) : Prop :=
  Q (GaType.mk (6 : Int) p1 p2)
theorem ok27 (p1 : List UInt8) (p2 : List (GaType)) (r : GaType) (hw : w27 p1 p2 fun r' => r' = r) : sp27 p1 p2 r := by
  refine zf (rs := [.c 4 (some 3)]) (g := zg27) Try.func27 hk27 ?_
  unfold w27 at hw
  show SC Try.prog Try.f27.ntmps 0 hc27 _ [(0, .str p1), (1, ln eGaType p2)] []
  unfold hc27
  refine q_reg (g_alloc (n := 0) rfl rfl (g_endq [(0, .str p1), (1, ln eGaType p2), (4, .ptr 0 0)] rfl ?_))
  refine q_reg (st_mv rfl (st_mv rfl (g_build (cs := [ii 6, .str p1, ln eGaType p2]) (ep_cons rfl (ep_cons rfl (ep_cons rfl ep_nil))) rfl (g_sp (v := .agg [ii 6, .str p1, ln eGaType p2]) (h' := [.cells [ii 6, .str p1, ln eGaType p2]]) rfl rfl rfl (g_endq [(4, .ptr 0 0)] rfl ?_)))))
  exact sc_ret (gr1 (g := zg27) (ho := fun _ => []) [.agg [ii 6, .str p1, ln eGaType p2]] hw (.inr rfl) (wr []))
def ha32 : Ann := ⟨[], [], [(0, [2, 3, 4, 6]), (1, [2, 3, 4, 6, 17]), (2, [2, 3, 4, 6, 17, 18]), (3, [2, 3, 4, 6, 17, 18]), (4, [2, 3, 4, 6, 17, 18]), (5, [2, 3, 4, 6, 17, 18]), (6, [6, 7]), (7, [2, 3, 4, 6, 17, 29]), (8, [2, 3, 4, 6, 38]), (9, [6, 7]), (10, [6, 8, 9]), (11, [6, 7]), (12, [2, 3, 4, 6, 55]), (13, [2, 3, 4, 6, 10]), (14, [2, 3, 4, 6, 65, 66, 67]), (15, [2, 3, 4, 6, 65, 66, 67, 68]), (16, [2, 3, 4, 6, 13, 65, 66, 67]), (17, [2, 3, 4, 6, 13, 14, 15, 65, 66, 67]), (18, [2, 3, 4, 6, 13, 14, 65, 66, 67, 81]), (19, [6, 7]), (20, [2, 3, 4, 6, 65, 66, 67]), (21, [6, 7])], []⟩
def hc36 : C := (.seq (.reg [oo 4 (.mv (.c (.int .i64 0)))] [0, 1]) (.seq (.seq (.reg [mo 6 0, oo 7 (.len false 6), oo 8 (.mv (.c (.int .i64 0)))] [0, 1, 7, 8]) (.block 0 (.loop (.seq (.reg [oo 9 (.bin .lss 8 7)] [0, 1, 7, 8, 9]) (.seq (.cond 9 .skip (.exit 0)) (.seq (.block 1 (.seq (.reg [mo 10 8, mo 5 10] [0, 1, 5, 7, 8]) (.seq (.reg [mo 11 1, mo 12 0, mo 13 5, oo 14 (.iaddr 1 12 13), oo 15 (.load none 14), oo 16 (.eqv false .str 11 15)] [0, 1, 5, 7, 8, 16]) (.cond 16 (.seq (.reg [mo 17 5, mo 4 17] [4]) .ret) .skip)))) (.reg [oo 18 (.bin .add 8 (.c (.int .i64 1))), mo 8 18] [0, 1, 7, 8]))))))) (.seq (.reg [oo 4 (.mv (.c (.int .i64 (-1))))] [4]) .ret)))
def ha36 : Ann := ⟨[], [], [(0, [0, 1]), (1, [0, 1, 7, 8]), (2, [0, 1, 7, 8, 9]), (3, [0, 1, 5, 7, 8]), (4, [0, 1, 5, 7, 8, 16]), (5, [4]), (6, [0, 1, 7, 8]), (7, [4])], []⟩
theorem hk36 : comp Try.prog ha36 Try.f36.ntmps Try.f36.code = some hc36 := by kernel_rfl
def w36 (p1 : List (List UInt8)) (p2 : List UInt8) (Q : Int → Prop) : Prop :=
  ∃ (I7 : Int → Prop) (M8 : Int → Nat), I7 (0 : Int) ∧ ∀ (v3 : Int), I7 v3 → ∀ v9 : Bool, v9 = decide (v3 < (p1.length : Int)) → ((v9 = true → (0 ≤ v3 ∧ v3 < (p1.length : Int)) ∧ ∀ a10 : List UInt8, p1[(v3 : Int).toNat]? = some a10 → ((p2 = a10 → Q v3) ∧ (p2 ≠ a10 → (R64 (v3 + (1 : Int))) ∧ ∀ v11 : Int, v11 = v3 + (1 : Int) → (I7 v11 ∧ M8 v11 < M8 v3)))) ∧ (v9 = false → Q (-1 : Int)))
theorem ok36 (p1 : List (List UInt8)) (p2 : List UInt8) (r : Int) (hw : w36 p1 p2 fun r' => r' = r) : sp36 p1 p2 r := by
  refine zf (rs := [.t 4]) (g := zg36) Try.func36 hk36 ?_
  unfold w36 at hw
  show SC Try.prog Try.f36.ntmps 0 hc36 _ [(0, ln eStr p1), (1, .str p2)] []
  unfold hc36
  refine q_reg (st_mv rfl (g_endq [(0, ln eStr p1), (1, .str p2)] rfl ?_))
  refine sc_seq (q_reg (st_mv rfl (g_len rfl (st_mv rfl (g_endq [(0, ln eStr p1), (1, .str p2), (7, ii (p1.length : Int)), (8, ii 0)] rfl ?_)))))
  refine sc_block ?_
  obtain ⟨I7, M8, hi, hw⟩ := hw
  refine sc_loop (X := { x : Int // I7 x }) (fun x => ([(0, ln eStr p1), (1, .str p2), (7, ii (p1.length : Int)), (8, ii x.1)], [])) (fun x => M8 x.1) ⟨(0 : Int), hi⟩ ws ?_
  rintro ⟨v3, hi2⟩
  have hw := hw v3 hi2
  clear hi
  refine q_reg (gb_cmp rfl rfl trivial rfl hw fun v9 hw => g_endq [(0, ln eStr p1), (1, .str p2), (7, ii (p1.length : Int)), (8, ii v3), (9, .bool v9)] rfl ?_)
  refine sc_seq (s_cond rfl hw (fun hw => ?_) (fun hw => ?_))
  · refine sc_skip (sq_n (sc_seq (sc_block (q_reg (st_mv rfl (st_mv rfl (g_endq [(0, ln eStr p1), (1, .str p2), (5, ii v3), (7, ii (p1.length : Int)), (8, ii v3)] rfl ?_)))))))
    refine q_reg (st_mv rfl (st_mv rfl (st_mv rfl (g_iaddr enc_str rfl rfl hw fun a10 hw => st_load_r rfl rfl (g_eqs rfl rfl hw (fun hw => g_endq [(0, ln eStr p1), (1, .str p2), (5, ii v3), (7, ii (p1.length : Int)), (8, ii v3), (16, .bool true)] rfl ?_) (fun hw => g_endq [(0, ln eStr p1), (1, .str p2), (5, ii v3), (7, ii (p1.length : Int)), (8, ii v3), (16, .bool false)] rfl ?_))))))
    · refine s_cond_t rfl (q_reg (st_mv rfl (st_mv rfl (g_endq [(4, ii v3)] rfl ?_))))
      exact sc_ret (bl_r (sq_r (lo_r (bl_r (sq_r (gr1 (g := zg36) (ho := fun _ => []) [ii v3] hw (.inr rfl) ws))))))
    · refine s_cond_f rfl (sc_skip (bl_n (sq_n (s_reg (g_add rfl rfl hw fun v11 hw => st_mv rfl (g_end [(0, ln eStr p1), (1, .str p2), (7, ii (p1.length : Int)), (8, ii v11)] rfl ?_))))))
      exact lo_n ⟨v11, hw.1⟩ hw.2 ws
  · refine sc_exit (sq_x (lo_x (bl_x (sq_n (q_reg (st_mv rfl (g_endq [(4, ii (-1 : Int))] rfl ?_)))))))
    exact sc_ret (gr1 (g := zg36) (ho := fun _ => []) [ii (-1 : Int)] hw (.inr rfl) ws)
def hc49 : C := (.seq (.reg [oo 2 (.box none 8 0), oo 3 (.box none 1 1), oo 4 (.alloc none [(.str []), (.list [] .full), (.list [] .full)]), oo 5 (.mv (.c (.bool false)))] [2, 3, 4]) (.seq (.reg [oo 7 (.faddr 3 1 2), oo 8 (.load none 7), oo 9 (.mkfunc 68 [3]), co 10 (.call 67 [8, 9]), mo 6 10] [2, 4, 6]) (.seq (.seq (.reg [mo 11 6, oo 12 (.bin .lss 11 (.c (.int .i64 0)))] [2, 4, 6, 12]) (.cond 12 (.seq (.reg [oo 13 (.build [(.str []), (.list [] .full), (.list [] .full)] []), os (.store 3 4 13), oo 5 (.mv (.c (.bool false)))] [4, 5]) .ret) .skip)) (.seq (.reg [oo 14 (.faddr 3 1 2), oo 15 (.load none 14), mo 16 6, oo 17 (.iaddr 3 15 16), oo 18 (.load (some 3) 17), os (.store 3 4 18), oo 5 (.mv (.c (.bool true)))] [4, 5]) .ret))))
def ha49 : Ann := ⟨[], [], [(0, [2, 3, 4]), (1, [2, 4, 6]), (2, [2, 4, 6, 12]), (3, [4, 5]), (4, [4, 5])], []⟩
theorem hk49 : comp Try.prog ha49 Try.f49.ntmps Try.f49.code = some hc49 := by kernel_rfl
def w49 (p1 : GaProgram) (p2 : List UInt8) (Q : GaData × Bool → Prop) : Prop :=
  ∃ r3 : Int × List UInt8, sp67_68 p1.Datas p2 r3 ∧ ((r3.1 < (0 : Int) → Q ((GaData.mk [] ([] : List (List UInt8)) ([] : List GaMake)), false)) ∧ ((0 : Int) ≤ r3.1 → (0 ≤ r3.1 ∧ r3.1 < (p1.Datas.length : Int)) ∧ ∀ a4 : GaData, p1.Datas[(r3.1 : Int).toNat]? = some a4 → Q ((GaData.mk a4.Name a4.Params a4.Makes), true)))
theorem ok49 (p1 : GaProgram) (p2 : List UInt8) (r : GaData × Bool) (hw : w49 p1 p2 fun r' => r' = r) : sp49 p1 p2 r := by
  refine zf (rs := [.c 4 (some 3), .t 5]) (g := zg49) Try.func49 hk49 ?_
  unfold w49 at hw
  show SC Try.prog Try.f49.ntmps 0 hc49 _ [(0, eGaProgram p1), (1, .str p2)] []
  unfold hc49
  refine q_reg (g_box (v := eGaProgram p1) rfl rfl rfl (n := 0) rfl rfl (g_box (v := .str p2) rfl rfl rfl (n := 1) rfl rfl (g_alloc (n := 2) rfl rfl (st_mv rfl (g_endq [(2, .ptr 0 0), (3, .ptr 1 0), (4, .ptr 2 0)] rfl ?_)))))
  refine q_reg (g_faddr_p rfl (g_load_p rfl rfl rfl (g_mkfunc (ec rfl en) rfl (kh (hargs := (ra_cons (.pv _ (pv_lst enc_GaData _ _ (by simp))) (ra_cons (Ren.fn (rf_cons (.ptr _ _ _ rfl) rf_nil)) ra_nil))) hh (g2 := fun r3 : Int × List UInt8 => ii r3.1) (H2 := fun r3 : Int × List UInt8 => [.cells (HV.cells (eGaProgram p1)), .cells [.str r3.2], .cells [.str [], nl eStr, nl eGaMake]]) [1] [1] 3 0 (ec rfl (ec rfl en)) hw fun r3 hw => st_mv rfl (g_endq [(2, .ptr 0 0), (4, .ptr 2 0), (6, ii r3.1)] rfl ?_)))))
  refine sc_seq (q_reg (st_mv rfl (g_lss rfl rfl hw (fun hw => g_endq [(2, .ptr 0 0), (4, .ptr 2 0), (6, ii r3.1), (12, .bool true)] rfl ?_) (fun hw => g_endq [(2, .ptr 0 0), (4, .ptr 2 0), (6, ii r3.1), (12, .bool false)] rfl ?_))))
  · refine s_cond_t rfl (q_reg (g_build (cs := [.str [], nl eStr, nl eGaMake]) ep_nil rfl (g_sp (v := .agg [.str [], nl eStr, nl eGaMake]) (h' := [.cells (HV.cells (eGaProgram p1)), .cells [.str r3.2], .cells [.str [], nl eStr, nl eGaMake]]) rfl rfl rfl (st_mv rfl (g_endq [(4, .ptr 2 0), (5, .bool false)] rfl ?_)))))
    exact sc_ret (sq_r (gr (g := zg49) (ho := fun _ => []) [.agg [.str [], nl eStr, nl eGaMake], .bool false] [.agg [.str [], ln eStr ([] : List (List UInt8)), ln eGaMake ([] : List GaMake)], .bool false] hw (.inr rfl) (wr [])))
  · refine s_cond_f rfl (sc_skip (sq_n (q_reg (g_faddr_p rfl (g_load_p rfl rfl rfl (st_mv rfl (g_iaddr enc_GaData rfl rfl hw fun a4 hw => st_load_r (v := eGaData a4) rfl rfl (g_sp (v := eGaData a4) (h' := [.cells (HV.cells (eGaProgram p1)), .cells [.str r3.2], .cells (HV.cells (eGaData a4))]) rfl rfl rfl (st_mv rfl (g_endq [(4, .ptr 2 0), (5, .bool true)] rfl ?_))))))))))
    exact sc_ret (gr1 (g := zg49) (ho := fun _ => []) [.agg [.str a4.Name, ln eStr a4.Params, ln eGaMake a4.Makes], .bool true] hw (.inr rfl) (wr []))
def ha66 : Ann := ⟨[], [], [(0, [1, 2]), (1, [3])], []⟩
def hc68 : C := (.seq (.reg [oo 2 (.box none 3 0), oo 3 (.mv (.c (.bool false)))] [1, 2]) (.seq (.reg [oo 4 (.faddr 0 1 2), oo 5 (.load none 4), oo 6 (.load none 1), oo 7 (.eqv false .str 5 6), mo 3 7] [3]) .ret))
def ha68 : Ann := ⟨[], [], [(0, [1, 2]), (1, [3])], []⟩
theorem hk68 : comp Try.prog ha68 Try.f68.ntmps Try.f68.code = some hc68 := by kernel_rfl
def w68 (p1 : GaData) (p2 : List UInt8) (Q : Bool × List UInt8 → Prop) : Prop :=
  ∀ v3 : Bool, v3 = (if false then !(p1.Name == p2) else (p1.Name == p2)) → Q (v3, p2)
theorem ok68 (p1 : GaData) (p2 : List UInt8) (r : Bool × List UInt8) (hw : w68 p1 p2 fun r' => r' = r) : sp68 p1 p2 r := by
  refine zh (rs := [.t 3]) Try.func68 hk68 ?_
  unfold w68 at hw
  show SC Try.prog Try.f68.ntmps 1 hc68 _ [(0, eGaData p1), (1, .ptr 0 0)] [.cells [.str p2]]
  unfold hc68
  refine q_reg (g_box (v := eGaData p1) rfl rfl rfl (n := 1) rfl rfl (st_mv rfl (g_endq [(1, .ptr 0 0), (2, .ptr 1 0)] rfl ?_)))
  refine q_reg (g_faddr_p rfl (g_load_p rfl rfl rfl (g_load_p rfl rfl rfl (gb_eqs rfl rfl hw fun v3 hw => st_mv rfl (g_endq [(3, .bool v3)] rfl ?_)))))
  exact sc_ret (gr1 (g := zg68) (ho := zo68) [.bool v3] hw (.inr rfl) (wrm 1 [0]))
end Go.Hw.VR

