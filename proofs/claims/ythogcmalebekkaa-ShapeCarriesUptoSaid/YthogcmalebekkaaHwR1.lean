import Derived.Test.YthogcmalebekkaaHwR1b
set_option linter.unusedVariables false
set_option linter.unusedSimpArgs false
namespace Go.Hw.VR
open Go Go.Proofs
def hc47 : C := (.seq (.reg [oo 6 (.mv (.c (.bool false)))] [0, 1, 2]) (.seq (.seq (.reg [mo 10 0, oo 11 (.len false 10), mo 12 1, oo 13 (.len false 12), oo 14 (.eqv true .int 11 13)] [0, 1, 2, 14]) (.cond 14 (.seq (.reg [oo 6 (.mv (.c (.bool false)))] [6]) .ret) .skip)) (.seq (.seq (.reg [mo 15 0, oo 16 (.len false 15), oo 17 (.mv (.c (.int .i64 0)))] [1, 2, 15, 16, 17]) (.block 0 (.loop (.seq (.reg [oo 18 (.bin .lss 17 16)] [1, 2, 15, 16, 17, 18]) (.seq (.cond 18 .skip (.exit 0)) (.seq (.block 1 (.seq (.reg [mo 19 17, oo 20 (.iaddr 5 15 17), oo 21 (.load (some 5) 20), oo 8 (.alloc none [(.int .i64 0), (.str []), (.list [] .full), (.list [] .full), (.list [] .full)]), mo 7 19, os (.store 5 8 21)] [1, 2, 7, 8, 15, 16, 17]) (.seq (.reg [mo 22 1, mo 23 7, oo 24 (.iaddr 4 22 23), oo 25 (.load (some 4) 24), oo 9 (.alloc none [(.int .i64 0), (.int .i64 0), (.str []), (.list [] .full)]), os (.store 4 9 25)] [1, 2, 8, 9, 15, 16, 17]) (.seq (.reg [mo 26 2, oo 27 (.load (some 5) 8), oo 28 (.load (some 4) 9), co 29 (.callv 26 [27, 28]), oo 30 (.un .not 29)] [1, 2, 15, 16, 17, 30]) (.cond 30 (.seq (.reg [oo 6 (.mv (.c (.bool false)))] [6]) .ret) .skip))))) (.reg [oo 31 (.bin .add 17 (.c (.int .i64 1))), mo 17 31] [1, 2, 15, 16, 17]))))))) (.seq (.reg [oo 6 (.mv (.c (.bool true)))] [6]) .ret))))
def ha47 : Ann := ⟨[], [16, 48, 54, 57, 59, 66, 68, 71, 77, 78, 80, 83, 999999], [(0, [0, 1, 2]), (1, [0, 1, 2, 14]), (2, [6]), (3, [1, 2, 15, 16, 17]), (4, [1, 2, 15, 16, 17, 18]), (5, [1, 2, 7, 8, 15, 16, 17]), (6, [1, 2, 8, 9, 15, 16, 17]), (7, [1, 2, 15, 16, 17, 30]), (8, [6]), (9, [1, 2, 15, 16, 17]), (10, [6])], []⟩
theorem hk47 : comp Try.prog ha47 Try.f47.ntmps Try.f47.code = some hc47 := by kernel_rfl
def w47_48 (p1 : List (GShape_bound)) (p2 : List (GaValue)) (p3 : GaProgram) (Q : Bool × GaProgram → Prop) : Prop :=
  (((p1.length : Int) ≠ (p2.length : Int) → Q (false, (GaProgram.mk p3.Name p3.Version p3.Uses p3.Datas p3.Traits p3.Impls p3.Funcs p3.Actors))) ∧ ((p1.length : Int) = (p2.length : Int) → ∃ (I18 : (List UInt8) → Int → (List GaUse) → (List GaData) → (List GaTrait) → (List GaImpl) → (List GaFunc) → (List GaActor) → Int → Prop) (M19 : (List UInt8) → Int → (List GaUse) → (List GaData) → (List GaTrait) → (List GaImpl) → (List GaFunc) → (List GaActor) → Int → Nat), I18 p3.Name p3.Version p3.Uses p3.Datas p3.Traits p3.Impls p3.Funcs p3.Actors (0 : Int) ∧ ∀ (v4 : List UInt8) (v5 : Int) (v6 : List GaUse) (v7 : List GaData) (v8 : List GaTrait) (v9 : List GaImpl) (v10 : List GaFunc) (v11 : List GaActor) (v12 : Int), I18 v4 v5 v6 v7 v8 v9 v10 v11 v12 → ∀ v20 : Bool, v20 = decide (v12 < (p1.length : Int)) → ((v20 = true → (0 ≤ v12 ∧ v12 < (p1.length : Int)) ∧ ∀ a21 : GShape_bound, p1[(v12 : Int).toNat]? = some a21 → (0 ≤ v12 ∧ v12 < (p2.length : Int)) ∧ ∀ a22 : GaValue, p2[(v12 : Int).toNat]? = some a22 → ∃ r23 : Bool × GaProgram, sp48 (GShape_bound.mk (GaType.mk a21.t.Kind a21.t.Name a21.t.Args) a21.names a21.args) (GaValue.mk a22.Kind a22.Num a22.Text a22.Args) (GaProgram.mk v4 v5 v6 v7 v8 v9 v10 v11) r23 ∧ (((!r23.1) = true → Q (false, (GaProgram.mk r23.2.Name r23.2.Version r23.2.Uses r23.2.Datas r23.2.Traits r23.2.Impls r23.2.Funcs r23.2.Actors))) ∧ ((!r23.1) = false → (R64 (v12 + (1 : Int))) ∧ ∀ v24 : Int, v24 = v12 + (1 : Int) → (I18 r23.2.Name r23.2.Version r23.2.Uses r23.2.Datas r23.2.Traits r23.2.Impls r23.2.Funcs r23.2.Actors v24 ∧ M19 r23.2.Name r23.2.Version r23.2.Uses r23.2.Datas r23.2.Traits r23.2.Impls r23.2.Funcs r23.2.Actors v24 < M19 v4 v5 v6 v7 v8 v9 v10 v11 v12)))) ∧ (v20 = false → Q (true, (GaProgram.mk v4 v5 v6 v7 v8 v9 v10 v11))))))
theorem ok47_48 (p1 : List (GShape_bound)) (p2 : List (GaValue)) (p3 : GaProgram) (r : Bool × GaProgram) (hw : w47_48 p1 p2 p3 fun r' => r' = r) : sp47_48 p1 p2 p3 r := by
  refine zh (rs := [.t 6]) Try.func47 hk47 ?_
  unfold w47_48 at hw
  show SC Try.prog Try.f47.ntmps 1 hc47 _ [(0, ln eGShape_bound p1), (1, ln eGaValue p2), (2, .func 48 [.ptr 0 0])] [.cells [.str p3.Name, ii p3.Version, ln eGaUse p3.Uses, ln eGaData p3.Datas, ln eGaTrait p3.Traits, ln eGaImpl p3.Impls, ln eGaFunc p3.Funcs, ln eGaActor p3.Actors]]
  unfold hc47
  refine q_reg (st_mv rfl (g_endq [(0, ln eGShape_bound p1), (1, ln eGaValue p2), (2, .func 48 [.ptr 0 0])] rfl ?_))
  refine sc_seq (q_reg (st_mv rfl (g_len rfl (st_mv rfl (g_len rfl (g_nei rfl rfl hw (fun hw => g_endq [(0, ln eGShape_bound p1), (1, ln eGaValue p2), (2, .func 48 [.ptr 0 0]), (14, .bool true)] rfl ?_) (fun hw => g_endq [(0, ln eGShape_bound p1), (1, ln eGaValue p2), (2, .func 48 [.ptr 0 0]), (14, .bool false)] rfl ?_)))))))
  · refine s_cond_t rfl (q_reg (st_mv rfl (g_endq [(6, .bool false)] rfl ?_)))
    exact sc_ret (sq_r (gr1 (g := zg47_48) (ho := zo47_48) [.bool false] hw (.inr rfl) ws))
  · refine s_cond_f rfl (sc_skip (sq_n (sc_seq (q_reg (st_mv rfl (g_len rfl (st_mv rfl (g_endq [(1, ln eGaValue p2), (2, .func 48 [.ptr 0 0]), (15, ln eGShape_bound p1), (16, ii (p1.length : Int)), (17, ii 0)] rfl ?_))))))))
    refine sc_block ?_
    obtain ⟨I18, M19, hi, hw⟩ := hw
    refine sc_loop (X := { x : List UInt8 × Int × List GaUse × List GaData × List GaTrait × List GaImpl × List GaFunc × List GaActor × Int // I18 x.1 x.2.1 x.2.2.1 x.2.2.2.1 x.2.2.2.2.1 x.2.2.2.2.2.1 x.2.2.2.2.2.2.1 x.2.2.2.2.2.2.2.1 x.2.2.2.2.2.2.2.2 }) (fun x => ([(1, ln eGaValue p2), (2, .func 48 [.ptr 0 0]), (15, ln eGShape_bound p1), (16, ii (p1.length : Int)), (17, ii x.1.2.2.2.2.2.2.2.2)], [.cells [.str x.1.1, ii x.1.2.1, ln eGaUse x.1.2.2.1, ln eGaData x.1.2.2.2.1, ln eGaTrait x.1.2.2.2.2.1, ln eGaImpl x.1.2.2.2.2.2.1, ln eGaFunc x.1.2.2.2.2.2.2.1, ln eGaActor x.1.2.2.2.2.2.2.2.1]])) (fun x => M19 x.1.1 x.1.2.1 x.1.2.2.1 x.1.2.2.2.1 x.1.2.2.2.2.1 x.1.2.2.2.2.2.1 x.1.2.2.2.2.2.2.1 x.1.2.2.2.2.2.2.2.1 x.1.2.2.2.2.2.2.2.2) ⟨(p3.Name, p3.Version, p3.Uses, p3.Datas, p3.Traits, p3.Impls, p3.Funcs, p3.Actors, (0 : Int)), hi⟩ ws ?_
    rintro ⟨⟨v4, v5, v6, v7, v8, v9, v10, v11, v12⟩, hi2⟩
    have hw := hw v4 v5 v6 v7 v8 v9 v10 v11 v12 hi2
    clear hi
    refine q_reg (gb_cmp rfl rfl trivial rfl hw fun v20 hw => g_endq [(1, ln eGaValue p2), (2, .func 48 [.ptr 0 0]), (15, ln eGShape_bound p1), (16, ii (p1.length : Int)), (17, ii v12), (18, .bool v20)] rfl ?_)
    refine sc_seq (s_cond rfl hw (fun hw => ?_) (fun hw => ?_))
    · refine sc_skip (sq_n (sc_seq (sc_block (q_reg (st_mv rfl (g_iaddrE enc_GShape_bound (fun a21 => [ii a21.t.Kind, .str a21.t.Name, ln eGaType a21.t.Args, ln eStr a21.names, ln eGShape_bound a21.args]) cGShape_bound_eq rfl rfl hw fun a21 hw => st_load_r (v := .agg [ii a21.t.Kind, .str a21.t.Name, ln eGaType a21.t.Args, ln eStr a21.names, ln eGShape_bound a21.args]) rfl rfl (g_alloc (n := 1) rfl rfl (st_mv rfl (g_sp (v := .agg [ii a21.t.Kind, .str a21.t.Name, ln eGaType a21.t.Args, ln eStr a21.names, ln eGShape_bound a21.args]) (h' := [.cells [.str v4, ii v5, ln eGaUse v6, ln eGaData v7, ln eGaTrait v8, ln eGaImpl v9, ln eGaFunc v10, ln eGaActor v11], .cells [ii a21.t.Kind, .str a21.t.Name, ln eGaType a21.t.Args, ln eStr a21.names, ln eGShape_bound a21.args]]) rfl rfl rfl (g_endq [(1, ln eGaValue p2), (2, .func 48 [.ptr 0 0]), (7, ii v12), (8, .ptr 1 0), (15, ln eGShape_bound p1), (16, ii (p1.length : Int)), (17, ii v12)] rfl ?_))))))))))
      refine q_reg (st_mv rfl (st_mv rfl (g_iaddrE enc_GaValue (fun a22 => [ii a22.Kind, ii a22.Num, .str a22.Text, ln eGaValue a22.Args]) cGaValue_eq rfl rfl hw fun a22 hw => st_load_r (v := .agg [ii a22.Kind, ii a22.Num, .str a22.Text, ln eGaValue a22.Args]) rfl rfl (g_alloc (n := 2) rfl rfl (g_sp (v := .agg [ii a22.Kind, ii a22.Num, .str a22.Text, ln eGaValue a22.Args]) (h' := [.cells [.str v4, ii v5, ln eGaUse v6, ln eGaData v7, ln eGaTrait v8, ln eGaImpl v9, ln eGaFunc v10, ln eGaActor v11], .cells [ii a21.t.Kind, .str a21.t.Name, ln eGaType a21.t.Args, ln eStr a21.names, ln eGShape_bound a21.args], .cells [ii a22.Kind, ii a22.Num, .str a22.Text, ln eGaValue a22.Args]]) rfl rfl rfl (g_endq [(1, ln eGaValue p2), (2, .func 48 [.ptr 0 0]), (8, .ptr 1 0), (9, .ptr 2 0), (15, ln eGShape_bound p1), (16, ii (p1.length : Int)), (17, ii v12)] rfl ?_))))))
      refine q_reg (st_mv rfl (g_load_p (v := .agg [ii a21.t.Kind, .str a21.t.Name, ln eGaType a21.t.Args, ln eStr a21.names, ln eGShape_bound a21.args]) rfl rfl rfl (g_load_p (v := .agg [ii a22.Kind, ii a22.Num, .str a22.Text, ln eGaValue a22.Args]) rfl rfl rfl (khv hh rfl (g2 := fun r23 : Bool × GaProgram => .bool r23.1) (H2 := fun r23 : Bool × GaProgram => [.cells [.str r23.2.Name, ii r23.2.Version, ln eGaUse r23.2.Uses, ln eGaData r23.2.Datas, ln eGaTrait r23.2.Traits, ln eGaImpl r23.2.Impls, ln eGaFunc r23.2.Funcs, ln eGaActor r23.2.Actors], .cells [ii a21.t.Kind, .str a21.t.Name, ln eGaType a21.t.Args, ln eStr a21.names, ln eGShape_bound a21.args], .cells [ii a22.Kind, ii a22.Num, .str a22.Text, ln eGaValue a22.Args]]) [0] [0] 3 0 (ec rfl (ec rfl en)) hw fun r23 hw => st_not rfl (g_endq [(1, ln eGaValue p2), (2, .func 48 [.ptr 0 0]), (15, ln eGShape_bound p1), (16, ii (p1.length : Int)), (17, ii v12), (30, .bool (!r23.1))] rfl ?_)))))
      refine s_cond rfl hw (fun hw => ?_) (fun hw => ?_)
      · refine q_reg (st_mv rfl (g_endq [(6, .bool false)] rfl ?_))
        exact sc_ret (bl_r (sq_r (lo_r (bl_r (sq_r (gr1 (g := zg47_48) (ho := zo47_48) [.bool false] hw (.inr rfl) (wrm 1 [0])))))))
      · refine sc_skip (bl_n (sq_n (s_reg (g_add rfl rfl hw fun v24 hw => st_mv rfl (g_end [(1, ln eGaValue p2), (2, .func 48 [.ptr 0 0]), (15, ln eGShape_bound p1), (16, ii (p1.length : Int)), (17, ii v24)] rfl ?_)))))
        exact lo_n ⟨(r23.2.Name, r23.2.Version, r23.2.Uses, r23.2.Datas, r23.2.Traits, r23.2.Impls, r23.2.Funcs, r23.2.Actors, v24), hw.1⟩ hw.2 (weak_renm 1 rfl [0] (by decide) (by decide) (ro_cells rfl (rl_cons (.pv _ (.str _)) rfl (rl_cons (.pv _ (.int _ _)) rfl (rl_cons (.pv _ (pv_lst enc_GaUse _ _ (by simp))) rfl (rl_cons (.pv _ (pv_lst enc_GaData _ _ (by simp))) rfl (rl_cons (.pv _ (pv_lst enc_GaTrait _ _ (by simp))) rfl (rl_cons (.pv _ (pv_lst enc_GaImpl _ _ (by simp))) rfl (rl_cons (.pv _ (pv_lst enc_GaFunc _ _ (by simp))) rfl (rl_cons (.pv _ (pv_lst enc_GaActor _ _ (by simp))) rfl rl_nil)))))))) ro_nil) (re_cons rfl (.pv _ (pv_lst enc_GaValue _ _ (by simp))) (re_cons rfl (Ren.fn (rf_cons (.ptr _ _ _ rfl) rf_nil)) (re_cons rfl (.pv _ (pv_lst enc_GShape_bound _ _ (by simp))) (re_cons rfl (.pv _ (.int _ _)) (re_cons rfl (.pv _ (.int _ _)) re_nil))))))
    · refine sc_exit (sq_x (lo_x (bl_x (sq_n (q_reg (st_mv rfl (g_endq [(6, .bool true)] rfl ?_)))))))
      exact sc_ret (gr1 (g := zg47_48) (ho := zo47_48) [.bool true] hw (.inr rfl) ws)
def hc65 : C := (.seq (.reg [oo 4 (.mv (.c (.int .i64 0)))] [0, 1]) (.seq (.seq (.reg [mo 6 0, oo 7 (.len false 6), oo 8 (.mv (.c (.int .i64 0)))] [0, 1, 7, 8]) (.block 0 (.loop (.seq (.reg [oo 9 (.bin .lss 8 7)] [0, 1, 7, 8, 9]) (.seq (.cond 9 .skip (.exit 0)) (.seq (.block 1 (.seq (.reg [mo 10 8, mo 5 10] [0, 1, 5, 7, 8]) (.seq (.reg [mo 11 1, mo 12 0, mo 13 5, oo 14 (.iaddr 2 12 13), oo 15 (.load (some 2) 14), co 16 (.callv 11 [15])] [0, 1, 5, 7, 8, 16]) (.cond 16 (.seq (.reg [mo 17 5, mo 4 17] [4]) .ret) .skip)))) (.reg [oo 18 (.bin .add 8 (.c (.int .i64 1))), mo 8 18] [0, 1, 7, 8]))))))) (.seq (.reg [oo 4 (.mv (.c (.int .i64 (-1))))] [4]) .ret)))
def ha65 : Ann := ⟨[], [16, 48, 54, 57, 59, 66, 68, 71, 77, 78, 80, 83, 999999], [(0, [0, 1]), (1, [0, 1, 7, 8]), (2, [0, 1, 7, 8, 9]), (3, [0, 1, 5, 7, 8]), (4, [0, 1, 5, 7, 8, 16]), (5, [4]), (6, [0, 1, 7, 8]), (7, [4])], []⟩
theorem hk65 : comp Try.prog ha65 Try.f65.ntmps Try.f65.code = some hc65 := by kernel_rfl
def w65_66 (p1 : List (GaMake)) (p2 : List UInt8) (Q : Int × List UInt8 → Prop) : Prop :=
  ∃ (I9 : (List UInt8) → Int → Prop) (M10 : (List UInt8) → Int → Nat), I9 p2 (0 : Int) ∧ ∀ (v3 : List UInt8) (v4 : Int), I9 v3 v4 → ∀ v11 : Bool, v11 = decide (v4 < (p1.length : Int)) → ((v11 = true → (0 ≤ v4 ∧ v4 < (p1.length : Int)) ∧ ∀ a12 : GaMake, p1[(v4 : Int).toNat]? = some a12 → ∃ r13 : Bool × List UInt8, sp66 a12 v3 r13 ∧ ((r13.1 = true → Q (v4, r13.2)) ∧ (r13.1 = false → (R64 (v4 + (1 : Int))) ∧ ∀ v14 : Int, v14 = v4 + (1 : Int) → (I9 r13.2 v14 ∧ M10 r13.2 v14 < M10 v3 v4)))) ∧ (v11 = false → Q ((-1 : Int), v3)))
theorem ok65_66 (p1 : List (GaMake)) (p2 : List UInt8) (r : Int × List UInt8) (hw : w65_66 p1 p2 fun r' => r' = r) : sp65_66 p1 p2 r := by
  refine zh (rs := [.t 4]) Try.func65 hk65 ?_
  unfold w65_66 at hw
  show SC Try.prog Try.f65.ntmps 1 hc65 _ [(0, ln eGaMake p1), (1, .func 66 [.ptr 0 0])] [.cells [.str p2]]
  unfold hc65
  refine q_reg (st_mv rfl (g_endq [(0, ln eGaMake p1), (1, .func 66 [.ptr 0 0])] rfl ?_))
  refine sc_seq (q_reg (st_mv rfl (g_len rfl (st_mv rfl (g_endq [(0, ln eGaMake p1), (1, .func 66 [.ptr 0 0]), (7, ii (p1.length : Int)), (8, ii 0)] rfl ?_)))))
  refine sc_block ?_
  obtain ⟨I9, M10, hi, hw⟩ := hw
  refine sc_loop (X := { x : List UInt8 × Int // I9 x.1 x.2 }) (fun x => ([(0, ln eGaMake p1), (1, .func 66 [.ptr 0 0]), (7, ii (p1.length : Int)), (8, ii x.1.2)], [.cells [.str x.1.1]])) (fun x => M10 x.1.1 x.1.2) ⟨(p2, (0 : Int)), hi⟩ ws ?_
  rintro ⟨⟨v3, v4⟩, hi2⟩
  have hw := hw v3 v4 hi2
  clear hi
  refine q_reg (gb_cmp rfl rfl trivial rfl hw fun v11 hw => g_endq [(0, ln eGaMake p1), (1, .func 66 [.ptr 0 0]), (7, ii (p1.length : Int)), (8, ii v4), (9, .bool v11)] rfl ?_)
  refine sc_seq (s_cond rfl hw (fun hw => ?_) (fun hw => ?_))
  · refine sc_skip (sq_n (sc_seq (sc_block (q_reg (st_mv rfl (st_mv rfl (g_endq [(0, ln eGaMake p1), (1, .func 66 [.ptr 0 0]), (5, ii v4), (7, ii (p1.length : Int)), (8, ii v4)] rfl ?_)))))))
    refine q_reg (st_mv rfl (st_mv rfl (st_mv rfl (g_iaddr enc_GaMake rfl rfl hw fun a12 hw => st_load_r (v := eGaMake a12) rfl rfl (khv hh rfl (g2 := fun r13 : Bool × List UInt8 => .bool r13.1) (H2 := fun r13 : Bool × List UInt8 => [.cells [.str r13.2]]) [0] [0] 1 0 (ec rfl en) hw fun r13 hw => g_endq [(0, ln eGaMake p1), (1, .func 66 [.ptr 0 0]), (5, ii v4), (7, ii (p1.length : Int)), (8, ii v4), (16, .bool r13.1)] rfl ?_)))))
    refine s_cond rfl hw (fun hw => ?_) (fun hw => ?_)
    · refine q_reg (st_mv rfl (st_mv rfl (g_endq [(4, ii v4)] rfl ?_)))
      exact sc_ret (bl_r (sq_r (lo_r (bl_r (sq_r (gr1 (g := zg65_66) (ho := zo65_66) [ii v4] hw (.inr rfl) ws))))))
    · refine sc_skip (bl_n (sq_n (s_reg (g_add rfl rfl hw fun v14 hw => st_mv rfl (g_end [(0, ln eGaMake p1), (1, .func 66 [.ptr 0 0]), (7, ii (p1.length : Int)), (8, ii v14)] rfl ?_)))))
      exact lo_n ⟨(r13.2, v14), hw.1⟩ hw.2 ws
  · refine sc_exit (sq_x (lo_x (bl_x (sq_n (q_reg (st_mv rfl (g_endq [(4, ii (-1 : Int))] rfl ?_)))))))
    exact sc_ret (gr1 (g := zg65_66) (ho := zo65_66) [ii (-1 : Int)] hw (.inr rfl) ws)
def hc67 : C := (.seq (.reg [oo 4 (.mv (.c (.int .i64 0)))] [0, 1]) (.seq (.seq (.reg [mo 6 0, oo 7 (.len false 6), oo 8 (.mv (.c (.int .i64 0)))] [0, 1, 7, 8]) (.block 0 (.loop (.seq (.reg [oo 9 (.bin .lss 8 7)] [0, 1, 7, 8, 9]) (.seq (.cond 9 .skip (.exit 0)) (.seq (.block 1 (.seq (.reg [mo 10 8, mo 5 10] [0, 1, 5, 7, 8]) (.seq (.reg [mo 11 1, mo 12 0, mo 13 5, oo 14 (.iaddr 3 12 13), oo 15 (.load (some 3) 14), co 16 (.callv 11 [15])] [0, 1, 5, 7, 8, 16]) (.cond 16 (.seq (.reg [mo 17 5, mo 4 17] [4]) .ret) .skip)))) (.reg [oo 18 (.bin .add 8 (.c (.int .i64 1))), mo 8 18] [0, 1, 7, 8]))))))) (.seq (.reg [oo 4 (.mv (.c (.int .i64 (-1))))] [4]) .ret)))
def ha67 : Ann := ⟨[], [16, 48, 54, 57, 59, 66, 68, 71, 77, 78, 80, 83, 999999], [(0, [0, 1]), (1, [0, 1, 7, 8]), (2, [0, 1, 7, 8, 9]), (3, [0, 1, 5, 7, 8]), (4, [0, 1, 5, 7, 8, 16]), (5, [4]), (6, [0, 1, 7, 8]), (7, [4])], []⟩
theorem hk67 : comp Try.prog ha67 Try.f67.ntmps Try.f67.code = some hc67 := by kernel_rfl
def w67_68 (p1 : List (GaData)) (p2 : List UInt8) (Q : Int × List UInt8 → Prop) : Prop :=
  ∃ (I9 : (List UInt8) → Int → Prop) (M10 : (List UInt8) → Int → Nat), I9 p2 (0 : Int) ∧ ∀ (v3 : List UInt8) (v4 : Int), I9 v3 v4 → ∀ v11 : Bool, v11 = decide (v4 < (p1.length : Int)) → ((v11 = true → (0 ≤ v4 ∧ v4 < (p1.length : Int)) ∧ ∀ a12 : GaData, p1[(v4 : Int).toNat]? = some a12 → ∃ r13 : Bool × List UInt8, sp68 a12 v3 r13 ∧ ((r13.1 = true → Q (v4, r13.2)) ∧ (r13.1 = false → (R64 (v4 + (1 : Int))) ∧ ∀ v14 : Int, v14 = v4 + (1 : Int) → (I9 r13.2 v14 ∧ M10 r13.2 v14 < M10 v3 v4)))) ∧ (v11 = false → Q ((-1 : Int), v3)))
theorem ok67_68 (p1 : List (GaData)) (p2 : List UInt8) (r : Int × List UInt8) (hw : w67_68 p1 p2 fun r' => r' = r) : sp67_68 p1 p2 r := by
  refine zh (rs := [.t 4]) Try.func67 hk67 ?_
  unfold w67_68 at hw
  show SC Try.prog Try.f67.ntmps 1 hc67 _ [(0, ln eGaData p1), (1, .func 68 [.ptr 0 0])] [.cells [.str p2]]
  unfold hc67
  refine q_reg (st_mv rfl (g_endq [(0, ln eGaData p1), (1, .func 68 [.ptr 0 0])] rfl ?_))
  refine sc_seq (q_reg (st_mv rfl (g_len rfl (st_mv rfl (g_endq [(0, ln eGaData p1), (1, .func 68 [.ptr 0 0]), (7, ii (p1.length : Int)), (8, ii 0)] rfl ?_)))))
  refine sc_block ?_
  obtain ⟨I9, M10, hi, hw⟩ := hw
  refine sc_loop (X := { x : List UInt8 × Int // I9 x.1 x.2 }) (fun x => ([(0, ln eGaData p1), (1, .func 68 [.ptr 0 0]), (7, ii (p1.length : Int)), (8, ii x.1.2)], [.cells [.str x.1.1]])) (fun x => M10 x.1.1 x.1.2) ⟨(p2, (0 : Int)), hi⟩ ws ?_
  rintro ⟨⟨v3, v4⟩, hi2⟩
  have hw := hw v3 v4 hi2
  clear hi
  refine q_reg (gb_cmp rfl rfl trivial rfl hw fun v11 hw => g_endq [(0, ln eGaData p1), (1, .func 68 [.ptr 0 0]), (7, ii (p1.length : Int)), (8, ii v4), (9, .bool v11)] rfl ?_)
  refine sc_seq (s_cond rfl hw (fun hw => ?_) (fun hw => ?_))
  · refine sc_skip (sq_n (sc_seq (sc_block (q_reg (st_mv rfl (st_mv rfl (g_endq [(0, ln eGaData p1), (1, .func 68 [.ptr 0 0]), (5, ii v4), (7, ii (p1.length : Int)), (8, ii v4)] rfl ?_)))))))
    refine q_reg (st_mv rfl (st_mv rfl (st_mv rfl (g_iaddr enc_GaData rfl rfl hw fun a12 hw => st_load_r (v := eGaData a12) rfl rfl (khv hh rfl (g2 := fun r13 : Bool × List UInt8 => .bool r13.1) (H2 := fun r13 : Bool × List UInt8 => [.cells [.str r13.2]]) [0] [0] 1 0 (ec rfl en) hw fun r13 hw => g_endq [(0, ln eGaData p1), (1, .func 68 [.ptr 0 0]), (5, ii v4), (7, ii (p1.length : Int)), (8, ii v4), (16, .bool r13.1)] rfl ?_)))))
    refine s_cond rfl hw (fun hw => ?_) (fun hw => ?_)
    · refine q_reg (st_mv rfl (st_mv rfl (g_endq [(4, ii v4)] rfl ?_)))
      exact sc_ret (bl_r (sq_r (lo_r (bl_r (sq_r (gr1 (g := zg67_68) (ho := zo67_68) [ii v4] hw (.inr rfl) ws))))))
    · refine sc_skip (bl_n (sq_n (s_reg (g_add rfl rfl hw fun v14 hw => st_mv rfl (g_end [(0, ln eGaData p1), (1, .func 68 [.ptr 0 0]), (7, ii (p1.length : Int)), (8, ii v14)] rfl ?_)))))
      exact lo_n ⟨(r13.2, v14), hw.1⟩ hw.2 ws
  · refine sc_exit (sq_x (lo_x (bl_x (sq_n (q_reg (st_mv rfl (g_endq [(4, ii (-1 : Int))] rfl ?_)))))))
    exact sc_ret (gr1 (g := zg67_68) (ho := zo67_68) [ii (-1 : Int)] hw (.inr rfl) ws)
end Go.Hw.VR

