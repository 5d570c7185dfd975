import Derived.Test.YthikpbaphpdpfaaHwM1c
set_option linter.unusedVariables false
set_option linter.unusedSimpArgs false
namespace Go.Hw.VB
open Go Go.Proofs
def hc92 : C := (.seq (.reg [oo 2 (.mv (.c (.int .i64 0)))] [0]) (.seq (.seq (.reg [oo 6 (.mv (.t 0)), oo 7 (.len false (.t 6)), oo 8 (.mv (.c (.int .i64 0)))] [6, 7, 8]) (.block 0 (.loop (.seq (.reg [oo 9 (.bin .lss (.t 8) (.t 7))] [6, 7, 8, 9]) (.seq (.cond (.t 9) .skip (.exit 0)) (.seq (.block 1 (.seq (.reg [oo 10 (.iaddr 4 (.t 6) (.t 8)), oo 11 (.load (some 4) (.t 10)), oo 4 (.alloc none [(.int .i64 0), (.int .i64 0), (.str []), (.list [] .full)]), os (.store 4 (.t 4) (.t 11))] [4, 6, 7, 8]) (.seq (.reg [oo 12 (.load (some 4) (.t 4)), co 13 (.call 40 [(.t 12)]), oo 5 (.mv (.t 13))] [5, 6, 7, 8]) (.seq (.reg [oo 14 (.mv (.t 5)), oo 15 (.eqv true .int (.t 14) (.c (.int .i64 0)))] [5, 6, 7, 8, 15]) (.cond (.t 15) (.seq (.reg [oo 16 (.mv (.t 5)), oo 2 (.mv (.t 16))] [2]) .ret) .skip))))) (.reg [oo 17 (.bin .add (.t 8) (.c (.int .i64 1))), oo 8 (.mv (.t 17))] [6, 7, 8]))))))) (.seq (.reg [oo 2 (.mv (.c (.int .i64 0)))] [2]) .ret)))
def ha92 : Ann := ⟨[], [], [(0, [0]), (1, [6, 7, 8]), (2, [6, 7, 8, 9]), (3, [4, 6, 7, 8]), (4, [5, 6, 7, 8]), (5, [5, 6, 7, 8, 15]), (6, [2]), (7, [6, 7, 8]), (8, [2])], []⟩
theorem hk92 : comp Try.prog ha92 Try.f92.ntmps Try.f92.code = some hc92 := by kernel_rfl
def w92 (p1 : List (GApi_Value)) (Q : Int → Prop) : Prop :=
  ∃ (I7 : Int → Prop) (M8 : Int → Nat), I7 (0 : Int) ∧ ∀ (v2 : Int), I7 v2 → ∀ v9 : Bool, v9 = decide (v2 < (p1.length : Int)) → ((v9 = true → (0 ≤ v2 ∧ v2 < (p1.length : Int)) ∧ ∀ a10 : GApi_Value, p1[(v2 : Int).toNat]? = some a10 → ∃ r11 : Int, sp40 (GApi_Value.mk a10.Kind a10.Num a10.Text a10.Args) r11 ∧ ((r11 ≠ (0 : Int) → Q r11) ∧ (r11 = (0 : Int) → (-9223372036854775808 ≤ v2 + (1 : Int) ∧ v2 + (1 : Int) ≤ 9223372036854775807) ∧ ∀ v12 : Int, v12 = v2 + (1 : Int) → (I7 v12 ∧ M8 v12 < M8 v2)))) ∧ (v9 = false → Q (0 : Int)))
theorem ok92 (p1 : List (GApi_Value)) (r : Int) (hw : w92 p1 fun r' => r' = r) : sp92 p1 r := by
  refine p_func2 (rs := [.t 2]) (g := fun r : Int => .int .i64 r) Try.func92 rfl (by decide) (by kernel_rfl) (Nat.le_of_ble_eq_true rfl) hk92 (pvc (pv_lst enc_GApi_Value _ _ (by simp)) pvn) (.int _ _) rfl ?_
  unfold w92 at hw
  show SC Try.prog Try.f92.ntmps 0 hc92 _ [(0, .list (List.map eGApi_Value p1) .none)] []
  unfold hc92
  refine q_reg (st_mv rfl (g_endq [(0, .list (List.map eGApi_Value p1) .none)] rfl ?_))
  refine sc_seq ?_
  refine q_reg (st_mv rfl (g_len rfl (st_mv rfl (g_endq [(6, .list (List.map eGApi_Value p1) .none), (7, .int .i64 (p1.length : Int)), (8, .int .i64 (0 : Int))] rfl ?_))))
  refine sc_block ?_
  obtain ⟨I7, M8, hi, hw⟩ := hw
  refine sc_loop (X := { x : Int // I7 x }) (fun x => ([(6, .list (List.map eGApi_Value p1) .none), (7, .int .i64 (p1.length : Int)), (8, .int .i64 x.1)], [])) (fun x => M8 x.1) ⟨(0 : Int), hi⟩ (WeakF.of (Weak.sub (sub_cons rfl (.inl rfl) (sub_cons rfl (.inl rfl) (sub_cons rfl (.inl rfl) sub_nil))))) ?_
  rintro ⟨v2, hi2⟩
  have hw := hw v2 hi2
  clear hi
  refine q_reg (gb_cmp rfl rfl trivial rfl hw fun v9 hw => g_endq [(6, .list (List.map eGApi_Value p1) .none), (7, .int .i64 (p1.length : Int)), (8, .int .i64 v2), (9, .bool v9)] rfl ?_)
  refine sc_seq ?_
  refine s_cond rfl hw (fun hw => ?_) (fun hw => ?_)
  · refine sc_skip ?_
    refine sq_n ?_
    refine sc_seq ?_
    refine sc_block ?_
    refine q_reg (g_iaddrE enc_GApi_Value (fun a10 => [.int .i64 a10.Kind, .int .i64 a10.Num, .str a10.Text, .list (List.map eGApi_Value a10.Args) .none]) cGApi_Value_eq rfl rfl hw fun a10 hw => st_load_r (v := .agg [.int .i64 a10.Kind, .int .i64 a10.Num, .str a10.Text, .list (List.map eGApi_Value a10.Args) .none]) rfl rfl (g_alloc (n := 0) rfl rfl (g_store_p (v := .agg [.int .i64 a10.Kind, .int .i64 a10.Num, .str a10.Text, .list (List.map eGApi_Value a10.Args) .none]) (h' := [.cells [.int .i64 a10.Kind, .int .i64 a10.Num, .str a10.Text, .list (List.map eGApi_Value a10.Args) .none]]) rfl rfl rfl ⟨rfl, Nat.le_of_ble_eq_true rfl, rfl⟩ rfl (g_endq [(4, .ptr 0 0), (6, .list (List.map eGApi_Value p1) .none), (7, .int .i64 (p1.length : Int)), (8, .int .i64 v2)] rfl ?_))))
    refine q_reg (g_load_p (v := .agg [.int .i64 a10.Kind, .int .i64 a10.Num, .str a10.Text, .list (List.map eGApi_Value a10.Args) .none]) rfl rfl rfl (k_call dh (ev_cons rfl ev_nil) rfl hw fun r11 hw => st_mv rfl (g_endq [(5, .int .i64 r11), (6, .list (List.map eGApi_Value p1) .none), (7, .int .i64 (p1.length : Int)), (8, .int .i64 v2)] rfl ?_)))
    refine q_reg (st_mv rfl (g_nei rfl rfl hw (fun hw => g_endq [(5, .int .i64 r11), (6, .list (List.map eGApi_Value p1) .none), (7, .int .i64 (p1.length : Int)), (8, .int .i64 v2), (15, .bool true)] rfl ?_) (fun hw => g_endq [(5, .int .i64 r11), (6, .list (List.map eGApi_Value p1) .none), (7, .int .i64 (p1.length : Int)), (8, .int .i64 v2), (15, .bool false)] rfl ?_)))
    · refine s_cond_t rfl ?_
      refine q_reg (st_mv rfl (st_mv rfl (g_endq [(2, .int .i64 r11)] rfl ?_)))
      refine sc_ret ?_
      refine bl_r ?_
      refine sq_r ?_
      refine lo_r ?_
      refine bl_r ?_
      refine sq_r ?_
      exact g_hret3 (g := fun r : Int => .int .i64 r) (ho := fun r : Int => []) (vs := [.int .i64 r11]) (ws := [.int .i64 r11]) hw (.inr rfl) rfl [(0, .int .i64 r11)] [(0, .int .i64 r11)] rfl rfl rfl (weak_ren [] (by simp) (by decide) ro_nil (re_cons rfl (.pv _ (.int _ _)) re_nil)) rfl
    · refine s_cond_f rfl ?_
      refine sc_skip ?_
      refine bl_n ?_
      refine sq_n ?_
      refine s_reg (g_add rfl rfl hw fun v12 hw => st_mv rfl (g_end [(6, .list (List.map eGApi_Value p1) .none), (7, .int .i64 (p1.length : Int)), (8, .int .i64 v12)] rfl ?_))
      exact lo_n ⟨v12, hw.1⟩ hw.2 (weak_ren [] (by simp) (by decide) ro_nil (re_cons rfl (.pv _ (pv_lst enc_GApi_Value _ _ (by simp))) (re_cons rfl (.pv _ (.int _ _)) (re_cons rfl (.pv _ (.int _ _)) re_nil))))
  · refine sc_exit ?_
    refine sq_x ?_
    refine lo_x ?_
    refine bl_x ?_
    refine sq_n ?_
    refine q_reg (st_mv rfl (g_endq [(2, .int .i64 (0 : Int))] rfl ?_))
    refine sc_ret ?_
    exact g_hret3 (g := fun r : Int => .int .i64 r) (ho := fun r : Int => []) (vs := [.int .i64 (0 : Int)]) (ws := [.int .i64 (0 : Int)]) hw (.inr rfl) rfl [(0, .int .i64 (0 : Int))] [(0, .int .i64 (0 : Int))] rfl rfl rfl (WeakF.of (Weak.sub (sub_cons rfl (.inl rfl) sub_nil))) rfl
def hc62 : C := (.seq (.reg [oo 6 (.mv (.c (.bool false)))] [0, 1, 2]) (.seq (.seq (.reg [oo 10 (.mv (.t 0)), oo 11 (.len false (.t 10)), oo 12 (.mv (.t 1)), oo 13 (.len false (.t 12)), oo 14 (.eqv true .int (.t 11) (.t 13))] [0, 1, 2, 14]) (.cond (.t 14) (.seq (.reg [oo 6 (.mv (.c (.bool false)))] [6]) .ret) .skip)) (.seq (.seq (.reg [oo 15 (.mv (.t 0)), oo 16 (.len false (.t 15)), oo 17 (.mv (.c (.int .i64 0)))] [1, 2, 15, 16, 17]) (.block 0 (.loop (.seq (.reg [oo 18 (.bin .lss (.t 17) (.t 16))] [1, 2, 15, 16, 17, 18]) (.seq (.cond (.t 18) .skip (.exit 0)) (.seq (.block 1 (.seq (.reg [oo 19 (.mv (.t 17)), oo 20 (.iaddr 9 (.t 15) (.t 17)), oo 21 (.load (some 9) (.t 20)), oo 8 (.alloc none [(.int .i64 0), (.int .i64 0), (.int .i64 0), (.int .i64 0), (.str []), (.int .i64 0), (.int .i64 0), (.str []), (.list [] .full)]), oo 7 (.mv (.t 19)), os (.store 9 (.t 8) (.t 21))] [1, 2, 7, 8, 15, 16, 17]) (.seq (.reg [oo 22 (.mv (.t 1)), oo 23 (.mv (.t 7)), oo 24 (.iaddr 9 (.t 22) (.t 23)), oo 25 (.load (some 9) (.t 24)), oo 9 (.alloc none [(.int .i64 0), (.int .i64 0), (.int .i64 0), (.int .i64 0), (.str []), (.int .i64 0), (.int .i64 0), (.str []), (.list [] .full)]), os (.store 9 (.t 9) (.t 25))] [1, 2, 8, 9, 15, 16, 17]) (.seq (.reg [oo 26 (.mv (.t 2)), oo 27 (.load (some 9) (.t 8)), oo 28 (.load (some 9) (.t 9)), co 29 (.callv (.t 26) [(.t 27), (.t 28)]), oo 30 (.un .not (.t 29))] [1, 2, 15, 16, 17, 30]) (.cond (.t 30) (.seq (.reg [oo 6 (.mv (.c (.bool false)))] [6]) .ret) .skip))))) (.reg [oo 31 (.bin .add (.t 17) (.c (.int .i64 1))), oo 17 (.mv (.t 31))] [1, 2, 15, 16, 17]))))))) (.seq (.reg [oo 6 (.mv (.c (.bool true)))] [6]) .ret))))
def ha62 : Ann := ⟨[], [38, 105, 999999], [(0, [0, 1, 2]), (1, [0, 1, 2, 14]), (2, [6]), (3, [1, 2, 15, 16, 17]), (4, [1, 2, 15, 16, 17, 18]), (5, [1, 2, 7, 8, 15, 16, 17]), (6, [1, 2, 8, 9, 15, 16, 17]), (7, [1, 2, 15, 16, 17, 30]), (8, [6]), (9, [1, 2, 15, 16, 17]), (10, [6])], []⟩
theorem hk62 : comp Try.prog ha62 Try.f62.ntmps Try.f62.code = some hc62 := by kernel_rfl
def w62_25 (p1 : List (GApi_Letter)) (p2 : List (GApi_Letter)) (Q : Bool → Prop) : Prop :=
  (((p1.length : Int) ≠ (p2.length : Int) → Q false) ∧ ((p1.length : Int) = (p2.length : Int) → ∃ (I9 : Int → Prop) (M10 : Int → Nat), I9 (0 : Int) ∧ ∀ (v3 : Int), I9 v3 → ∀ v11 : Bool, v11 = decide (v3 < (p1.length : Int)) → ((v11 = true → (0 ≤ v3 ∧ v3 < (p1.length : Int)) ∧ ∀ a12 : GApi_Letter, p1[(v3 : Int).toNat]? = some a12 → (0 ≤ v3 ∧ v3 < (p2.length : Int)) ∧ ∀ a13 : GApi_Letter, p2[(v3 : Int).toNat]? = some a13 → ∃ r14 : Bool, sp25 (GApi_Letter.mk a12.Kind a12.From a12.To a12.Num a12.Text (GApi_Value.mk a12.Value.Kind a12.Value.Num a12.Value.Text a12.Value.Args)) (GApi_Letter.mk a13.Kind a13.From a13.To a13.Num a13.Text (GApi_Value.mk a13.Value.Kind a13.Value.Num a13.Value.Text a13.Value.Args)) r14 ∧ (((!r14) = true → Q false) ∧ ((!r14) = false → (-9223372036854775808 ≤ v3 + (1 : Int) ∧ v3 + (1 : Int) ≤ 9223372036854775807) ∧ ∀ v15 : Int, v15 = v3 + (1 : Int) → (I9 v15 ∧ M10 v15 < M10 v3)))) ∧ (v11 = false → Q true))))
theorem ok62_25 (p1 : List (GApi_Letter)) (p2 : List (GApi_Letter)) (r : Bool) (hw : w62_25 p1 p2 fun r' => r' = r) : sp62_25 p1 p2 r := by
  refine p_func2 (rs := [.t 6]) (g := fun r : Bool => .bool r) Try.func62 rfl (by decide) (by kernel_rfl) (Nat.le_of_ble_eq_true rfl) hk62 (pvc (pv_lst enc_GApi_Letter _ _ (by simp)) (pvc (pv_lst enc_GApi_Letter _ _ (by simp)) (pvc (.func _ _ pvn) pvn))) (.bool _) rfl ?_
  unfold w62_25 at hw
  show SC Try.prog Try.f62.ntmps 0 hc62 _ [(0, .list (List.map eGApi_Letter p1) .none), (1, .list (List.map eGApi_Letter p2) .none), (2, .func 25 [])] []
  unfold hc62
  refine q_reg (st_mv rfl (g_endq [(0, .list (List.map eGApi_Letter p1) .none), (1, .list (List.map eGApi_Letter p2) .none), (2, .func 25 [])] rfl ?_))
  refine sc_seq ?_
  refine q_reg (st_mv rfl (g_len rfl (st_mv rfl (g_len rfl (g_nei rfl rfl hw (fun hw => g_endq [(0, .list (List.map eGApi_Letter p1) .none), (1, .list (List.map eGApi_Letter p2) .none), (2, .func 25 []), (14, .bool true)] rfl ?_) (fun hw => g_endq [(0, .list (List.map eGApi_Letter p1) .none), (1, .list (List.map eGApi_Letter p2) .none), (2, .func 25 []), (14, .bool false)] rfl ?_))))))
  · refine s_cond_t rfl ?_
    refine q_reg (st_mv rfl (g_endq [(6, .bool false)] rfl ?_))
    refine sc_ret ?_
    refine sq_r ?_
    exact g_hret3 (g := fun r : Bool => .bool r) (ho := fun r : Bool => []) (vs := [.bool false]) (ws := [.bool false]) hw (.inr rfl) rfl [(0, .bool false)] [(0, .bool false)] rfl rfl rfl (WeakF.of (Weak.sub (sub_cons rfl (.inl rfl) sub_nil))) rfl
  · refine s_cond_f rfl ?_
    refine sc_skip ?_
    refine sq_n ?_
    refine sc_seq ?_
    refine q_reg (st_mv rfl (g_len rfl (st_mv rfl (g_endq [(1, .list (List.map eGApi_Letter p2) .none), (2, .func 25 []), (15, .list (List.map eGApi_Letter p1) .none), (16, .int .i64 (p1.length : Int)), (17, .int .i64 (0 : Int))] rfl ?_))))
    refine sc_block ?_
    obtain ⟨I9, M10, hi, hw⟩ := hw
    refine sc_loop (X := { x : Int // I9 x }) (fun x => ([(1, .list (List.map eGApi_Letter p2) .none), (2, .func 25 []), (15, .list (List.map eGApi_Letter p1) .none), (16, .int .i64 (p1.length : Int)), (17, .int .i64 x.1)], [])) (fun x => M10 x.1) ⟨(0 : Int), hi⟩ (WeakF.of (Weak.sub (sub_cons rfl (.inl rfl) (sub_cons rfl (.inl rfl) (sub_cons rfl (.inl rfl) (sub_cons rfl (.inl rfl) (sub_cons rfl (.inl rfl) sub_nil))))))) ?_
    rintro ⟨v3, hi2⟩
    have hw := hw v3 hi2
    clear hi
    refine q_reg (gb_cmp rfl rfl trivial rfl hw fun v11 hw => g_endq [(1, .list (List.map eGApi_Letter p2) .none), (2, .func 25 []), (15, .list (List.map eGApi_Letter p1) .none), (16, .int .i64 (p1.length : Int)), (17, .int .i64 v3), (18, .bool v11)] rfl ?_)
    refine sc_seq ?_
    refine s_cond rfl hw (fun hw => ?_) (fun hw => ?_)
    · refine sc_skip ?_
      refine sq_n ?_
      refine sc_seq ?_
      refine sc_block ?_
      refine q_reg (st_mv rfl (g_iaddr enc_GApi_Letter rfl rfl hw fun a12 hw => st_load_r (v := .agg [.int .i64 a12.Kind, .int .i64 a12.From, .int .i64 a12.To, .int .i64 a12.Num, .str a12.Text, .int .i64 a12.Value.Kind, .int .i64 a12.Value.Num, .str a12.Value.Text, .list (List.map eGApi_Value a12.Value.Args) .none]) rfl rfl (g_alloc (n := 0) rfl rfl (st_mv rfl (g_store_p (v := .agg [.int .i64 a12.Kind, .int .i64 a12.From, .int .i64 a12.To, .int .i64 a12.Num, .str a12.Text, .int .i64 a12.Value.Kind, .int .i64 a12.Value.Num, .str a12.Value.Text, .list (List.map eGApi_Value a12.Value.Args) .none]) (h' := [.cells [.int .i64 a12.Kind, .int .i64 a12.From, .int .i64 a12.To, .int .i64 a12.Num, .str a12.Text, .int .i64 a12.Value.Kind, .int .i64 a12.Value.Num, .str a12.Value.Text, .list (List.map eGApi_Value a12.Value.Args) .none]]) rfl rfl rfl ⟨rfl, Nat.le_of_ble_eq_true rfl, rfl⟩ rfl (g_endq [(1, .list (List.map eGApi_Letter p2) .none), (2, .func 25 []), (7, .int .i64 v3), (8, .ptr 0 0), (15, .list (List.map eGApi_Letter p1) .none), (16, .int .i64 (p1.length : Int)), (17, .int .i64 v3)] rfl ?_))))))
      refine q_reg (st_mv rfl (st_mv rfl (g_iaddr enc_GApi_Letter rfl rfl hw fun a13 hw => st_load_r (v := .agg [.int .i64 a13.Kind, .int .i64 a13.From, .int .i64 a13.To, .int .i64 a13.Num, .str a13.Text, .int .i64 a13.Value.Kind, .int .i64 a13.Value.Num, .str a13.Value.Text, .list (List.map eGApi_Value a13.Value.Args) .none]) rfl rfl (g_alloc (n := 1) rfl rfl (g_store_p (v := .agg [.int .i64 a13.Kind, .int .i64 a13.From, .int .i64 a13.To, .int .i64 a13.Num, .str a13.Text, .int .i64 a13.Value.Kind, .int .i64 a13.Value.Num, .str a13.Value.Text, .list (List.map eGApi_Value a13.Value.Args) .none]) (h' := [.cells [.int .i64 a12.Kind, .int .i64 a12.From, .int .i64 a12.To, .int .i64 a12.Num, .str a12.Text, .int .i64 a12.Value.Kind, .int .i64 a12.Value.Num, .str a12.Value.Text, .list (List.map eGApi_Value a12.Value.Args) .none], .cells [.int .i64 a13.Kind, .int .i64 a13.From, .int .i64 a13.To, .int .i64 a13.Num, .str a13.Text, .int .i64 a13.Value.Kind, .int .i64 a13.Value.Num, .str a13.Value.Text, .list (List.map eGApi_Value a13.Value.Args) .none]]) rfl rfl rfl ⟨rfl, Nat.le_of_ble_eq_true rfl, rfl⟩ rfl (g_endq [(1, .list (List.map eGApi_Letter p2) .none), (2, .func 25 []), (8, .ptr 0 0), (9, .ptr 1 0), (15, .list (List.map eGApi_Letter p1) .none), (16, .int .i64 (p1.length : Int)), (17, .int .i64 v3)] rfl ?_))))))
      refine q_reg (st_mv rfl (g_load_p (v := .agg [.int .i64 a12.Kind, .int .i64 a12.From, .int .i64 a12.To, .int .i64 a12.Num, .str a12.Text, .int .i64 a12.Value.Kind, .int .i64 a12.Value.Num, .str a12.Value.Text, .list (List.map eGApi_Value a12.Value.Args) .none]) rfl rfl rfl (g_load_p (v := .agg [.int .i64 a13.Kind, .int .i64 a13.From, .int .i64 a13.To, .int .i64 a13.Num, .str a13.Text, .int .i64 a13.Value.Kind, .int .i64 a13.Value.Num, .str a13.Value.Text, .list (List.map eGApi_Value a13.Value.Args) .none]) rfl rfl rfl (k_callv dh rfl (ev_cons rfl (ev_cons rfl ev_nil)) rfl hw fun r14 hw => st_not rfl (g_endq [(1, .list (List.map eGApi_Letter p2) .none), (2, .func 25 []), (15, .list (List.map eGApi_Letter p1) .none), (16, .int .i64 (p1.length : Int)), (17, .int .i64 v3), (30, .bool (!r14))] rfl ?_)))))
      refine s_cond rfl hw (fun hw => ?_) (fun hw => ?_)
      · refine q_reg (st_mv rfl (g_endq [(6, .bool false)] rfl ?_))
        refine sc_ret ?_
        refine bl_r ?_
        refine sq_r ?_
        refine lo_r ?_
        refine bl_r ?_
        refine sq_r ?_
        exact g_hret3 (g := fun r : Bool => .bool r) (ho := fun r : Bool => []) (vs := [.bool false]) (ws := [.bool false]) hw (.inr rfl) rfl [(0, .bool false)] [(0, .bool false)] rfl rfl rfl (weak_ren [] (by simp) (by decide) ro_nil (re_cons rfl (.pv _ (.bool _)) re_nil)) rfl
      · refine sc_skip ?_
        refine bl_n ?_
        refine sq_n ?_
        refine s_reg (g_add rfl rfl hw fun v15 hw => st_mv rfl (g_end [(1, .list (List.map eGApi_Letter p2) .none), (2, .func 25 []), (15, .list (List.map eGApi_Letter p1) .none), (16, .int .i64 (p1.length : Int)), (17, .int .i64 v15)] rfl ?_))
        exact lo_n ⟨v15, hw.1⟩ hw.2 (weak_ren [] (by simp) (by decide) ro_nil (re_cons rfl (.pv _ (pv_lst enc_GApi_Letter _ _ (by simp))) (re_cons rfl (.pv _ (.func _ _ pvn)) (re_cons rfl (.pv _ (pv_lst enc_GApi_Letter _ _ (by simp))) (re_cons rfl (.pv _ (.int _ _)) (re_cons rfl (.pv _ (.int _ _)) re_nil))))))
    · refine sc_exit ?_
      refine sq_x ?_
      refine lo_x ?_
      refine bl_x ?_
      refine sq_n ?_
      refine q_reg (st_mv rfl (g_endq [(6, .bool true)] rfl ?_))
      refine sc_ret ?_
      exact g_hret3 (g := fun r : Bool => .bool r) (ho := fun r : Bool => []) (vs := [.bool true]) (ws := [.bool true]) hw (.inr rfl) rfl [(0, .bool true)] [(0, .bool true)] rfl rfl rfl (WeakF.of (Weak.sub (sub_cons rfl (.inl rfl) sub_nil))) rfl
def hc60 : C := (.seq (.reg [oo 6 (.mv (.c (.bool false)))] [0, 1, 2]) (.seq (.seq (.reg [oo 10 (.mv (.t 0)), oo 11 (.len false (.t 10)), oo 12 (.mv (.t 1)), oo 13 (.len false (.t 12)), oo 14 (.eqv true .int (.t 11) (.t 13))] [0, 1, 2, 14]) (.cond (.t 14) (.seq (.reg [oo 6 (.mv (.c (.bool false)))] [6]) .ret) .skip)) (.seq (.seq (.reg [oo 15 (.mv (.t 0)), oo 16 (.len false (.t 15)), oo 17 (.mv (.c (.int .i64 0)))] [1, 2, 15, 16, 17]) (.block 0 (.loop (.seq (.reg [oo 18 (.bin .lss (.t 17) (.t 16))] [1, 2, 15, 16, 17, 18]) (.seq (.cond (.t 18) .skip (.exit 0)) (.seq (.block 1 (.seq (.reg [oo 19 (.mv (.t 17)), oo 20 (.iaddr 5 (.t 15) (.t 17)), oo 21 (.load (some 5) (.t 20)), oo 8 (.alloc none [(.int .i64 0), (.int .i64 0), (.int .i64 0), (.str []), (.list [] .full)]), oo 7 (.mv (.t 19)), os (.store 5 (.t 8) (.t 21))] [1, 2, 7, 8, 15, 16, 17]) (.seq (.reg [oo 22 (.mv (.t 1)), oo 23 (.mv (.t 7)), oo 24 (.iaddr 5 (.t 22) (.t 23)), oo 25 (.load (some 5) (.t 24)), oo 9 (.alloc none [(.int .i64 0), (.int .i64 0), (.int .i64 0), (.str []), (.list [] .full)]), os (.store 5 (.t 9) (.t 25))] [1, 2, 8, 9, 15, 16, 17]) (.seq (.reg [oo 26 (.mv (.t 2)), oo 27 (.load (some 5) (.t 8)), oo 28 (.load (some 5) (.t 9)), co 29 (.callv (.t 26) [(.t 27), (.t 28)]), oo 30 (.un .not (.t 29))] [1, 2, 15, 16, 17, 30]) (.cond (.t 30) (.seq (.reg [oo 6 (.mv (.c (.bool false)))] [6]) .ret) .skip))))) (.reg [oo 31 (.bin .add (.t 17) (.c (.int .i64 1))), oo 17 (.mv (.t 31))] [1, 2, 15, 16, 17]))))))) (.seq (.reg [oo 6 (.mv (.c (.bool true)))] [6]) .ret))))
def ha60 : Ann := ⟨[], [38, 105, 999999], [(0, [0, 1, 2]), (1, [0, 1, 2, 14]), (2, [6]), (3, [1, 2, 15, 16, 17]), (4, [1, 2, 15, 16, 17, 18]), (5, [1, 2, 7, 8, 15, 16, 17]), (6, [1, 2, 8, 9, 15, 16, 17]), (7, [1, 2, 15, 16, 17, 30]), (8, [6]), (9, [1, 2, 15, 16, 17]), (10, [6])], []⟩
theorem hk60 : comp Try.prog ha60 Try.f60.ntmps Try.f60.code = some hc60 := by kernel_rfl
def w60_61 (p1 : List (GApi_Input)) (p2 : List (GApi_Input)) (Q : Bool → Prop) : Prop :=
  (((p1.length : Int) ≠ (p2.length : Int) → Q false) ∧ ((p1.length : Int) = (p2.length : Int) → ∃ (I9 : Int → Prop) (M10 : Int → Nat), I9 (0 : Int) ∧ ∀ (v3 : Int), I9 v3 → ∀ v11 : Bool, v11 = decide (v3 < (p1.length : Int)) → ((v11 = true → (0 ≤ v3 ∧ v3 < (p1.length : Int)) ∧ ∀ a12 : GApi_Input, p1[(v3 : Int).toNat]? = some a12 → (0 ≤ v3 ∧ v3 < (p2.length : Int)) ∧ ∀ a13 : GApi_Input, p2[(v3 : Int).toNat]? = some a13 → ∃ r14 : Bool, sp61 (GApi_Input.mk a12.Kind (GApi_Value.mk a12.Value.Kind a12.Value.Num a12.Value.Text a12.Value.Args)) (GApi_Input.mk a13.Kind (GApi_Value.mk a13.Value.Kind a13.Value.Num a13.Value.Text a13.Value.Args)) r14 ∧ (((!r14) = true → Q false) ∧ ((!r14) = false → (-9223372036854775808 ≤ v3 + (1 : Int) ∧ v3 + (1 : Int) ≤ 9223372036854775807) ∧ ∀ v15 : Int, v15 = v3 + (1 : Int) → (I9 v15 ∧ M10 v15 < M10 v3)))) ∧ (v11 = false → Q true))))
theorem ok60_61 (p1 : List (GApi_Input)) (p2 : List (GApi_Input)) (r : Bool) (hw : w60_61 p1 p2 fun r' => r' = r) : sp60_61 p1 p2 r := by
  refine p_func2 (rs := [.t 6]) (g := fun r : Bool => .bool r) Try.func60 rfl (by decide) (by kernel_rfl) (Nat.le_of_ble_eq_true rfl) hk60 (pvc (pv_lst enc_GApi_Input _ _ (by simp)) (pvc (pv_lst enc_GApi_Input _ _ (by simp)) (pvc (.func _ _ pvn) pvn))) (.bool _) rfl ?_
  unfold w60_61 at hw
  show SC Try.prog Try.f60.ntmps 0 hc60 _ [(0, .list (List.map eGApi_Input p1) .none), (1, .list (List.map eGApi_Input p2) .none), (2, .func 61 [])] []
  unfold hc60
  refine q_reg (st_mv rfl (g_endq [(0, .list (List.map eGApi_Input p1) .none), (1, .list (List.map eGApi_Input p2) .none), (2, .func 61 [])] rfl ?_))
  refine sc_seq ?_
  refine q_reg (st_mv rfl (g_len rfl (st_mv rfl (g_len rfl (g_nei rfl rfl hw (fun hw => g_endq [(0, .list (List.map eGApi_Input p1) .none), (1, .list (List.map eGApi_Input p2) .none), (2, .func 61 []), (14, .bool true)] rfl ?_) (fun hw => g_endq [(0, .list (List.map eGApi_Input p1) .none), (1, .list (List.map eGApi_Input p2) .none), (2, .func 61 []), (14, .bool false)] rfl ?_))))))
  · refine s_cond_t rfl ?_
    refine q_reg (st_mv rfl (g_endq [(6, .bool false)] rfl ?_))
    refine sc_ret ?_
    refine sq_r ?_
    exact g_hret3 (g := fun r : Bool => .bool r) (ho := fun r : Bool => []) (vs := [.bool false]) (ws := [.bool false]) hw (.inr rfl) rfl [(0, .bool false)] [(0, .bool false)] rfl rfl rfl (WeakF.of (Weak.sub (sub_cons rfl (.inl rfl) sub_nil))) rfl
  · refine s_cond_f rfl ?_
    refine sc_skip ?_
    refine sq_n ?_
    refine sc_seq ?_
    refine q_reg (st_mv rfl (g_len rfl (st_mv rfl (g_endq [(1, .list (List.map eGApi_Input p2) .none), (2, .func 61 []), (15, .list (List.map eGApi_Input p1) .none), (16, .int .i64 (p1.length : Int)), (17, .int .i64 (0 : Int))] rfl ?_))))
    refine sc_block ?_
    obtain ⟨I9, M10, hi, hw⟩ := hw
    refine sc_loop (X := { x : Int // I9 x }) (fun x => ([(1, .list (List.map eGApi_Input p2) .none), (2, .func 61 []), (15, .list (List.map eGApi_Input p1) .none), (16, .int .i64 (p1.length : Int)), (17, .int .i64 x.1)], [])) (fun x => M10 x.1) ⟨(0 : Int), hi⟩ (WeakF.of (Weak.sub (sub_cons rfl (.inl rfl) (sub_cons rfl (.inl rfl) (sub_cons rfl (.inl rfl) (sub_cons rfl (.inl rfl) (sub_cons rfl (.inl rfl) sub_nil))))))) ?_
    rintro ⟨v3, hi2⟩
    have hw := hw v3 hi2
    clear hi
    refine q_reg (gb_cmp rfl rfl trivial rfl hw fun v11 hw => g_endq [(1, .list (List.map eGApi_Input p2) .none), (2, .func 61 []), (15, .list (List.map eGApi_Input p1) .none), (16, .int .i64 (p1.length : Int)), (17, .int .i64 v3), (18, .bool v11)] rfl ?_)
    refine sc_seq ?_
    refine s_cond rfl hw (fun hw => ?_) (fun hw => ?_)
    · refine sc_skip ?_
      refine sq_n ?_
      refine sc_seq ?_
      refine sc_block ?_
      refine q_reg (st_mv rfl (g_iaddr enc_GApi_Input rfl rfl hw fun a12 hw => st_load_r (v := .agg [.int .i64 a12.Kind, .int .i64 a12.Value.Kind, .int .i64 a12.Value.Num, .str a12.Value.Text, .list (List.map eGApi_Value a12.Value.Args) .none]) rfl rfl (g_alloc (n := 0) rfl rfl (st_mv rfl (g_store_p (v := .agg [.int .i64 a12.Kind, .int .i64 a12.Value.Kind, .int .i64 a12.Value.Num, .str a12.Value.Text, .list (List.map eGApi_Value a12.Value.Args) .none]) (h' := [.cells [.int .i64 a12.Kind, .int .i64 a12.Value.Kind, .int .i64 a12.Value.Num, .str a12.Value.Text, .list (List.map eGApi_Value a12.Value.Args) .none]]) rfl rfl rfl ⟨rfl, Nat.le_of_ble_eq_true rfl, rfl⟩ rfl (g_endq [(1, .list (List.map eGApi_Input p2) .none), (2, .func 61 []), (7, .int .i64 v3), (8, .ptr 0 0), (15, .list (List.map eGApi_Input p1) .none), (16, .int .i64 (p1.length : Int)), (17, .int .i64 v3)] rfl ?_))))))
      refine q_reg (st_mv rfl (st_mv rfl (g_iaddr enc_GApi_Input rfl rfl hw fun a13 hw => st_load_r (v := .agg [.int .i64 a13.Kind, .int .i64 a13.Value.Kind, .int .i64 a13.Value.Num, .str a13.Value.Text, .list (List.map eGApi_Value a13.Value.Args) .none]) rfl rfl (g_alloc (n := 1) rfl rfl (g_store_p (v := .agg [.int .i64 a13.Kind, .int .i64 a13.Value.Kind, .int .i64 a13.Value.Num, .str a13.Value.Text, .list (List.map eGApi_Value a13.Value.Args) .none]) (h' := [.cells [.int .i64 a12.Kind, .int .i64 a12.Value.Kind, .int .i64 a12.Value.Num, .str a12.Value.Text, .list (List.map eGApi_Value a12.Value.Args) .none], .cells [.int .i64 a13.Kind, .int .i64 a13.Value.Kind, .int .i64 a13.Value.Num, .str a13.Value.Text, .list (List.map eGApi_Value a13.Value.Args) .none]]) rfl rfl rfl ⟨rfl, Nat.le_of_ble_eq_true rfl, rfl⟩ rfl (g_endq [(1, .list (List.map eGApi_Input p2) .none), (2, .func 61 []), (8, .ptr 0 0), (9, .ptr 1 0), (15, .list (List.map eGApi_Input p1) .none), (16, .int .i64 (p1.length : Int)), (17, .int .i64 v3)] rfl ?_))))))
      refine q_reg (st_mv rfl (g_load_p (v := .agg [.int .i64 a12.Kind, .int .i64 a12.Value.Kind, .int .i64 a12.Value.Num, .str a12.Value.Text, .list (List.map eGApi_Value a12.Value.Args) .none]) rfl rfl rfl (g_load_p (v := .agg [.int .i64 a13.Kind, .int .i64 a13.Value.Kind, .int .i64 a13.Value.Num, .str a13.Value.Text, .list (List.map eGApi_Value a13.Value.Args) .none]) rfl rfl rfl (k_callv dh rfl (ev_cons rfl (ev_cons rfl ev_nil)) rfl hw fun r14 hw => st_not rfl (g_endq [(1, .list (List.map eGApi_Input p2) .none), (2, .func 61 []), (15, .list (List.map eGApi_Input p1) .none), (16, .int .i64 (p1.length : Int)), (17, .int .i64 v3), (30, .bool (!r14))] rfl ?_)))))
      refine s_cond rfl hw (fun hw => ?_) (fun hw => ?_)
      · refine q_reg (st_mv rfl (g_endq [(6, .bool false)] rfl ?_))
        refine sc_ret ?_
        refine bl_r ?_
        refine sq_r ?_
        refine lo_r ?_
        refine bl_r ?_
        refine sq_r ?_
        exact g_hret3 (g := fun r : Bool => .bool r) (ho := fun r : Bool => []) (vs := [.bool false]) (ws := [.bool false]) hw (.inr rfl) rfl [(0, .bool false)] [(0, .bool false)] rfl rfl rfl (weak_ren [] (by simp) (by decide) ro_nil (re_cons rfl (.pv _ (.bool _)) re_nil)) rfl
      · refine sc_skip ?_
        refine bl_n ?_
        refine sq_n ?_
        refine s_reg (g_add rfl rfl hw fun v15 hw => st_mv rfl (g_end [(1, .list (List.map eGApi_Input p2) .none), (2, .func 61 []), (15, .list (List.map eGApi_Input p1) .none), (16, .int .i64 (p1.length : Int)), (17, .int .i64 v15)] rfl ?_))
        exact lo_n ⟨v15, hw.1⟩ hw.2 (weak_ren [] (by simp) (by decide) ro_nil (re_cons rfl (.pv _ (pv_lst enc_GApi_Input _ _ (by simp))) (re_cons rfl (.pv _ (.func _ _ pvn)) (re_cons rfl (.pv _ (pv_lst enc_GApi_Input _ _ (by simp))) (re_cons rfl (.pv _ (.int _ _)) (re_cons rfl (.pv _ (.int _ _)) re_nil))))))
    · refine sc_exit ?_
      refine sq_x ?_
      refine lo_x ?_
      refine bl_x ?_
      refine sq_n ?_
      refine q_reg (st_mv rfl (g_endq [(6, .bool true)] rfl ?_))
      refine sc_ret ?_
      exact g_hret3 (g := fun r : Bool => .bool r) (ho := fun r : Bool => []) (vs := [.bool true]) (ws := [.bool true]) hw (.inr rfl) rfl [(0, .bool true)] [(0, .bool true)] rfl rfl rfl (WeakF.of (Weak.sub (sub_cons rfl (.inl rfl) sub_nil))) rfl
end Go.Hw.VB

