import Derived.Test.YthikpbaphpdpfaaHwV1b
set_option linter.unusedVariables false
set_option linter.unusedSimpArgs false
namespace Go.Hw.VB
open Go Go.Proofs
/-- slices.EqualFunc[[]roadstead/api.Value,[]roadstead/api.Value,roadstead/api.Value,roadstead/api.Value] -/
def hc43 : C := (.seq (.reg [⟨(some 6), (.op (.mv (.c (.bool false)))), none⟩] [0, 1, 2]) (.seq (.seq (.reg [⟨(some 10), (.op (.mv (.t 0))), none⟩, ⟨(some 11), (.op (.len false (.t 10))), none⟩, ⟨(some 12), (.op (.mv (.t 1))), none⟩, ⟨(some 13), (.op (.len false (.t 12))), none⟩, ⟨(some 14), (.op (.eqv true .int (.t 11) (.t 13))), none⟩] [0, 1, 2, 14]) (.cond (.t 14) (.seq (.reg [⟨(some 6), (.op (.mv (.c (.bool false)))), none⟩] [6]) .ret) .skip)) (.seq (.seq (.reg [⟨(some 15), (.op (.mv (.t 0))), none⟩, ⟨(some 16), (.op (.len false (.t 15))), none⟩, ⟨(some 17), (.op (.mv (.c (.int .i64 0)))), none⟩] [1, 2, 15, 16, 17]) (.block 0 (.loop (.seq (.reg [⟨(some 18), (.op (.bin .lss (.t 17) (.t 16))), none⟩] [1, 2, 15, 16, 17, 18]) (.seq (.cond (.t 18) .skip (.exit 0)) (.seq (.block 1 (.seq (.reg [⟨(some 19), (.op (.mv (.t 17))), none⟩, ⟨(some 20), (.op (.iaddr 4 (.t 15) (.t 17))), none⟩, ⟨(some 21), (.op (.load (some 4) (.t 20))), none⟩, ⟨(some 8), (.op (.alloc none [(.int .i64 0), (.int .i64 0), (.str []), (.list [] .full)])), none⟩, ⟨(some 7), (.op (.mv (.t 19))), none⟩, ⟨none, (.op (.store 4 (.t 8) (.t 21))), none⟩] [1, 2, 7, 8, 15, 16, 17]) (.seq (.reg [⟨(some 22), (.op (.mv (.t 1))), none⟩, ⟨(some 23), (.op (.mv (.t 7))), none⟩, ⟨(some 24), (.op (.iaddr 4 (.t 22) (.t 23))), none⟩, ⟨(some 25), (.op (.load (some 4) (.t 24))), none⟩, ⟨(some 9), (.op (.alloc none [(.int .i64 0), (.int .i64 0), (.str []), (.list [] .full)])), none⟩, ⟨none, (.op (.store 4 (.t 9) (.t 25))), none⟩] [1, 2, 8, 9, 15, 16, 17]) (.seq (.reg [⟨(some 26), (.op (.mv (.t 2))), none⟩, ⟨(some 27), (.op (.load (some 4) (.t 8))), none⟩, ⟨(some 28), (.op (.load (some 4) (.t 9))), none⟩, ⟨(some 29), (.callv (.t 26) [(.t 27), (.t 28)]), none⟩, ⟨(some 30), (.op (.un .not (.t 29))), none⟩] [1, 2, 15, 16, 17, 30]) (.cond (.t 30) (.seq (.reg [⟨(some 6), (.op (.mv (.c (.bool false)))), none⟩] [6]) .ret) .skip))))) (.reg [⟨(some 31), (.op (.bin .add (.t 17) (.c (.int .i64 1)))), none⟩, ⟨(some 17), (.op (.mv (.t 31))), none⟩] [1, 2, 15, 16, 17]))))))) (.seq (.reg [⟨(some 6), (.op (.mv (.c (.bool true)))), none⟩] [6]) .ret))))
def ha43 : Ann := ⟨[], [38, 105, 999999], [(0, [0, 1, 2]), (1, [0, 1, 2, 14]), (2, [6]), (3, [1, 2, 15, 16, 17]), (4, [1, 2, 15, 16, 17, 18]), (5, [1, 2, 7, 8, 15, 16, 17]), (6, [1, 2, 8, 9, 15, 16, 17]), (7, [1, 2, 15, 16, 17, 30]), (8, [6]), (9, [1, 2, 15, 16, 17]), (10, [6])], []⟩
theorem hk43 : comp Try.prog ha43 Try.f43.ntmps Try.f43.code = some hc43 := by kernel_rfl
def w43_13 (p1 : List (GApi_Value)) (p2 : List (GApi_Value)) (Q : Bool → Prop) : Prop :=
  (((p1.length : Int) ≠ (p2.length : Int) → Q false) ∧ ((p1.length : Int) = (p2.length : Int) → ∃ (I9 : Int → Prop) (M10 : Int → Nat), I9 (0 : Int) ∧ ∀ (v3 : Int), I9 v3 → ∀ v11 : Bool, v11 = decide (v3 < (p1.length : Int)) → ((v11 = true → (0 ≤ v3 ∧ v3 < (p1.length : Int)) ∧ ∀ a12 : GApi_Value, p1[(v3 : Int).toNat]? = some a12 → (0 ≤ v3 ∧ v3 < (p2.length : Int)) ∧ ∀ a13 : GApi_Value, p2[(v3 : Int).toNat]? = some a13 → ∃ r14 : Bool, sp13 (GApi_Value.mk a12.Kind a12.Num a12.Text a12.Args) (GApi_Value.mk a13.Kind a13.Num a13.Text a13.Args) r14 ∧ (((!r14) = true → Q false) ∧ ((!r14) = false → (-9223372036854775808 ≤ v3 + (1 : Int) ∧ v3 + (1 : Int) ≤ 9223372036854775807) ∧ ∀ v15 : Int, v15 = v3 + (1 : Int) → (I9 v15 ∧ M10 v15 < M10 v3)))) ∧ (v11 = false → Q true))))
theorem ok43_13 (p1 : List (GApi_Value)) (p2 : List (GApi_Value)) (r : Bool) (hw : w43_13 p1 p2 fun r' => r' = r) : sp43_13 p1 p2 r := by
  refine p_func2 (rs := [.t 6]) (g := fun r : Bool => .bool r) Try.func43 rfl (by decide) (by kernel_rfl) (Nat.le_of_ble_eq_true rfl) hk43 (pvc (pv_lst enc_GApi_Value _ _ (by simp)) (pvc (pv_lst enc_GApi_Value _ _ (by simp)) (pvc (.func _ _ pvn) pvn))) (.bool _) rfl ?_
  unfold w43_13 at hw
  show SC Try.prog Try.f43.ntmps 0 hc43 _ [(0, .list (List.map eGApi_Value p1) .none), (1, .list (List.map eGApi_Value p2) .none), (2, .func 13 [])] []
  unfold hc43
  refine sc_seq ?_
  refine s_reg (st_mv rfl (g_end [(0, .list (List.map eGApi_Value p1) .none), (1, .list (List.map eGApi_Value p2) .none), (2, .func 13 [])] rfl ?_))
  refine sq_n ?_
  refine sc_seq ?_
  refine sc_seq ?_
  refine s_reg (st_mv rfl (g_len rfl (st_mv rfl (g_len rfl (g_nei rfl rfl hw (fun hw => g_end [(0, .list (List.map eGApi_Value p1) .none), (1, .list (List.map eGApi_Value p2) .none), (2, .func 13 []), (14, .bool true)] rfl ?_) (fun hw => g_end [(0, .list (List.map eGApi_Value p1) .none), (1, .list (List.map eGApi_Value p2) .none), (2, .func 13 []), (14, .bool false)] rfl ?_))))))
  · refine sq_n ?_
    refine s_cond_t rfl ?_
    refine sc_seq ?_
    refine s_reg (st_mv rfl (g_end [(6, .bool false)] rfl ?_))
    refine sq_n ?_
    refine sc_ret ?_
    refine sq_r ?_
    exact g_hret3 (g := fun r : Bool => .bool r) (ho := fun r : Bool => []) (vs := [.bool false]) (ws := [.bool false]) hw (.inr rfl) rfl [(0, .bool false)] [(0, .bool false)] rfl rfl rfl (WeakF.of (Weak.sub (sub_cons rfl (.inl rfl) sub_nil))) rfl
  · refine sq_n ?_
    refine s_cond_f rfl ?_
    refine sc_skip ?_
    refine sq_n ?_
    refine sc_seq ?_
    refine sc_seq ?_
    refine s_reg (st_mv rfl (g_len rfl (st_mv rfl (g_end [(1, .list (List.map eGApi_Value p2) .none), (2, .func 13 []), (15, .list (List.map eGApi_Value p1) .none), (16, .int .i64 (p1.length : Int)), (17, .int .i64 (0 : Int))] rfl ?_))))
    refine sq_n ?_
    refine sc_block ?_
    obtain ⟨I9, M10, hi, hw⟩ := hw
    refine sc_loop (X := { x : Int // I9 x }) (fun x => ([(1, .list (List.map eGApi_Value p2) .none), (2, .func 13 []), (15, .list (List.map eGApi_Value p1) .none), (16, .int .i64 (p1.length : Int)), (17, .int .i64 x.1)], [])) (fun x => M10 x.1) ⟨(0 : Int), hi⟩ (WeakF.of (Weak.sub (sub_cons rfl (.inl rfl) (sub_cons rfl (.inl rfl) (sub_cons rfl (.inl rfl) (sub_cons rfl (.inl rfl) (sub_cons rfl (.inl rfl) sub_nil))))))) ?_
    rintro ⟨v3, hi2⟩
    have hw := hw v3 hi2
    clear hi
    refine sc_seq ?_
    refine s_reg (gb_cmp rfl rfl trivial rfl hw fun v11 hw => g_end [(1, .list (List.map eGApi_Value p2) .none), (2, .func 13 []), (15, .list (List.map eGApi_Value p1) .none), (16, .int .i64 (p1.length : Int)), (17, .int .i64 v3), (18, .bool v11)] rfl ?_)
    refine sq_n ?_
    refine sc_seq ?_
    refine s_cond rfl hw (fun hw => ?_) (fun hw => ?_)
    · refine sc_skip ?_
      refine sq_n ?_
      refine sc_seq ?_
      refine sc_block ?_
      refine sc_seq ?_
      refine s_reg (st_mv rfl (g_iaddrE enc_GApi_Value (fun a12 => [.int .i64 a12.Kind, .int .i64 a12.Num, .str a12.Text, .list (List.map eGApi_Value a12.Args) .none]) cGApi_Value_eq rfl rfl hw fun a12 hw => st_load_r (v := .agg [.int .i64 a12.Kind, .int .i64 a12.Num, .str a12.Text, .list (List.map eGApi_Value a12.Args) .none]) rfl rfl (g_alloc (n := 0) rfl rfl (st_mv rfl (g_store_p (v := .agg [.int .i64 a12.Kind, .int .i64 a12.Num, .str a12.Text, .list (List.map eGApi_Value a12.Args) .none]) (h' := [.cells [.int .i64 a12.Kind, .int .i64 a12.Num, .str a12.Text, .list (List.map eGApi_Value a12.Args) .none]]) rfl rfl rfl ⟨rfl, Nat.le_of_ble_eq_true rfl, rfl⟩ rfl (g_end [(1, .list (List.map eGApi_Value p2) .none), (2, .func 13 []), (7, .int .i64 v3), (8, .ptr 0 0), (15, .list (List.map eGApi_Value p1) .none), (16, .int .i64 (p1.length : Int)), (17, .int .i64 v3)] rfl ?_))))))
      refine sq_n ?_
      refine sc_seq ?_
      refine s_reg (st_mv rfl (st_mv rfl (g_iaddrE enc_GApi_Value (fun a13 => [.int .i64 a13.Kind, .int .i64 a13.Num, .str a13.Text, .list (List.map eGApi_Value a13.Args) .none]) cGApi_Value_eq rfl rfl hw fun a13 hw => st_load_r (v := .agg [.int .i64 a13.Kind, .int .i64 a13.Num, .str a13.Text, .list (List.map eGApi_Value a13.Args) .none]) rfl rfl (g_alloc (n := 1) rfl rfl (g_store_p (v := .agg [.int .i64 a13.Kind, .int .i64 a13.Num, .str a13.Text, .list (List.map eGApi_Value a13.Args) .none]) (h' := [.cells [.int .i64 a12.Kind, .int .i64 a12.Num, .str a12.Text, .list (List.map eGApi_Value a12.Args) .none], .cells [.int .i64 a13.Kind, .int .i64 a13.Num, .str a13.Text, .list (List.map eGApi_Value a13.Args) .none]]) rfl rfl rfl ⟨rfl, Nat.le_of_ble_eq_true rfl, rfl⟩ rfl (g_end [(1, .list (List.map eGApi_Value p2) .none), (2, .func 13 []), (8, .ptr 0 0), (9, .ptr 1 0), (15, .list (List.map eGApi_Value p1) .none), (16, .int .i64 (p1.length : Int)), (17, .int .i64 v3)] rfl ?_))))))
      refine sq_n ?_
      refine sc_seq ?_
      refine s_reg (st_mv rfl (g_load_p (v := .agg [.int .i64 a12.Kind, .int .i64 a12.Num, .str a12.Text, .list (List.map eGApi_Value a12.Args) .none]) rfl rfl rfl (g_load_p (v := .agg [.int .i64 a13.Kind, .int .i64 a13.Num, .str a13.Text, .list (List.map eGApi_Value a13.Args) .none]) rfl rfl rfl (k_callv dh rfl (ev_cons rfl (ev_cons rfl ev_nil)) rfl hw fun r14 hw => st_not rfl (g_end [(1, .list (List.map eGApi_Value p2) .none), (2, .func 13 []), (15, .list (List.map eGApi_Value p1) .none), (16, .int .i64 (p1.length : Int)), (17, .int .i64 v3), (30, .bool (!r14))] rfl ?_)))))
      refine sq_n ?_
      refine s_cond rfl hw (fun hw => ?_) (fun hw => ?_)
      · refine sc_seq ?_
        refine s_reg (st_mv rfl (g_end [(6, .bool false)] rfl ?_))
        refine sq_n ?_
        refine sc_ret ?_
        refine bl_r ?_
        refine sq_r ?_
        refine lo_r ?_
        refine bl_r ?_
        refine sq_r ?_
        exact g_hret3 (g := fun r : Bool => .bool r) (ho := fun r : Bool => []) (vs := [.bool false]) (ws := [.bool false]) hw (.inr rfl) rfl [(0, .bool false)] [(0, .bool false)] rfl rfl rfl (weak_ren [] (by simp) (by decide) ro_nil (re_cons rfl (.pv _ (.bool _)) re_nil)) rfl
      · refine sc_skip ?_
        refine bl_n ?_
        refine sq_n ?_
        refine s_reg (g_add rfl rfl hw fun v15 hw => st_mv rfl (g_end [(1, .list (List.map eGApi_Value p2) .none), (2, .func 13 []), (15, .list (List.map eGApi_Value p1) .none), (16, .int .i64 (p1.length : Int)), (17, .int .i64 v15)] rfl ?_))
        exact lo_n ⟨v15, hw.1⟩ hw.2 (weak_ren [] (by simp) (by decide) ro_nil (re_cons rfl (.pv _ (pv_lst enc_GApi_Value _ _ (by simp))) (re_cons rfl (.pv _ (.func _ _ pvn)) (re_cons rfl (.pv _ (pv_lst enc_GApi_Value _ _ (by simp))) (re_cons rfl (.pv _ (.int _ _)) (re_cons rfl (.pv _ (.int _ _)) re_nil))))))
    · refine sc_exit ?_
      refine sq_x ?_
      refine lo_x ?_
      refine bl_x ?_
      refine sq_n ?_
      refine sc_seq ?_
      refine s_reg (st_mv rfl (g_end [(6, .bool true)] rfl ?_))
      refine sq_n ?_
      refine sc_ret ?_
      exact g_hret3 (g := fun r : Bool => .bool r) (ho := fun r : Bool => []) (vs := [.bool true]) (ws := [.bool true]) hw (.inr rfl) rfl [(0, .bool true)] [(0, .bool true)] rfl rfl rfl (WeakF.of (Weak.sub (sub_cons rfl (.inl rfl) sub_nil))) rfl
end Go.Hw.VB
