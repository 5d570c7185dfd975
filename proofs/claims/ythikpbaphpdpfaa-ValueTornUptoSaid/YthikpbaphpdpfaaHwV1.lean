import Derived.Test.YthikpbaphpdpfaaHwV1a
set_option linter.unusedVariables false
set_option linter.unusedSimpArgs false
namespace Go.Hw.VB
open Go Go.Proofs
def hc52 : C := (.reg [oo 4 (.mv (.t 0)), oo 5 (.mv (.t 1)), oo 6 (.conv (.int .u64) (.t 5)), oo 7 (.bin .shl (.t 6) (.c (.int .u64 1))), oo 8 (.mv (.t 1)), oo 9 (.bin .shr (.t 8) (.c (.int .u64 63))), oo 10 (.conv (.int .u64) (.t 9)), oo 11 (.bin .xor (.t 7) (.t 10)), co 12 (.call 50 [(.t 4), (.t 11)])] [])
def ha52 : Ann := ⟨[], [50], [(0, [])], []⟩
theorem hk52 : comp Try.prog ha52 Try.f52.ntmps Try.f52.code = some hc52 := by kernel_rfl
def w52 (p1 : GValue_writer) (p2 : Int) (Q : GValue_writer → Prop) : Prop :=
  ∀ v3 : Int, v3 = IntKind.wrap .u64 p2 → (ibinOk .shl (1 : Int)) ∧ ∀ v4 : Int, v4 = iop .shl .u64 v3 (1 : Int) → (ibinOk .shr (63 : Int)) ∧ ∀ v5 : Int, v5 = iop .shr .i64 p2 (63 : Int) → ∀ v6 : Int, v6 = IntKind.wrap .u64 v5 → (ibinOk .xor v6) ∧ ∀ v7 : Int, v7 = iop .xor .u64 v4 v6 → ∃ r8 : GValue_writer, sp50 (GValue_writer.mk p1.f_b) v7 r8 ∧ Q (GValue_writer.mk r8.f_b)
theorem ok52 (p1 : GValue_writer) (p2 : Int) (r : GValue_writer) (hw : w52 p1 p2 fun r' => r' = r) : sp52 p1 p2 r := by
  refine p_hfunc2 (rs := []) Try.func52 rfl (by decide) (by kernel_rfl) (Nat.le_of_ble_eq_true rfl) hk52 ?_
  unfold w52 at hw
  show SC Try.prog Try.f52.ntmps 2 hc52 _ [(0, .ptr 0 0), (1, .int .i64 p2)] [.cells [.list (bytesOf p1.f_b) (.own 1 1 1)], .tok (1 + p1.f_b.length)]
  unfold hc52
  refine s_reg (st_mv rfl (st_mv rfl (g_conv rfl hw fun v3 hw => g_bin rfl rfl (.inr (.inl rfl)) ⟨_, rfl⟩ hw fun v4 hw => st_mv rfl (g_bin rfl rfl (.inr (.inr rfl)) ⟨_, rfl⟩ hw fun v5 hw => g_conv rfl hw fun v6 hw => g_bin rfl rfl (.inl rfl) ⟨_, rfl⟩ hw fun v7 hw => k_hcall hh (g2 := fun r8 : GValue_writer => .tuple []) (H2 := fun r8 : GValue_writer => [.cells [.list (bytesOf r8.f_b) (.own 1 1 1)], .tok (1 + r8.f_b.length)]) [0, 1] [0, 1] 2 0 (ev_cons rfl (ev_cons rfl ev_nil)) rfl hw rfl rfl (by decide) (by decide) (ro_cells rfl (rl_cons (.own _ _ _ _ _ rfl (pv_flat enc_byte _)) rfl rl_nil) (ro_tok rfl ro_nil)) (by simp) (ra_cons (.ptr _ _ _ rfl) (ra_cons (.pv _ (.int _ _)) ra_nil)) (fun _ => rfl) (fun _ => rfl) (fun _ => (.pv _ (.tuple _ pvn))) (fun _ => (so_skip (by decide) (so_skip (by decide) so_nil))) (fun _ => (ou_cells rfl (rl_cons (.own _ _ _ _ _ rfl (pv_flat enc_byte _)) rfl rl_nil) (ou_tok rfl ou_nil))) fun r8 hw => g_end [] rfl ?_))))
  exact g_hret3 (g := fun r : GValue_writer => .tuple []) (ho := fun r : GValue_writer => [.cells [.list (bytesOf r.f_b) (.own 1 1 1)], .tok (1 + r.f_b.length)]) (vs := []) (ws := []) hw (.inl rfl) rfl [] [] rfl rfl rfl (WeakF.of (Weak.sub sub_nil)) rfl
def hc54 : C := (.seq (.reg [oo 2 (.mv (.c (.int .u64 0)))] [0]) (.seq (.reg [oo 3 (.mv (.c (.int .u64 0)))] [0, 3]) (.seq (.seq (.reg [oo 4 (.mv (.c (.int .i64 0)))] [0, 3, 4]) (.block 0 (.loop (.seq (.seq (.reg [oo 6 (.mv (.t 4)), oo 7 (.bin .lss (.t 6) (.c (.int .i64 70))), oo 8 (.mv (.t 7)), og 9 (.mv (.t 0)) 8 true, og 10 (.nilck (.t 9)) 8 true, og 11 (.faddr 1 1 (.t 10)) 8 true, og 12 (.load none (.t 11)) 8 true, og 13 (.un .not (.t 12)) 8 true, oo 14 (.pick (.t 8) (.t 13) (.c (.bool false)))] [0, 3, 4, 14]) (.cond (.t 14) .skip (.exit 0))) (.seq (.block 1 (.seq (.reg [oo 17 (.mv (.t 0)), co 18 (.call 90 [(.t 17)]), oo 5 (.mv (.t 18))] [0, 3, 4, 5]) (.seq (.reg [oo 19 (.mv (.t 3)), oo 20 (.mv (.t 5)), oo 21 (.bin .and (.t 20) (.c (.int .u8 127))), oo 22 (.conv (.int .u64) (.t 21)), oo 23 (.mv (.t 4)), oo 24 (.bin .shl (.t 22) (.t 23)), oo 25 (.bin .or (.t 19) (.t 24)), oo 3 (.mv (.t 25))] [0, 3, 4, 5]) (.seq (.reg [oo 26 (.mv (.t 5)), oo 27 (.bin .lss (.t 26) (.c (.int .u8 128)))] [0, 3, 4, 27]) (.cond (.t 27) (.seq (.reg [oo 28 (.mv (.t 3)), oo 2 (.mv (.t 28))] [2]) .ret) .skip))))) (.reg [oo 15 (.mv (.t 4)), oo 16 (.bin .add (.t 15) (.c (.int .i64 7))), oo 4 (.mv (.t 16))] [0, 3, 4])))))) (.seq (.reg [oo 29 (.mv (.t 0)), oo 30 (.nilck (.t 29)), oo 31 (.faddr 1 1 (.t 30)), os (.store 1 (.t 31) (.c (.bool true)))] []) (.seq (.reg [oo 2 (.mv (.c (.int .u64 0)))] [2]) .ret)))))
def ha54 : Ann := ⟨[], [90], [(0, [0]), (1, [0, 3]), (2, [0, 3, 4]), (3, [0, 3, 4, 14]), (5, [0, 3, 4, 5]), (6, [0, 3, 4, 5]), (7, [0, 3, 4, 27]), (8, [2]), (4, [0, 3, 4]), (9, []), (10, [2])], []⟩
theorem hk54 : comp Try.prog ha54 Try.f54.ntmps Try.f54.code = some hc54 := by kernel_rfl
def w54 (p1 : GValue_reader) (Q : Int × GValue_reader → Prop) : Prop :=
  ∃ J8 : (List UInt8) → Bool → Int → Int → Int → Bool → Prop, (∃ (I20 : (List UInt8) → Bool → Int → Int → Int → Prop) (M21 : (List UInt8) → Bool → Int → Int → Int → Nat), I20 p1.rest p1.bad p1.left (0 : Int) (0 : Int) ∧ ∀ (v9 : List UInt8) (v10 : Bool) (v11 : Int) (v12 : Int) (v13 : Int), I20 v9 v10 v11 v12 v13 → ((v13 < (70 : Int) → (((!v10) = true → ∃ r22 : Int × GValue_reader, sp90 (GValue_reader.mk v9 v10 v11) r22 ∧ (ibinOk .and (127 : Int)) ∧ ∀ v23 : Int, v23 = iop .and .u8 r22.1 (127 : Int) → ∀ v24 : Int, v24 = IntKind.wrap .u64 v23 → (ibinOk .shl v13) ∧ ∀ v25 : Int, v25 = iop .shl .u64 v24 v13 → (ibinOk .or v25) ∧ ∀ v26 : Int, v26 = iop .or .u64 v12 v25 → ((r22.1 < (128 : Int) → Q (v26, (GValue_reader.mk r22.2.rest r22.2.bad r22.2.left))) ∧ ((128 : Int) ≤ r22.1 → (-9223372036854775808 ≤ v13 + (7 : Int) ∧ v13 + (7 : Int) ≤ 9223372036854775807) ∧ ∀ v27 : Int, v27 = v13 + (7 : Int) → (I20 r22.2.rest r22.2.bad r22.2.left v26 v27 ∧ M21 r22.2.rest r22.2.bad r22.2.left v26 v27 < M21 v9 v10 v11 v12 v13)))) ∧ ((!v10) = false → J8 v9 v10 v11 v12 v13 (!v10)))) ∧ ((70 : Int) ≤ v13 → J8 v9 v10 v11 v12 v13 false))) ∧ ∀ (v2 : List UInt8) (v3 : Bool) (v4 : Int) (v5 : Int) (v6 : Int) (v7 : Bool), J8 v2 v3 v4 v5 v6 v7 → Q ((0 : Int), (GValue_reader.mk v2 true v4))
theorem ok54 (p1 : GValue_reader) (r : Int × GValue_reader) (hw : w54 p1 fun r' => r' = r) : sp54 p1 r := by
  refine p_hfunc2 (rs := [.t 2]) Try.func54 rfl (by decide) (by kernel_rfl) (Nat.le_of_ble_eq_true rfl) hk54 ?_
  unfold w54 at hw
  show SC Try.prog Try.f54.ntmps 1 hc54 _ [(0, .ptr 0 0)] [.cells [.list (bytesOf p1.rest) .none, .bool p1.bad, .int .i64 p1.left]]
  unfold hc54
  refine q_reg (st_mv rfl (g_endq [(0, .ptr 0 0)] rfl ?_))
  refine q_reg (st_mv rfl (g_endq [(0, .ptr 0 0), (3, .int .u64 (0 : Int))] rfl ?_))
  obtain ⟨J8, hw, hk⟩ := hw
  refine sc_join (A := List UInt8 × Bool × Int × Int × Int × Bool) (fun x => J8 x.1 x.2.1 x.2.2.1 x.2.2.2.1 x.2.2.2.2.1 x.2.2.2.2.2) (fun x => ([(0, .ptr 0 0), (3, .int .u64 x.2.2.2.1), (4, .int .i64 x.2.2.2.2.1), (14, .bool x.2.2.2.2.2)], [.cells [.list (bytesOf x.1) .none, .bool x.2.1, .int .i64 x.2.2.1]])) ?_ ?_
  · rintro ⟨v2, v3, v4, v5, v6, v7⟩ hj
    have hw := hk v2 v3 v4 v5 v6 v7 hj
    clear hk hj
    refine q_reg (st_mv rfl (st_nilck_p rfl (g_faddr_p rfl (g_store_p (v := .bool true) (h' := [.cells [.list (bytesOf v2) .none, .bool true, .int .i64 v4]]) rfl rfl rfl ⟨rfl, Nat.le_of_ble_eq_true rfl, rfl⟩ rfl (g_endq [] rfl ?_)))))
    refine q_reg (st_mv rfl (g_endq [(2, .int .u64 (0 : Int))] rfl ?_))
    refine sc_ret ?_
    exact g_hret3 (g := fun r : Int × GValue_reader => .int .u64 r.1) (ho := fun r : Int × GValue_reader => [.cells [.list (bytesOf r.2.rest) .none, .bool r.2.bad, .int .i64 r.2.left]]) (vs := [.int .u64 (0 : Int)]) (ws := [.int .u64 (0 : Int)]) hw (.inr rfl) rfl [(0, .int .u64 (0 : Int))] [(0, .int .u64 (0 : Int))] rfl rfl rfl (WeakF.of (Weak.sub (sub_cons rfl (.inl rfl) sub_nil))) rfl
  · clear hk
    refine q_reg (st_mv rfl (g_endq [(0, .ptr 0 0), (3, .int .u64 (0 : Int)), (4, .int .i64 (0 : Int))] rfl ?_))
    refine sc_block ?_
    obtain ⟨I20, M21, hi, hw⟩ := hw
    refine sc_loop (X := { x : List UInt8 × Bool × Int × Int × Int // I20 x.1 x.2.1 x.2.2.1 x.2.2.2.1 x.2.2.2.2 }) (fun x => ([(0, .ptr 0 0), (3, .int .u64 x.1.2.2.2.1), (4, .int .i64 x.1.2.2.2.2)], [.cells [.list (bytesOf x.1.1) .none, .bool x.1.2.1, .int .i64 x.1.2.2.1]])) (fun x => M21 x.1.1 x.1.2.1 x.1.2.2.1 x.1.2.2.2.1 x.1.2.2.2.2) ⟨(p1.rest, p1.bad, p1.left, (0 : Int), (0 : Int)), hi⟩ (WeakF.of (Weak.sub (sub_cons rfl (.inl rfl) (sub_cons rfl (.inl rfl) (sub_cons rfl (.inl rfl) sub_nil))))) ?_
    rintro ⟨⟨v9, v10, v11, v12, v13⟩, hi2⟩
    have hw := hw v9 v10 v11 v12 v13 hi2
    clear hi
    refine sc_seq ?_
    refine q_reg (st_mv rfl (g_lss rfl rfl hw (fun hw => st_mv rfl (st_g rfl (st_mv rfl (st_g rfl (st_nilck_p rfl (st_g rfl (g_faddr_p rfl (st_g rfl (g_load_p rfl rfl rfl (st_g rfl (st_not rfl (st_pick_t rfl rfl rfl (g_endq [(0, .ptr 0 0), (3, .int .u64 v12), (4, .int .i64 v13), (14, .bool (!v10))] rfl ?_))))))))))))) (fun hw => st_mv rfl (st_gft rfl (st_gft rfl (st_gft rfl (st_gft rfl (st_gft rfl (st_pick_f rfl rfl rfl (g_endq [(0, .ptr 0 0), (3, .int .u64 v12), (4, .int .i64 v13), (14, .bool false)] rfl ?_))))))))))
    · refine s_cond rfl hw (fun hw => ?_) (fun hw => ?_)
      · refine sc_skip ?_
        refine sq_n ?_
        refine sc_seq ?_
        refine sc_block ?_
        refine q_reg (st_mv rfl (k_hcall hh (g2 := fun r22 : Int × GValue_reader => .int .u8 r22.1) (H2 := fun r22 : Int × GValue_reader => [.cells [.list (bytesOf r22.2.rest) .none, .bool r22.2.bad, .int .i64 r22.2.left]]) [0] [0] 1 0 (ev_cons rfl ev_nil) rfl hw rfl rfl (by decide) (by decide) (ro_cells rfl (rl_cons (.pv _ (pv_lst enc_byte _ _ (by simp))) rfl (rl_cons (.pv _ (.bool _)) rfl (rl_cons (.pv _ (.int _ _)) rfl rl_nil))) ro_nil) (by simp) (ra_cons (.ptr _ _ _ rfl) ra_nil) (fun _ => rfl) (fun _ => rfl) (fun _ => (.pv _ (.int _ _))) (fun _ => (so_skip (by decide) so_nil)) (fun _ => (ou_cells rfl (rl_cons (.pv _ (pv_lst enc_byte _ _ (by simp))) rfl (rl_cons (.pv _ (.bool _)) rfl (rl_cons (.pv _ (.int _ _)) rfl rl_nil))) ou_nil)) fun r22 hw => st_mv rfl (g_endq [(0, .ptr 0 0), (3, .int .u64 v12), (4, .int .i64 v13), (5, .int .u8 r22.1)] rfl ?_)))
        refine q_reg (st_mv rfl (st_mv rfl (g_bin rfl rfl (.inl rfl) ⟨_, rfl⟩ hw fun v23 hw => g_conv rfl hw fun v24 hw => st_mv rfl (g_bin rfl rfl (.inr (.inl rfl)) ⟨_, rfl⟩ hw fun v25 hw => g_bin rfl rfl (.inl rfl) ⟨_, rfl⟩ hw fun v26 hw => st_mv rfl (g_endq [(0, .ptr 0 0), (3, .int .u64 v26), (4, .int .i64 v13), (5, .int .u8 r22.1)] rfl ?_)))))
        refine q_reg (st_mv rfl (g_lss rfl rfl hw (fun hw => g_endq [(0, .ptr 0 0), (3, .int .u64 v26), (4, .int .i64 v13), (27, .bool true)] rfl ?_) (fun hw => g_endq [(0, .ptr 0 0), (3, .int .u64 v26), (4, .int .i64 v13), (27, .bool false)] rfl ?_)))
        · refine s_cond_t rfl ?_
          refine q_reg (st_mv rfl (st_mv rfl (g_endq [(2, .int .u64 v26)] rfl ?_)))
          refine sc_ret ?_
          refine bl_r ?_
          refine sq_r ?_
          refine lo_r ?_
          refine bl_r ?_
          refine jo_r ?_
          exact g_hret3 (g := fun r : Int × GValue_reader => .int .u64 r.1) (ho := fun r : Int × GValue_reader => [.cells [.list (bytesOf r.2.rest) .none, .bool r.2.bad, .int .i64 r.2.left]]) (vs := [.int .u64 v26]) (ws := [.int .u64 v26]) hw (.inr rfl) rfl [(0, .int .u64 v26)] [(0, .int .u64 v26)] rfl rfl rfl (WeakF.of (Weak.sub (sub_cons rfl (.inl rfl) sub_nil))) rfl
        · refine s_cond_f rfl ?_
          refine sc_skip ?_
          refine bl_n ?_
          refine sq_n ?_
          refine s_reg (st_mv rfl (g_add rfl rfl hw fun v27 hw => st_mv rfl (g_end [(0, .ptr 0 0), (3, .int .u64 v26), (4, .int .i64 v27)] rfl ?_)))
          exact lo_n ⟨(r22.2.rest, r22.2.bad, r22.2.left, v26, v27), hw.1⟩ hw.2 (WeakF.of (Weak.sub (sub_cons rfl (.inl rfl) (sub_cons rfl (.inl rfl) (sub_cons rfl (.inl rfl) sub_nil)))))
      · refine sc_exit ?_
        refine sq_x ?_
        refine lo_x ?_
        refine bl_x ?_
        exact jo_n (v9, v10, v11, v12, v13, (!v10)) hw (WeakF.of (Weak.sub (sub_cons rfl (.inl rfl) (sub_cons rfl (.inl rfl) (sub_cons rfl (.inl rfl) (sub_cons rfl (.inl rfl) sub_nil))))))
    · refine s_cond_f rfl ?_
      refine sc_exit ?_
      refine sq_x ?_
      refine lo_x ?_
      refine bl_x ?_
      exact jo_n (v9, v10, v11, v12, v13, false) hw (WeakF.of (Weak.sub (sub_cons rfl (.inl rfl) (sub_cons rfl (.inl rfl) (sub_cons rfl (.inl rfl) (sub_cons rfl (.inl rfl) sub_nil))))))
def hc56 : C := (.seq (.reg [oo 4 (.mv (.c (.int .i64 0)))] [0, 1]) (.seq (.reg [oo 6 (.mv (.t 0)), co 7 (.call 54 [(.t 6)]), oo 5 (.mv (.t 7))] [0, 1, 5]) (.seq (.seq (.reg [oo 8 (.mv (.t 5)), oo 9 (.mv (.t 1)), oo 10 (.conv (.int .u64) (.t 9)), oo 11 (.bin .gtr (.t 8) (.t 10))] [0, 5, 11]) (.cond (.t 11) (.seq (.reg [oo 12 (.mv (.t 0)), oo 13 (.nilck (.t 12)), oo 14 (.faddr 1 1 (.t 13)), os (.store 1 (.t 14) (.c (.bool true)))] []) (.seq (.reg [oo 4 (.mv (.c (.int .i64 0)))] [4]) .ret)) .skip)) (.seq (.reg [oo 15 (.mv (.t 5)), oo 16 (.conv (.int .i64) (.t 15)), oo 4 (.mv (.t 16))] [4]) .ret))))
def ha56 : Ann := ⟨[], [54], [(0, [0, 1]), (1, [0, 1, 5]), (2, [0, 5, 11]), (3, []), (4, [4]), (5, [4])], []⟩
theorem hk56 : comp Try.prog ha56 Try.f56.ntmps Try.f56.code = some hc56 := by kernel_rfl
def w56 (p1 : GValue_reader) (p2 : Int) (Q : Int × GValue_reader → Prop) : Prop :=
  ∃ r3 : Int × GValue_reader, sp54 (GValue_reader.mk p1.rest p1.bad p1.left) r3 ∧ ∀ v4 : Int, v4 = IntKind.wrap .u64 p2 → ((v4 < r3.1 → Q ((0 : Int), (GValue_reader.mk r3.2.rest true r3.2.left))) ∧ (r3.1 ≤ v4 → ∀ v5 : Int, v5 = IntKind.wrap .i64 r3.1 → Q (v5, (GValue_reader.mk r3.2.rest r3.2.bad r3.2.left))))
theorem ok56 (p1 : GValue_reader) (p2 : Int) (r : Int × GValue_reader) (hw : w56 p1 p2 fun r' => r' = r) : sp56 p1 p2 r := by
  refine p_hfunc2 (rs := [.t 4]) Try.func56 rfl (by decide) (by kernel_rfl) (Nat.le_of_ble_eq_true rfl) hk56 ?_
  unfold w56 at hw
  show SC Try.prog Try.f56.ntmps 1 hc56 _ [(0, .ptr 0 0), (1, .int .i64 p2)] [.cells [.list (bytesOf p1.rest) .none, .bool p1.bad, .int .i64 p1.left]]
  unfold hc56
  refine q_reg (st_mv rfl (g_endq [(0, .ptr 0 0), (1, .int .i64 p2)] rfl ?_))
  refine q_reg (st_mv rfl (k_hcall hh (g2 := fun r3 : Int × GValue_reader => .int .u64 r3.1) (H2 := fun r3 : Int × GValue_reader => [.cells [.list (bytesOf r3.2.rest) .none, .bool r3.2.bad, .int .i64 r3.2.left]]) [0] [0] 1 0 (ev_cons rfl ev_nil) rfl hw rfl rfl (by decide) (by decide) (ro_cells rfl (rl_cons (.pv _ (pv_lst enc_byte _ _ (by simp))) rfl (rl_cons (.pv _ (.bool _)) rfl (rl_cons (.pv _ (.int _ _)) rfl rl_nil))) ro_nil) (by simp) (ra_cons (.ptr _ _ _ rfl) ra_nil) (fun _ => rfl) (fun _ => rfl) (fun _ => (.pv _ (.int _ _))) (fun _ => (so_skip (by decide) so_nil)) (fun _ => (ou_cells rfl (rl_cons (.pv _ (pv_lst enc_byte _ _ (by simp))) rfl (rl_cons (.pv _ (.bool _)) rfl (rl_cons (.pv _ (.int _ _)) rfl rl_nil))) ou_nil)) fun r3 hw => st_mv rfl (g_endq [(0, .ptr 0 0), (1, .int .i64 p2), (5, .int .u64 r3.1)] rfl ?_)))
  refine sc_seq ?_
  refine q_reg (st_mv rfl (st_mv rfl (g_conv rfl hw fun v4 hw => g_gtr rfl rfl hw (fun hw => g_endq [(0, .ptr 0 0), (5, .int .u64 r3.1), (11, .bool true)] rfl ?_) (fun hw => g_endq [(0, .ptr 0 0), (5, .int .u64 r3.1), (11, .bool false)] rfl ?_))))
  · refine s_cond_t rfl ?_
    refine q_reg (st_mv rfl (st_nilck_p rfl (g_faddr_p rfl (g_store_p (v := .bool true) (h' := [.cells [.list (bytesOf r3.2.rest) .none, .bool true, .int .i64 r3.2.left]]) rfl rfl rfl ⟨rfl, Nat.le_of_ble_eq_true rfl, rfl⟩ rfl (g_endq [] rfl ?_)))))
    refine q_reg (st_mv rfl (g_endq [(4, .int .i64 (0 : Int))] rfl ?_))
    refine sc_ret ?_
    refine sq_r ?_
    exact g_hret3 (g := fun r : Int × GValue_reader => .int .i64 r.1) (ho := fun r : Int × GValue_reader => [.cells [.list (bytesOf r.2.rest) .none, .bool r.2.bad, .int .i64 r.2.left]]) (vs := [.int .i64 (0 : Int)]) (ws := [.int .i64 (0 : Int)]) hw (.inr rfl) rfl [(0, .int .i64 (0 : Int))] [(0, .int .i64 (0 : Int))] rfl rfl rfl (WeakF.of (Weak.sub (sub_cons rfl (.inl rfl) sub_nil))) rfl
  · refine s_cond_f rfl ?_
    refine sc_skip ?_
    refine sq_n ?_
    refine q_reg (st_mv rfl (g_conv rfl hw fun v5 hw => st_mv rfl (g_endq [(4, .int .i64 v5)] rfl ?_)))
    refine sc_ret ?_
    exact g_hret3 (g := fun r : Int × GValue_reader => .int .i64 r.1) (ho := fun r : Int × GValue_reader => [.cells [.list (bytesOf r.2.rest) .none, .bool r.2.bad, .int .i64 r.2.left]]) (vs := [.int .i64 v5]) (ws := [.int .i64 v5]) hw (.inr rfl) rfl [(0, .int .i64 v5)] [(0, .int .i64 v5)] rfl rfl rfl (WeakF.of (Weak.sub (sub_cons rfl (.inl rfl) sub_nil))) rfl
def hc57 : C := (.seq (.reg [oo 2 (.mv (.c (.int .i64 0)))] [0]) (.seq (.reg [oo 4 (.mv (.t 0)), co 5 (.call 54 [(.t 4)]), oo 3 (.mv (.t 5))] [3]) (.seq (.reg [oo 6 (.mv (.t 3)), oo 7 (.bin .shr (.t 6) (.c (.int .u64 1))), oo 8 (.conv (.int .i64) (.t 7)), oo 9 (.mv (.t 3)), oo 10 (.bin .and (.t 9) (.c (.int .u64 1))), oo 11 (.conv (.int .i64) (.t 10)), oo 12 (.un .neg (.t 11)), oo 13 (.bin .xor (.t 8) (.t 12)), oo 2 (.mv (.t 13))] [2]) .ret)))
def ha57 : Ann := ⟨[], [54], [(0, [0]), (1, [3]), (2, [2])], []⟩
theorem hk57 : comp Try.prog ha57 Try.f57.ntmps Try.f57.code = some hc57 := by kernel_rfl
def w57 (p1 : GValue_reader) (Q : Int × GValue_reader → Prop) : Prop :=
  ∃ r2 : Int × GValue_reader, sp54 (GValue_reader.mk p1.rest p1.bad p1.left) r2 ∧ (ibinOk .shr (1 : Int)) ∧ ∀ v3 : Int, v3 = iop .shr .u64 r2.1 (1 : Int) → ∀ v4 : Int, v4 = IntKind.wrap .i64 v3 → (ibinOk .and (1 : Int)) ∧ ∀ v5 : Int, v5 = iop .and .u64 r2.1 (1 : Int) → ∀ v6 : Int, v6 = IntKind.wrap .i64 v5 → (-9223372036854775807 ≤ v6 ∧ v6 ≤ 9223372036854775807) ∧ ∀ v7 : Int, v7 = -(v6) → (ibinOk .xor v7) ∧ ∀ v8 : Int, v8 = iop .xor .i64 v4 v7 → Q (v8, (GValue_reader.mk r2.2.rest r2.2.bad r2.2.left))
theorem ok57 (p1 : GValue_reader) (r : Int × GValue_reader) (hw : w57 p1 fun r' => r' = r) : sp57 p1 r := by
  refine p_hfunc2 (rs := [.t 2]) Try.func57 rfl (by decide) (by kernel_rfl) (Nat.le_of_ble_eq_true rfl) hk57 ?_
  unfold w57 at hw
  show SC Try.prog Try.f57.ntmps 1 hc57 _ [(0, .ptr 0 0)] [.cells [.list (bytesOf p1.rest) .none, .bool p1.bad, .int .i64 p1.left]]
  unfold hc57
  refine q_reg (st_mv rfl (g_endq [(0, .ptr 0 0)] rfl ?_))
  refine q_reg (st_mv rfl (k_hcall hh (g2 := fun r2 : Int × GValue_reader => .int .u64 r2.1) (H2 := fun r2 : Int × GValue_reader => [.cells [.list (bytesOf r2.2.rest) .none, .bool r2.2.bad, .int .i64 r2.2.left]]) [0] [0] 1 0 (ev_cons rfl ev_nil) rfl hw rfl rfl (by decide) (by decide) (ro_cells rfl (rl_cons (.pv _ (pv_lst enc_byte _ _ (by simp))) rfl (rl_cons (.pv _ (.bool _)) rfl (rl_cons (.pv _ (.int _ _)) rfl rl_nil))) ro_nil) (by simp) (ra_cons (.ptr _ _ _ rfl) ra_nil) (fun _ => rfl) (fun _ => rfl) (fun _ => (.pv _ (.int _ _))) (fun _ => (so_skip (by decide) so_nil)) (fun _ => (ou_cells rfl (rl_cons (.pv _ (pv_lst enc_byte _ _ (by simp))) rfl (rl_cons (.pv _ (.bool _)) rfl (rl_cons (.pv _ (.int _ _)) rfl rl_nil))) ou_nil)) fun r2 hw => st_mv rfl (g_endq [(3, .int .u64 r2.1)] rfl ?_)))
  refine q_reg (st_mv rfl (g_bin rfl rfl (.inr (.inr rfl)) ⟨_, rfl⟩ hw fun v3 hw => g_conv rfl hw fun v4 hw => st_mv rfl (g_bin rfl rfl (.inl rfl) ⟨_, rfl⟩ hw fun v5 hw => g_conv rfl hw fun v6 hw => g_neg rfl hw fun v7 hw => g_bin rfl rfl (.inl rfl) ⟨_, rfl⟩ hw fun v8 hw => st_mv rfl (g_endq [(2, .int .i64 v8)] rfl ?_))))
  refine sc_ret ?_
  exact g_hret3 (g := fun r : Int × GValue_reader => .int .i64 r.1) (ho := fun r : Int × GValue_reader => [.cells [.list (bytesOf r.2.rest) .none, .bool r.2.bad, .int .i64 r.2.left]]) (vs := [.int .i64 v8]) (ws := [.int .i64 v8]) hw (.inr rfl) rfl [(0, .int .i64 v8)] [(0, .int .i64 v8)] rfl rfl rfl (WeakF.of (Weak.sub (sub_cons rfl (.inl rfl) sub_nil))) rfl
def hc71 : C := (.seq (.reg [oo 4 (.mv (.c (.bool false)))] [0, 1]) (.seq (.reg [oo 5 (.mv (.t 0)), oo 6 (.conv .ofBytes (.t 5)), oo 7 (.mv (.t 1)), oo 8 (.conv .ofBytes (.t 7)), oo 9 (.eqv false .str (.t 6) (.t 8)), oo 4 (.mv (.t 9))] [4]) .ret))
def ha71 : Ann := ⟨[], [], [(0, [0, 1]), (1, [4])], []⟩
theorem hk71 : comp Try.prog ha71 Try.f71.ntmps Try.f71.code = some hc71 := by kernel_rfl
def w71 (p1 : List UInt8) (p2 : List UInt8) (Q : Bool → Prop) : Prop :=
  ∀ v3 : Bool, v3 = (if false then !(p1 == p2) else (p1 == p2)) → Q v3
theorem ok71 (p1 : List UInt8) (p2 : List UInt8) (r : Bool) (hw : w71 p1 p2 fun r' => r' = r) : sp71 p1 p2 r := by
  refine p_func2 (rs := [.t 4]) (g := fun r : Bool => .bool r) Try.func71 rfl (by decide) (by kernel_rfl) (Nat.le_of_ble_eq_true rfl) hk71 (pvc (pv_lst enc_byte _ _ (by simp)) (pvc (pv_lst enc_byte _ _ (by simp)) pvn)) (.bool _) rfl ?_
  unfold w71 at hw
  show SC Try.prog Try.f71.ntmps 0 hc71 _ [(0, .list (bytesOf p1) .none), (1, .list (bytesOf p2) .none)] []
  unfold hc71
  refine q_reg (st_mv rfl (g_endq [(0, .list (bytesOf p1) .none), (1, .list (bytesOf p2) .none)] rfl ?_))
  refine q_reg (st_mv rfl (st_ofbytes rfl (st_mv rfl (st_ofbytes rfl (gb_eqs rfl rfl hw fun v3 hw => st_mv rfl (g_endq [(4, .bool v3)] rfl ?_))))))
  refine sc_ret ?_
  exact g_hret3 (g := fun r : Bool => .bool r) (ho := fun r : Bool => []) (vs := [.bool v3]) (ws := [.bool v3]) hw (.inr rfl) rfl [(0, .bool v3)] [(0, .bool v3)] rfl rfl rfl (WeakF.of (Weak.sub (sub_cons rfl (.inl rfl) sub_nil))) rfl
def hc84 : C := (.seq (.reg [oo 1 (.box none 4 (.t 0)), oo 2 (.mv (.c (.int .i64 0))), oo 3 (.mv (.c (.int .i64 0))), oo 4 (.mv (.c (.int .i64 0)))] [1]) (.seq (.dreg [oo 13 (.faddr 2 1 (.t 1)), oo 14 (.load none (.t 13)), oo 15 (.len true (.t 14)), oo 5 (.mv (.c (.int .i64 1))), oo 6 (.mv (.c (.int .i64 0))), oo 7 (.mv (.t 15))] [] 0 [1, 5, 6, 7]) (.seq (.seq (.reg [oo 16 (.faddr 3 1 (.t 1)), oo 17 (.load none (.t 16)), oo 18 (.len false (.t 17)), oo 19 (.mv (.c (.int .i64 0)))] [5, 6, 7, 17, 18, 19]) (.block 0 (.loop (.seq (.reg [oo 20 (.bin .lss (.t 19) (.t 18))] [5, 6, 7, 17, 18, 19, 20]) (.seq (.cond (.t 20) .skip (.exit 0)) (.seq (.block 1 (.seq (.reg [oo 21 (.iaddr 4 (.t 17) (.t 19)), oo 22 (.load (some 4) (.t 21)), oo 9 (.alloc none [(.int .i64 0), (.int .i64 0), (.str []), (.list [] .full)]), os (.store 4 (.t 9) (.t 22))] [5, 6, 7, 9, 17, 18, 19]) (.seq (.reg [oo 24 (.load (some 4) (.t 9)), co 25 (.call 84 [(.t 24)]), oo 23 (.mv (.t 25)), oo 26 (.extract (.t 23) 0), oo 27 (.extract (.t 23) 1), oo 28 (.extract (.t 23) 2), oo 10 (.mv (.t 26)), oo 11 (.mv (.t 27)), oo 12 (.mv (.t 28))] [5, 6, 7, 10, 11, 12, 17, 18, 19]) (.reg [oo 29 (.mv (.t 5)), oo 30 (.mv (.t 10)), oo 31 (.bin .add (.t 29) (.t 30)), oo 32 (.mv (.t 6)), oo 33 (.mv (.t 11)), oo 34 (.max [(.t 32), (.t 33)]), oo 35 (.mv (.t 7)), oo 36 (.mv (.t 12)), oo 37 (.max [(.t 35), (.t 36)]), oo 5 (.mv (.t 31)), oo 6 (.mv (.t 34)), oo 7 (.mv (.t 37))] [5, 6, 7, 17, 18, 19])))) (.reg [oo 38 (.bin .add (.t 19) (.c (.int .i64 1))), oo 19 (.mv (.t 38))] [5, 6, 7, 17, 18, 19]))))))) (.seq (.reg [oo 39 (.mv (.t 5)), oo 40 (.mv (.t 6)), oo 41 (.bin .add (.t 40) (.c (.int .i64 1))), oo 42 (.mv (.t 7)), oo 2 (.mv (.t 39)), oo 3 (.mv (.t 41)), oo 4 (.mv (.t 42))] [2, 3, 4]) .ret))))
def ha84 : Ann := ⟨[], [], [(0, [1]), (1, [1, 5, 6, 7]), (2, [5, 6, 7, 17, 18, 19]), (3, [5, 6, 7, 17, 18, 19, 20]), (4, [5, 6, 7, 9, 17, 18, 19]), (5, [5, 6, 7, 10, 11, 12, 17, 18, 19]), (6, [5, 6, 7, 17, 18, 19]), (7, [5, 6, 7, 17, 18, 19]), (8, [2, 3, 4])], []⟩
theorem hk84 : comp Try.prog ha84 Try.f84.ntmps Try.f84.code = some hc84 := by kernel_rfl
def w84 (p1 : GApi_Value) (Q : Int × Int × Int → Prop) : Prop :=
  ∃ (I13 : Int → Int → Int → Int → Prop) (M14 : Int → Int → Int → Int → Nat), I13 (1 : Int) (0 : Int) (p1.Text.length : Int) (0 : Int) ∧ ∀ (v2 : Int) (v3 : Int) (v4 : Int) (v5 : Int), I13 v2 v3 v4 v5 → ∀ v15 : Bool, v15 = decide (v5 < (p1.Args.length : Int)) → ((v15 = true → (0 ≤ v5 ∧ v5 < (p1.Args.length : Int)) ∧ ∀ a16 : GApi_Value, p1.Args[(v5 : Int).toNat]? = some a16 → ∃ r17 : Int × Int × Int, sp84 (GApi_Value.mk a16.Kind a16.Num a16.Text a16.Args) r17 ∧ (-9223372036854775808 ≤ v2 + r17.1 ∧ v2 + r17.1 ≤ 9223372036854775807) ∧ ∀ v18 : Int, v18 = v2 + r17.1 → ∀ v19 : Int, v19 = max v3 r17.2.1 → ∀ v20 : Int, v20 = max v4 r17.2.2 → (-9223372036854775808 ≤ v5 + (1 : Int) ∧ v5 + (1 : Int) ≤ 9223372036854775807) ∧ ∀ v21 : Int, v21 = v5 + (1 : Int) → (I13 v18 v19 v20 v21 ∧ M14 v18 v19 v20 v21 < M14 v2 v3 v4 v5)) ∧ (v15 = false → (-9223372036854775808 ≤ v3 + (1 : Int) ∧ v3 + (1 : Int) ≤ 9223372036854775807) ∧ ∀ v22 : Int, v22 = v3 + (1 : Int) → Q (v2, v22, v4)))
theorem ok84 (p1 : GApi_Value) (r : Int × Int × Int) (hw : w84 p1 fun r' => r' = r) : sp84 p1 r := by
  refine p_func2 (rs := [.t 2, .t 3, .t 4]) (g := fun r : Int × Int × Int => .tuple [.int .i64 r.1, .int .i64 r.2.1, .int .i64 r.2.2]) Try.func84 rfl (by decide) (by kernel_rfl) (Nat.le_of_ble_eq_true rfl) hk84 (pvc (.agg _ (pvc (.int _ _) (pvc (.int _ _) (pvc (.str _) (pvc (pv_lst enc_GApi_Value _ _ (by simp)) pvn))))) pvn) (pvtup (pvc (.int _ _) (pvc (.int _ _) (pvc (.int _ _) pvn)))) rfl ?_
  unfold w84 at hw
  show SC Try.prog Try.f84.ntmps 0 hc84 _ [(0, .agg [.int .i64 p1.Kind, .int .i64 p1.Num, .str p1.Text, .list (List.map eGApi_Value p1.Args) .none])] []
  unfold hc84
  refine q_reg (g_box (v := .agg [.int .i64 p1.Kind, .int .i64 p1.Num, .str p1.Text, .list (List.map eGApi_Value p1.Args) .none]) rfl rfl rfl (n := 0) rfl rfl (st_mv rfl (st_mv rfl (st_mv rfl (g_endq [(1, .ptr 0 0)] rfl ?_)))))
  refine sc_seq ?_
  refine s_dreg Try.mixed rfl (g_faddr_p rfl (g_load_p rfl rfl rfl (st_slen rfl (st_mv rfl (st_mv rfl (st_mv rfl (st_mid (g_end [(1, .ptr 0 0), (5, .int .i64 (1 : Int)), (6, .int .i64 (0 : Int)), (7, .int .i64 (p1.Text.length : Int))] rfl ?_))))))))
  refine sq_n ?_
  refine sc_seq ?_
  refine q_reg (g_faddr_p rfl (g_load_p rfl rfl rfl (g_len rfl (st_mv rfl (g_endq [(5, .int .i64 (1 : Int)), (6, .int .i64 (0 : Int)), (7, .int .i64 (p1.Text.length : Int)), (17, .list (List.map eGApi_Value p1.Args) .none), (18, .int .i64 (p1.Args.length : Int)), (19, .int .i64 (0 : Int))] rfl ?_)))))
  refine sc_block ?_
  obtain ⟨I13, M14, hi, hw⟩ := hw
  refine sc_loop (X := { x : Int × Int × Int × Int // I13 x.1 x.2.1 x.2.2.1 x.2.2.2 }) (fun x => ([(5, .int .i64 x.1.1), (6, .int .i64 x.1.2.1), (7, .int .i64 x.1.2.2.1), (17, .list (List.map eGApi_Value p1.Args) .none), (18, .int .i64 (p1.Args.length : Int)), (19, .int .i64 x.1.2.2.2)], [])) (fun x => M14 x.1.1 x.1.2.1 x.1.2.2.1 x.1.2.2.2) ⟨((1 : Int), (0 : Int), (p1.Text.length : Int), (0 : Int)), hi⟩ (weak_ren [] (by simp) (by decide) ro_nil (re_cons rfl (.pv _ (.int _ _)) (re_cons rfl (.pv _ (.int _ _)) (re_cons rfl (.pv _ (.int _ _)) (re_cons rfl (.pv _ (pv_lst enc_GApi_Value _ _ (by simp))) (re_cons rfl (.pv _ (.int _ _)) (re_cons rfl (.pv _ (.int _ _)) re_nil))))))) ?_
  rintro ⟨⟨v2, v3, v4, v5⟩, hi2⟩
  have hw := hw v2 v3 v4 v5 hi2
  clear hi
  refine q_reg (gb_cmp rfl rfl trivial rfl hw fun v15 hw => g_endq [(5, .int .i64 v2), (6, .int .i64 v3), (7, .int .i64 v4), (17, .list (List.map eGApi_Value p1.Args) .none), (18, .int .i64 (p1.Args.length : Int)), (19, .int .i64 v5), (20, .bool v15)] rfl ?_)
  refine sc_seq ?_
  refine s_cond rfl hw (fun hw => ?_) (fun hw => ?_)
  · refine sc_skip ?_
    refine sq_n ?_
    refine sc_seq ?_
    refine sc_block ?_
    refine q_reg (g_iaddrE enc_GApi_Value (fun a16 => [.int .i64 a16.Kind, .int .i64 a16.Num, .str a16.Text, .list (List.map eGApi_Value a16.Args) .none]) cGApi_Value_eq rfl rfl hw fun a16 hw => st_load_r (v := .agg [.int .i64 a16.Kind, .int .i64 a16.Num, .str a16.Text, .list (List.map eGApi_Value a16.Args) .none]) rfl rfl (g_alloc (n := 0) rfl rfl (g_store_p (v := .agg [.int .i64 a16.Kind, .int .i64 a16.Num, .str a16.Text, .list (List.map eGApi_Value a16.Args) .none]) (h' := [.cells [.int .i64 a16.Kind, .int .i64 a16.Num, .str a16.Text, .list (List.map eGApi_Value a16.Args) .none]]) rfl rfl rfl ⟨rfl, Nat.le_of_ble_eq_true rfl, rfl⟩ rfl (g_endq [(5, .int .i64 v2), (6, .int .i64 v3), (7, .int .i64 v4), (9, .ptr 0 0), (17, .list (List.map eGApi_Value p1.Args) .none), (18, .int .i64 (p1.Args.length : Int)), (19, .int .i64 v5)] rfl ?_))))
    refine q_reg (g_load_p (v := .agg [.int .i64 a16.Kind, .int .i64 a16.Num, .str a16.Text, .list (List.map eGApi_Value a16.Args) .none]) rfl rfl rfl (k_call dh (ev_cons rfl ev_nil) rfl hw fun r17 hw => st_mv rfl (st_extract rfl rfl (st_extract rfl rfl (st_extract rfl rfl (st_mv rfl (st_mv rfl (st_mv rfl (g_endq [(5, .int .i64 v2), (6, .int .i64 v3), (7, .int .i64 v4), (10, .int .i64 r17.1), (11, .int .i64 r17.2.1), (12, .int .i64 r17.2.2), (17, .list (List.map eGApi_Value p1.Args) .none), (18, .int .i64 (p1.Args.length : Int)), (19, .int .i64 v5)] rfl ?_)))))))))
    refine s_reg (st_mv rfl (st_mv rfl (g_add rfl rfl hw fun v18 hw => st_mv rfl (st_mv rfl (g_max rfl rfl hw fun v19 hw => st_mv rfl (st_mv rfl (g_max rfl rfl hw fun v20 hw => st_mv rfl (st_mv rfl (st_mv rfl (g_end [(5, .int .i64 v18), (6, .int .i64 v19), (7, .int .i64 v20), (17, .list (List.map eGApi_Value p1.Args) .none), (18, .int .i64 (p1.Args.length : Int)), (19, .int .i64 v5)] rfl ?_))))))))))
    refine bl_n ?_
    refine sq_n ?_
    refine s_reg (g_add rfl rfl hw fun v21 hw => st_mv rfl (g_end [(5, .int .i64 v18), (6, .int .i64 v19), (7, .int .i64 v20), (17, .list (List.map eGApi_Value p1.Args) .none), (18, .int .i64 (p1.Args.length : Int)), (19, .int .i64 v21)] rfl ?_))
    exact lo_n ⟨(v18, v19, v20, v21), hw.1⟩ hw.2 (weak_ren [] (by simp) (by decide) ro_nil (re_cons rfl (.pv _ (.int _ _)) (re_cons rfl (.pv _ (.int _ _)) (re_cons rfl (.pv _ (.int _ _)) (re_cons rfl (.pv _ (pv_lst enc_GApi_Value _ _ (by simp))) (re_cons rfl (.pv _ (.int _ _)) (re_cons rfl (.pv _ (.int _ _)) re_nil)))))))
  · refine sc_exit ?_
    refine sq_x ?_
    refine lo_x ?_
    refine bl_x ?_
    refine sq_n ?_
    refine q_reg (st_mv rfl (st_mv rfl (g_add rfl rfl hw fun v22 hw => st_mv rfl (st_mv rfl (st_mv rfl (st_mv rfl (g_endq [(2, .int .i64 v2), (3, .int .i64 v22), (4, .int .i64 v4)] rfl ?_)))))))
    refine sc_ret ?_
    exact g_hret3 (g := fun r : Int × Int × Int => .tuple [.int .i64 r.1, .int .i64 r.2.1, .int .i64 r.2.2]) (ho := fun r : Int × Int × Int => []) (vs := [.int .i64 v2, .int .i64 v22, .int .i64 v4]) (ws := [.int .i64 v2, .int .i64 v22, .int .i64 v4]) hw (.inr rfl) rfl [(0, .int .i64 v2), (1, .int .i64 v22), (2, .int .i64 v4)] [(0, .int .i64 v2), (1, .int .i64 v22), (2, .int .i64 v4)] rfl rfl rfl (WeakF.of (Weak.sub (sub_cons rfl (.inl rfl) (sub_cons rfl (.inl rfl) (sub_cons rfl (.inl rfl) sub_nil))))) rfl
def hc85 : C := (.seq (.reg [oo 1 (.box none 4 (.t 0)), oo 2 (.mv (.c (.bool false)))] [1]) (.seq (.seq (.reg [oo 5 (.load (some 4) (.t 1)), co 6 (.call 102 [(.t 5)]), oo 7 (.un .not (.t 6))] [1, 7]) (.cond (.t 7) (.seq (.reg [oo 2 (.mv (.c (.bool false)))] [2]) .ret) .skip)) (.seq (.seq (.reg [oo 8 (.faddr 3 1 (.t 1)), oo 9 (.load none (.t 8)), oo 10 (.len false (.t 9)), oo 11 (.mv (.c (.int .i64 0)))] [9, 10, 11]) (.block 0 (.loop (.seq (.reg [oo 12 (.bin .lss (.t 11) (.t 10))] [9, 10, 11, 12]) (.seq (.cond (.t 12) .skip (.exit 0)) (.seq (.block 1 (.seq (.reg [oo 13 (.iaddr 4 (.t 9) (.t 11)), oo 14 (.load (some 4) (.t 13)), oo 4 (.alloc none [(.int .i64 0), (.int .i64 0), (.str []), (.list [] .full)]), os (.store 4 (.t 4) (.t 14))] [4, 9, 10, 11]) (.seq (.reg [oo 15 (.load (some 4) (.t 4)), co 16 (.call 85 [(.t 15)]), oo 17 (.un .not (.t 16))] [9, 10, 11, 17]) (.cond (.t 17) (.seq (.reg [oo 2 (.mv (.c (.bool false)))] [2]) .ret) .skip)))) (.reg [oo 18 (.bin .add (.t 11) (.c (.int .i64 1))), oo 11 (.mv (.t 18))] [9, 10, 11]))))))) (.seq (.reg [oo 2 (.mv (.c (.bool true)))] [2]) .ret))))
def ha85 : Ann := ⟨[], [], [(0, [1]), (1, [1, 7]), (2, [2]), (3, [9, 10, 11]), (4, [9, 10, 11, 12]), (5, [4, 9, 10, 11]), (6, [9, 10, 11, 17]), (7, [2]), (8, [9, 10, 11]), (9, [2])], []⟩
theorem hk85 : comp Try.prog ha85 Try.f85.ntmps Try.f85.code = some hc85 := by kernel_rfl
def w85 (p1 : GApi_Value) (Q : Bool → Prop) : Prop :=
  ∃ r2 : Bool, sp102 (GApi_Value.mk p1.Kind p1.Num p1.Text p1.Args) r2 ∧ (((!r2) = true → Q false) ∧ ((!r2) = false → ∃ (I8 : Int → Prop) (M9 : Int → Nat), I8 (0 : Int) ∧ ∀ (v3 : Int), I8 v3 → ∀ v10 : Bool, v10 = decide (v3 < (p1.Args.length : Int)) → ((v10 = true → (0 ≤ v3 ∧ v3 < (p1.Args.length : Int)) ∧ ∀ a11 : GApi_Value, p1.Args[(v3 : Int).toNat]? = some a11 → ∃ r12 : Bool, sp85 (GApi_Value.mk a11.Kind a11.Num a11.Text a11.Args) r12 ∧ (((!r12) = true → Q false) ∧ ((!r12) = false → (-9223372036854775808 ≤ v3 + (1 : Int) ∧ v3 + (1 : Int) ≤ 9223372036854775807) ∧ ∀ v13 : Int, v13 = v3 + (1 : Int) → (I8 v13 ∧ M9 v13 < M9 v3)))) ∧ (v10 = false → Q true))))
theorem ok85 (p1 : GApi_Value) (r : Bool) (hw : w85 p1 fun r' => r' = r) : sp85 p1 r := by
  refine p_func2 (rs := [.t 2]) (g := fun r : Bool => .bool r) Try.func85 rfl (by decide) (by kernel_rfl) (Nat.le_of_ble_eq_true rfl) hk85 (pvc (.agg _ (pvc (.int _ _) (pvc (.int _ _) (pvc (.str _) (pvc (pv_lst enc_GApi_Value _ _ (by simp)) pvn))))) pvn) (.bool _) rfl ?_
  unfold w85 at hw
  show SC Try.prog Try.f85.ntmps 0 hc85 _ [(0, .agg [.int .i64 p1.Kind, .int .i64 p1.Num, .str p1.Text, .list (List.map eGApi_Value p1.Args) .none])] []
  unfold hc85
  refine q_reg (g_box (v := .agg [.int .i64 p1.Kind, .int .i64 p1.Num, .str p1.Text, .list (List.map eGApi_Value p1.Args) .none]) rfl rfl rfl (n := 0) rfl rfl (st_mv rfl (g_endq [(1, .ptr 0 0)] rfl ?_)))
  refine sc_seq ?_
  refine q_reg (g_load_p (v := .agg [.int .i64 p1.Kind, .int .i64 p1.Num, .str p1.Text, .list (List.map eGApi_Value p1.Args) .none]) rfl rfl rfl (k_call dh (ev_cons rfl ev_nil) rfl hw fun r2 hw => st_not rfl (g_endq [(1, .ptr 0 0), (7, .bool (!r2))] rfl ?_)))
  refine s_cond rfl hw (fun hw => ?_) (fun hw => ?_)
  · refine q_reg (st_mv rfl (g_endq [(2, .bool false)] rfl ?_))
    refine sc_ret ?_
    refine sq_r ?_
    exact g_hret3 (g := fun r : Bool => .bool r) (ho := fun r : Bool => []) (vs := [.bool false]) (ws := [.bool false]) hw (.inr rfl) rfl [(0, .bool false)] [(0, .bool false)] rfl rfl rfl (weak_ren [] (by simp) (by decide) ro_nil (re_cons rfl (.pv _ (.bool _)) re_nil)) rfl
  · refine sc_skip ?_
    refine sq_n ?_
    refine sc_seq ?_
    refine q_reg (g_faddr_p rfl (g_load_p rfl rfl rfl (g_len rfl (st_mv rfl (g_endq [(9, .list (List.map eGApi_Value p1.Args) .none), (10, .int .i64 (p1.Args.length : Int)), (11, .int .i64 (0 : Int))] rfl ?_)))))
    refine sc_block ?_
    obtain ⟨I8, M9, hi, hw⟩ := hw
    refine sc_loop (X := { x : Int // I8 x }) (fun x => ([(9, .list (List.map eGApi_Value p1.Args) .none), (10, .int .i64 (p1.Args.length : Int)), (11, .int .i64 x.1)], [])) (fun x => M9 x.1) ⟨(0 : Int), hi⟩ (weak_ren [] (by simp) (by decide) ro_nil (re_cons rfl (.pv _ (pv_lst enc_GApi_Value _ _ (by simp))) (re_cons rfl (.pv _ (.int _ _)) (re_cons rfl (.pv _ (.int _ _)) re_nil)))) ?_
    rintro ⟨v3, hi2⟩
    have hw := hw v3 hi2
    clear hi
    refine q_reg (gb_cmp rfl rfl trivial rfl hw fun v10 hw => g_endq [(9, .list (List.map eGApi_Value p1.Args) .none), (10, .int .i64 (p1.Args.length : Int)), (11, .int .i64 v3), (12, .bool v10)] rfl ?_)
    refine sc_seq ?_
    refine s_cond rfl hw (fun hw => ?_) (fun hw => ?_)
    · refine sc_skip ?_
      refine sq_n ?_
      refine sc_seq ?_
      refine sc_block ?_
      refine q_reg (g_iaddrE enc_GApi_Value (fun a11 => [.int .i64 a11.Kind, .int .i64 a11.Num, .str a11.Text, .list (List.map eGApi_Value a11.Args) .none]) cGApi_Value_eq rfl rfl hw fun a11 hw => st_load_r (v := .agg [.int .i64 a11.Kind, .int .i64 a11.Num, .str a11.Text, .list (List.map eGApi_Value a11.Args) .none]) rfl rfl (g_alloc (n := 0) rfl rfl (g_store_p (v := .agg [.int .i64 a11.Kind, .int .i64 a11.Num, .str a11.Text, .list (List.map eGApi_Value a11.Args) .none]) (h' := [.cells [.int .i64 a11.Kind, .int .i64 a11.Num, .str a11.Text, .list (List.map eGApi_Value a11.Args) .none]]) rfl rfl rfl ⟨rfl, Nat.le_of_ble_eq_true rfl, rfl⟩ rfl (g_endq [(4, .ptr 0 0), (9, .list (List.map eGApi_Value p1.Args) .none), (10, .int .i64 (p1.Args.length : Int)), (11, .int .i64 v3)] rfl ?_))))
      refine q_reg (g_load_p (v := .agg [.int .i64 a11.Kind, .int .i64 a11.Num, .str a11.Text, .list (List.map eGApi_Value a11.Args) .none]) rfl rfl rfl (k_call dh (ev_cons rfl ev_nil) rfl hw fun r12 hw => st_not rfl (g_endq [(9, .list (List.map eGApi_Value p1.Args) .none), (10, .int .i64 (p1.Args.length : Int)), (11, .int .i64 v3), (17, .bool (!r12))] rfl ?_)))
      refine s_cond rfl hw (fun hw => ?_) (fun hw => ?_)
      · refine q_reg (st_mv rfl (g_endq [(2, .bool false)] rfl ?_))
        refine sc_ret ?_
        refine bl_r ?_
        refine sq_r ?_
        refine lo_r ?_
        refine bl_r ?_
        refine sq_r ?_
        exact g_hret3 (g := fun r : Bool => .bool r) (ho := fun r : Bool => []) (vs := [.bool false]) (ws := [.bool false]) hw (.inr rfl) rfl [(0, .bool false)] [(0, .bool false)] rfl rfl rfl (weak_ren [] (by simp) (by decide) ro_nil (re_cons rfl (.pv _ (.bool _)) re_nil)) rfl
      · refine sc_skip ?_
        refine bl_n ?_
        refine sq_n ?_
        refine s_reg (g_add rfl rfl hw fun v13 hw => st_mv rfl (g_end [(9, .list (List.map eGApi_Value p1.Args) .none), (10, .int .i64 (p1.Args.length : Int)), (11, .int .i64 v13)] rfl ?_))
        exact lo_n ⟨v13, hw.1⟩ hw.2 (weak_ren [] (by simp) (by decide) ro_nil (re_cons rfl (.pv _ (pv_lst enc_GApi_Value _ _ (by simp))) (re_cons rfl (.pv _ (.int _ _)) (re_cons rfl (.pv _ (.int _ _)) re_nil))))
    · refine sc_exit ?_
      refine sq_x ?_
      refine lo_x ?_
      refine bl_x ?_
      refine sq_n ?_
      refine q_reg (st_mv rfl (g_endq [(2, .bool true)] rfl ?_))
      refine sc_ret ?_
      exact g_hret3 (g := fun r : Bool => .bool r) (ho := fun r : Bool => []) (vs := [.bool true]) (ws := [.bool true]) hw (.inr rfl) rfl [(0, .bool true)] [(0, .bool true)] rfl rfl rfl (WeakF.of (Weak.sub (sub_cons rfl (.inl rfl) sub_nil))) rfl
def hc86 : C := (.seq (.reg [oo 4 (.mv (.t 0)), oo 5 (.mv (.t 1)), oo 6 (.len true (.t 5)), oo 7 (.conv (.int .u64) (.t 6)), co 8 (.call 50 [(.t 4), (.t 7)])] [0, 1]) (.reg [oo 9 (.mv (.t 0)), oo 10 (.mv (.t 0)), oo 11 (.nilck (.t 10)), oo 12 (.faddr 0 1 (.t 11)), oo 13 (.load none (.t 12)), oo 14 (.mv (.t 1)), oo 15 (.append 1 1 (.t 13) (.t 14)), oo 16 (.nilck (.t 9)), oo 17 (.faddr 0 1 (.t 16)), os (.store 1 (.t 17) (.t 15))] []))
def ha86 : Ann := ⟨[], [50], [(0, [0, 1]), (1, [])], []⟩
theorem hk86 : comp Try.prog ha86 Try.f86.ntmps Try.f86.code = some hc86 := by kernel_rfl
def w86 (p1 : GValue_writer) (p2 : List UInt8) (Q : GValue_writer → Prop) : Prop :=
  ∀ v3 : Int, v3 = IntKind.wrap .u64 (p2.length : Int) → ∃ r4 : GValue_writer, sp50 (GValue_writer.mk p1.f_b) v3 r4 ∧ ((r4.f_b.length + p2.length) * 1 ≤ 140737488355328) ∧ ∀ v5 : List UInt8, v5 = r4.f_b ++ p2 → Q (GValue_writer.mk v5)
theorem ok86 (p1 : GValue_writer) (p2 : List UInt8) (r : GValue_writer) (hw : w86 p1 p2 fun r' => r' = r) : sp86 p1 p2 r := by
  refine p_hfunc2 (rs := []) Try.func86 rfl (by decide) (by kernel_rfl) (Nat.le_of_ble_eq_true rfl) hk86 ?_
  unfold w86 at hw
  show SC Try.prog Try.f86.ntmps 2 hc86 _ [(0, .ptr 0 0), (1, .str p2)] [.cells [.list (bytesOf p1.f_b) (.own 1 1 1)], .tok (1 + p1.f_b.length)]
  unfold hc86
  refine q_reg (st_mv rfl (st_mv rfl (st_slen rfl (g_conv rfl hw fun v3 hw => k_hcall hh (g2 := fun r4 : GValue_writer => .tuple []) (H2 := fun r4 : GValue_writer => [.cells [.list (bytesOf r4.f_b) (.own 1 1 1)], .tok (1 + r4.f_b.length)]) [0, 1] [0, 1] 2 0 (ev_cons rfl (ev_cons rfl ev_nil)) rfl hw rfl rfl (by decide) (by decide) (ro_cells rfl (rl_cons (.own _ _ _ _ _ rfl (pv_flat enc_byte _)) rfl rl_nil) (ro_tok rfl ro_nil)) (by simp) (ra_cons (.ptr _ _ _ rfl) (ra_cons (.pv _ (.int _ _)) ra_nil)) (fun _ => rfl) (fun _ => rfl) (fun _ => (.pv _ (.tuple _ pvn))) (fun _ => (so_skip (by decide) (so_skip (by decide) so_nil))) (fun _ => (ou_cells rfl (rl_cons (.own _ _ _ _ _ rfl (pv_flat enc_byte _)) rfl rl_nil) (ou_tok rfl ou_nil))) fun r4 hw => g_endq [(0, .ptr 0 0), (1, .str p2)] rfl ?_))))
  refine s_reg (st_mv rfl (st_mv rfl (st_nilck_p rfl (g_faddr_p rfl (g_load_p rfl rfl rfl (st_mv rfl (g_appos rfl rfl rfl hw (fun z => [.cells [.list (bytesOf r4.f_b) (.own 1 1 1)], .tok (1 + z.length)]) (fun _ => rfl) fun v5 hw => st_nilck_p rfl (g_faddr_p rfl (g_store_p (v := .list (bytesOf v5) (.own 1 1 1)) (h' := [.cells [.list (bytesOf v5) (.own 1 1 1)], .tok (1 + v5.length)]) rfl rfl rfl ⟨rfl, Nat.le_of_ble_eq_true rfl, rfl⟩ rfl (g_end [] rfl ?_))))))))))
  exact g_hret3 (g := fun r : GValue_writer => .tuple []) (ho := fun r : GValue_writer => [.cells [.list (bytesOf r.f_b) (.own 1 1 1)], .tok (1 + r.f_b.length)]) (vs := []) (ws := []) hw (.inl rfl) rfl [] [] rfl rfl rfl (WeakF.of (Weak.sub sub_nil)) rfl
def hc87 : C := (.seq (.reg [oo 6 (.mv (.t 0)), oo 7 (.mv (.t 1)), oo 8 (.len false (.t 7)), oo 9 (.conv (.int .u64) (.t 8)), co 10 (.call 50 [(.t 6), (.t 9)])] [0, 1]) (.seq (.reg [oo 11 (.mv (.t 1)), oo 12 (.len false (.t 11)), oo 13 (.mv (.c (.int .i64 0)))] [0, 11, 12, 13]) (.block 0 (.loop (.seq (.reg [oo 14 (.bin .lss (.t 13) (.t 12))] [0, 11, 12, 13, 14]) (.seq (.cond (.t 14) .skip (.exit 0)) (.seq (.block 1 (.seq (.reg [oo 15 (.iaddr 4 (.t 11) (.t 13)), oo 16 (.load (some 4) (.t 15)), oo 5 (.alloc none [(.int .i64 0), (.int .i64 0), (.str []), (.list [] .full)]), os (.store 4 (.t 5) (.t 16))] [0, 5, 11, 12, 13]) (.reg [oo 17 (.mv (.t 0)), oo 18 (.load (some 4) (.t 5)), co 19 (.call 41 [(.t 17), (.t 18)])] [0, 11, 12, 13]))) (.reg [oo 20 (.bin .add (.t 13) (.c (.int .i64 1))), oo 13 (.mv (.t 20))] [0, 11, 12, 13]))))))))
def ha87 : Ann := ⟨[], [41, 50], [(0, [0, 1]), (1, [0, 11, 12, 13]), (2, [0, 11, 12, 13, 14]), (3, [0, 5, 11, 12, 13]), (4, [0, 11, 12, 13]), (5, [0, 11, 12, 13])], []⟩
theorem hk87 : comp Try.prog ha87 Try.f87.ntmps Try.f87.code = some hc87 := by kernel_rfl
def w87 (p1 : GValue_writer) (p2 : List (GApi_Value)) (Q : GValue_writer → Prop) : Prop :=
  ∀ v3 : Int, v3 = IntKind.wrap .u64 (p2.length : Int) → ∃ r4 : GValue_writer, sp50 (GValue_writer.mk p1.f_b) v3 r4 ∧ ∃ (I11 : (List UInt8) → Int → Prop) (M12 : (List UInt8) → Int → Nat), I11 r4.f_b (0 : Int) ∧ ∀ (v5 : List UInt8) (v6 : Int), I11 v5 v6 → ∀ v13 : Bool, v13 = decide (v6 < (p2.length : Int)) → ((v13 = true → (0 ≤ v6 ∧ v6 < (p2.length : Int)) ∧ ∀ a14 : GApi_Value, p2[(v6 : Int).toNat]? = some a14 → ∃ r15 : GValue_writer, sp41 (GValue_writer.mk v5) (GApi_Value.mk a14.Kind a14.Num a14.Text a14.Args) r15 ∧ (-9223372036854775808 ≤ v6 + (1 : Int) ∧ v6 + (1 : Int) ≤ 9223372036854775807) ∧ ∀ v16 : Int, v16 = v6 + (1 : Int) → (I11 r15.f_b v16 ∧ M12 r15.f_b v16 < M12 v5 v6)) ∧ (v13 = false → Q (GValue_writer.mk v5)))
theorem ok87 (p1 : GValue_writer) (p2 : List (GApi_Value)) (r : GValue_writer) (hw : w87 p1 p2 fun r' => r' = r) : sp87 p1 p2 r := by
  refine p_hfunc2 (rs := []) Try.func87 rfl (by decide) (by kernel_rfl) (Nat.le_of_ble_eq_true rfl) hk87 ?_
  unfold w87 at hw
  show SC Try.prog Try.f87.ntmps 2 hc87 _ [(0, .ptr 0 0), (1, .list (List.map eGApi_Value p2) .none)] [.cells [.list (bytesOf p1.f_b) (.own 1 1 1)], .tok (1 + p1.f_b.length)]
  unfold hc87
  refine q_reg (st_mv rfl (st_mv rfl (g_len rfl (g_conv rfl hw fun v3 hw => k_hcall hh (g2 := fun r4 : GValue_writer => .tuple []) (H2 := fun r4 : GValue_writer => [.cells [.list (bytesOf r4.f_b) (.own 1 1 1)], .tok (1 + r4.f_b.length)]) [0, 1] [0, 1] 2 0 (ev_cons rfl (ev_cons rfl ev_nil)) rfl hw rfl rfl (by decide) (by decide) (ro_cells rfl (rl_cons (.own _ _ _ _ _ rfl (pv_flat enc_byte _)) rfl rl_nil) (ro_tok rfl ro_nil)) (by simp) (ra_cons (.ptr _ _ _ rfl) (ra_cons (.pv _ (.int _ _)) ra_nil)) (fun _ => rfl) (fun _ => rfl) (fun _ => (.pv _ (.tuple _ pvn))) (fun _ => (so_skip (by decide) (so_skip (by decide) so_nil))) (fun _ => (ou_cells rfl (rl_cons (.own _ _ _ _ _ rfl (pv_flat enc_byte _)) rfl rl_nil) (ou_tok rfl ou_nil))) fun r4 hw => g_endq [(0, .ptr 0 0), (1, .list (List.map eGApi_Value p2) .none)] rfl ?_))))
  refine q_reg (st_mv rfl (g_len rfl (st_mv rfl (g_endq [(0, .ptr 0 0), (11, .list (List.map eGApi_Value p2) .none), (12, .int .i64 (p2.length : Int)), (13, .int .i64 (0 : Int))] rfl ?_))))
  refine sc_block ?_
  obtain ⟨I11, M12, hi, hw⟩ := hw
  refine sc_loop (X := { x : List UInt8 × Int // I11 x.1 x.2 }) (fun x => ([(0, .ptr 0 0), (11, .list (List.map eGApi_Value p2) .none), (12, .int .i64 (p2.length : Int)), (13, .int .i64 x.1.2)], [.cells [.list (bytesOf x.1.1) (.own 1 1 1)], .tok (1 + x.1.1.length)])) (fun x => M12 x.1.1 x.1.2) ⟨(r4.f_b, (0 : Int)), hi⟩ (WeakF.of (Weak.sub (sub_cons rfl (.inl rfl) (sub_cons rfl (.inl rfl) (sub_cons rfl (.inl rfl) (sub_cons rfl (.inl rfl) sub_nil)))))) ?_
  rintro ⟨⟨v5, v6⟩, hi2⟩
  have hw := hw v5 v6 hi2
  clear hi
  refine q_reg (gb_cmp rfl rfl trivial rfl hw fun v13 hw => g_endq [(0, .ptr 0 0), (11, .list (List.map eGApi_Value p2) .none), (12, .int .i64 (p2.length : Int)), (13, .int .i64 v6), (14, .bool v13)] rfl ?_)
  refine sc_seq ?_
  refine s_cond rfl hw (fun hw => ?_) (fun hw => ?_)
  · refine sc_skip ?_
    refine sq_n ?_
    refine sc_seq ?_
    refine sc_block ?_
    refine q_reg (g_iaddrE enc_GApi_Value (fun a14 => [.int .i64 a14.Kind, .int .i64 a14.Num, .str a14.Text, .list (List.map eGApi_Value a14.Args) .none]) cGApi_Value_eq rfl rfl hw fun a14 hw => st_load_r (v := .agg [.int .i64 a14.Kind, .int .i64 a14.Num, .str a14.Text, .list (List.map eGApi_Value a14.Args) .none]) rfl rfl (g_alloc (n := 2) rfl rfl (g_store_p (v := .agg [.int .i64 a14.Kind, .int .i64 a14.Num, .str a14.Text, .list (List.map eGApi_Value a14.Args) .none]) (h' := [.cells [.list (bytesOf v5) (.own 1 1 1)], .tok (1 + v5.length), .cells [.int .i64 a14.Kind, .int .i64 a14.Num, .str a14.Text, .list (List.map eGApi_Value a14.Args) .none]]) rfl rfl rfl ⟨rfl, Nat.le_of_ble_eq_true rfl, rfl⟩ rfl (g_endq [(0, .ptr 0 0), (5, .ptr 2 0), (11, .list (List.map eGApi_Value p2) .none), (12, .int .i64 (p2.length : Int)), (13, .int .i64 v6)] rfl ?_))))
    refine s_reg (st_mv rfl (g_load_p (v := .agg [.int .i64 a14.Kind, .int .i64 a14.Num, .str a14.Text, .list (List.map eGApi_Value a14.Args) .none]) rfl rfl rfl (k_hcall hh (g2 := fun r15 : GValue_writer => .tuple []) (H2 := fun r15 : GValue_writer => [.cells [.list (bytesOf r15.f_b) (.own 1 1 1)], .tok (1 + r15.f_b.length), .cells [.int .i64 a14.Kind, .int .i64 a14.Num, .str a14.Text, .list (List.map eGApi_Value a14.Args) .none]]) [0, 1] [0, 1] 3 0 (ev_cons rfl (ev_cons rfl ev_nil)) rfl hw rfl rfl (by decide) (by decide) (ro_cells rfl (rl_cons (.own _ _ _ _ _ rfl (pv_flat enc_byte _)) rfl rl_nil) (ro_tok rfl ro_nil)) (by simp) (ra_cons (.ptr _ _ _ rfl) (ra_cons (.pv _ (.agg _ (pvc (.int _ _) (pvc (.int _ _) (pvc (.str _) (pvc (pv_lst enc_GApi_Value _ _ (by simp)) pvn)))))) ra_nil)) (fun _ => rfl) (fun _ => rfl) (fun _ => (.pv _ (.tuple _ pvn))) (fun _ => (so_skip (by decide) (so_skip (by decide) (so_same so_nil)))) (fun _ => (ou_cells rfl (rl_cons (.own _ _ _ _ _ rfl (pv_flat enc_byte _)) rfl rl_nil) (ou_tok rfl ou_nil))) fun r15 hw => g_end [(0, .ptr 0 0), (11, .list (List.map eGApi_Value p2) .none), (12, .int .i64 (p2.length : Int)), (13, .int .i64 v6)] rfl ?_)))
    refine bl_n ?_
    refine sq_n ?_
    refine s_reg (g_add rfl rfl hw fun v16 hw => st_mv rfl (g_end [(0, .ptr 0 0), (11, .list (List.map eGApi_Value p2) .none), (12, .int .i64 (p2.length : Int)), (13, .int .i64 v16)] rfl ?_))
    exact lo_n ⟨(r15.f_b, v16), hw.1⟩ hw.2 (weak_renm 2 rfl [0, 1] (by decide) (by decide) (ro_cells rfl (rl_cons (.own _ _ _ _ _ rfl (pv_flat enc_byte _)) rfl rl_nil) (ro_tok rfl ro_nil)) (re_cons rfl (.ptr _ _ _ rfl) (re_cons rfl (.pv _ (pv_lst enc_GApi_Value _ _ (by simp))) (re_cons rfl (.pv _ (.int _ _)) (re_cons rfl (.pv _ (.int _ _)) re_nil)))))
  · refine sc_exit ?_
    refine sq_x ?_
    refine lo_x ?_
    refine bl_x ?_
    exact g_hret3 (g := fun r : GValue_writer => .tuple []) (ho := fun r : GValue_writer => [.cells [.list (bytesOf r.f_b) (.own 1 1 1)], .tok (1 + r.f_b.length)]) (vs := []) (ws := []) hw (.inl rfl) rfl [] [] rfl rfl rfl (WeakF.of (Weak.sub sub_nil)) rfl
def hc88 : C := (.seq (.reg [oo 4 (.alloc none [(.int .i64 0), (.int .i64 0), (.str []), (.list [] .full)])] [0, 1, 4]) (.seq (.reg [oo 7 (.mv (.t 0)), oo 8 (.nilck (.t 7)), oo 9 (.faddr 2 1 (.t 8)), oo 10 (.load none (.t 9)), oo 11 (.bin .sub (.t 10) (.c (.int .i64 1))), oo 12 (.nilck (.t 7)), oo 13 (.faddr 2 1 (.t 12)), os (.store 1 (.t 13) (.t 11))] [0, 1, 4]) (.seq (.seq (.reg [oo 14 (.mv (.t 0)), oo 15 (.mv (.t 0)), oo 16 (.nilck (.t 15)), oo 17 (.faddr 1 1 (.t 16)), oo 18 (.load none (.t 17)), oo 19 (.mv (.t 18)), og 20 (.mv (.t 0)) 19 false, og 21 (.nilck (.t 20)) 19 false, og 22 (.faddr 2 1 (.t 21)) 19 false, og 23 (.load none (.t 22)) 19 false, og 24 (.bin .lss (.t 23) (.c (.int .i64 0))) 19 false, oo 25 (.pick (.t 19) (.c (.bool true)) (.t 24)), oo 26 (.mv (.t 25)), og 27 (.mv (.t 1)) 26 false, og 28 (.bin .gtr (.t 27) (.c (.int .i64 40))) 26 false, oo 29 (.pick (.t 26) (.c (.bool true)) (.t 28)), oo 30 (.nilck (.t 14)), oo 31 (.faddr 1 1 (.t 30)), os (.store 1 (.t 31) (.t 29))] [0, 1, 4]) (.seq (.reg [oo 32 (.mv (.t 0)), oo 33 (.nilck (.t 32)), oo 34 (.faddr 1 1 (.t 33)), oo 35 (.load none (.t 34))] [0, 1, 4, 35]) (.cond (.t 35) (.seq (.reg [oo 36 (.build [(.int .i64 0), (.int .i64 0), (.str []), (.list [] .full)] []), os (.store 4 (.t 4) (.t 36))] [4]) .ret) .skip))) (.seq (.reg [oo 37 (.mv (.t 0)), co 38 (.call 90 [(.t 37)]), oo 39 (.conv (.int .i64) (.t 38)), oo 40 (.build [(.int .i64 0), (.int .i64 0), (.str []), (.list [] .full)] [(0, 1, (.t 39))]), oo 5 (.alloc none [(.int .i64 0), (.int .i64 0), (.str []), (.list [] .full)]), os (.store 4 (.t 5) (.t 40))] [0, 1, 4, 5]) (.seq (.reg [oo 41 (.mv (.t 0)), co 42 (.call 57 [(.t 41)]), oo 43 (.faddr 1 1 (.t 5)), os (.store 1 (.t 43) (.t 42))] [0, 1, 4, 5]) (.seq (.reg [oo 44 (.mv (.t 0)), co 45 (.call 91 [(.t 44)]), oo 46 (.faddr 2 1 (.t 5)), os (.store 1 (.t 46) (.t 45))] [0, 1, 4, 5]) (.seq (.seq (.reg [oo 47 (.mv (.t 0)), co 48 (.call 56 [(.t 47), (.c (.int .i64 400))]), oo 6 (.mv (.t 48))] [0, 1, 4, 5, 6]) (.block 0 (.loop (.seq (.seq (.reg [oo 49 (.mv (.t 6)), oo 50 (.bin .gtr (.t 49) (.c (.int .i64 0))), oo 51 (.mv (.t 50)), og 52 (.mv (.t 0)) 51 true, og 53 (.nilck (.t 52)) 51 true, og 54 (.faddr 1 1 (.t 53)) 51 true, og 55 (.load none (.t 54)) 51 true, og 56 (.un .not (.t 55)) 51 true, oo 57 (.pick (.t 51) (.t 56) (.c (.bool false)))] [0, 1, 4, 5, 6, 57]) (.cond (.t 57) .skip (.exit 0))) (.seq (.block 1 (.dord [56, 57, 88, 90, 91] [[oo 60 (.faddr 3 1 (.t 5)), oo 61 (.load none (.t 60)), oo 62 (.mv (.t 0)), oo 63 (.mv (.t 1)), oo 64 (.bin .add (.t 63) (.c (.int .i64 1))), co 65 (.call 88 [(.t 62), (.t 64)]), oo 66 (.mklist 4 [(.t 65)]), oo 67 (.append 4 56 (.t 61) (.t 66)), oo 68 (.faddr 3 1 (.t 5)), os (.store 1 (.t 68) (.t 67))], [oo 60 (.faddr 3 1 (.t 5)), oo 62 (.mv (.t 0)), oo 63 (.mv (.t 1)), oo 64 (.bin .add (.t 63) (.c (.int .i64 1))), co 65 (.call 88 [(.t 62), (.t 64)]), oo 61 (.load none (.t 60)), oo 66 (.mklist 4 [(.t 65)]), oo 67 (.append 4 56 (.t 61) (.t 66)), oo 68 (.faddr 3 1 (.t 5)), os (.store 1 (.t 68) (.t 67))]] 0 [0, 1, 4, 5, 6])) (.reg [oo 58 (.mv (.t 6)), oo 59 (.bin .sub (.t 58) (.c (.int .i64 1))), oo 6 (.mv (.t 59))] [0, 1, 4, 5, 6])))))) (.seq (.reg [oo 69 (.load (some 4) (.t 5)), os (.store 4 (.t 4) (.t 69))] [4]) .ret))))))))
def ha88 : Ann := ⟨[], [56, 57, 88, 90, 91], [(0, [0, 1, 4]), (1, [0, 1, 4]), (2, [0, 1, 4]), (3, [0, 1, 4, 35]), (4, [4]), (5, [0, 1, 4, 5]), (6, [0, 1, 4, 5]), (7, [0, 1, 4, 5]), (8, [0, 1, 4, 5, 6]), (9, [0, 1, 4, 5, 6, 57]), (11, [0, 1, 4, 5, 6]), (10, [0, 1, 4, 5, 6]), (12, [4])], [(11, [(1, 5)], [[0, 1, 2, 3, 4, 5, 6, 7, 8, 9], [0, 2, 3, 4, 5, 1, 6, 7, 8, 9]])]⟩
theorem hk88 : comp Try.prog ha88 Try.f88.ntmps Try.f88.code = some hc88 := by kernel_rfl
def w88 (p1 : GValue_reader) (p2 : Int) (Q : GApi_Value × GValue_reader → Prop) : Prop :=
  (-9223372036854775808 ≤ p1.left - (1 : Int) ∧ p1.left - (1 : Int) ≤ 9223372036854775807) ∧ ∀ v3 : Int, v3 = p1.left - (1 : Int) → ∃ J5 : Bool → Prop, (((p1.bad = true → J5 true) ∧ (p1.bad = false → ((v3 < (0 : Int) → J5 true) ∧ ((0 : Int) ≤ v3 → ∀ v6 : Bool, v6 = decide (p2 > (40 : Int)) → J5 v6))))) ∧ ∀ (v4 : Bool), J5 v4 → ((v4 = true → Q ((GApi_Value.mk (0 : Int) (0 : Int) [] ([] : List GApi_Value)), (GValue_reader.mk p1.rest v4 v3))) ∧ (v4 = false → ∃ r7 : Int × GValue_reader, sp90 (GValue_reader.mk p1.rest v4 v3) r7 ∧ ∀ v8 : Int, v8 = IntKind.wrap .i64 r7.1 → ∃ r9 : Int × GValue_reader, sp57 (GValue_reader.mk r7.2.rest r7.2.bad r7.2.left) r9 ∧ ∃ r10 : List UInt8 × GValue_reader, sp91 (GValue_reader.mk r9.2.rest r9.2.bad r9.2.left) r10 ∧ ∃ r11 : Int × GValue_reader, sp56 (GValue_reader.mk r10.2.rest r10.2.bad r10.2.left) (400 : Int) r11 ∧ ∃ (I26 : (List UInt8) → Bool → Int → (List GApi_Value) → Int → Prop) (M27 : (List UInt8) → Bool → Int → (List GApi_Value) → Int → Nat), I26 r11.2.rest r11.2.bad r11.2.left ([] : List GApi_Value) r11.1 ∧ ∀ (v12 : List UInt8) (v13 : Bool) (v14 : Int) (v15 : List GApi_Value) (v16 : Int), I26 v12 v13 v14 v15 v16 → (((0 : Int) < v16 → (((!v13) = true → ∃ J32 : (List UInt8) → Bool → Int → (List GApi_Value) → Prop, ((-9223372036854775808 ≤ p2 + (1 : Int) ∧ p2 + (1 : Int) ≤ 9223372036854775807) ∧ ∀ v33 : Int, v33 = p2 + (1 : Int) → ∃ r34 : GApi_Value × GValue_reader, sp88 (GValue_reader.mk v12 v13 v14) v33 r34 ∧ ((v15.length + ([r34.1] : List GApi_Value).length) * 56 ≤ 140737488355328) ∧ ∀ v35 : List GApi_Value, v35 = v15 ++ ([r34.1] : List GApi_Value) → J32 r34.2.rest r34.2.bad r34.2.left v35) ∧ ∀ (v28 : List UInt8) (v29 : Bool) (v30 : Int) (v31 : List GApi_Value), J32 v28 v29 v30 v31 → (-9223372036854775808 ≤ v16 - (1 : Int) ∧ v16 - (1 : Int) ≤ 9223372036854775807) ∧ ∀ v36 : Int, v36 = v16 - (1 : Int) → (I26 v28 v29 v30 v31 v36 ∧ M27 v28 v29 v30 v31 v36 < M27 v12 v13 v14 v15 v16)) ∧ ((!v13) = false → Q ((GApi_Value.mk v8 r9.1 r10.1 v15), (GValue_reader.mk v12 v13 v14))))) ∧ (v16 ≤ (0 : Int) → Q ((GApi_Value.mk v8 r9.1 r10.1 v15), (GValue_reader.mk v12 v13 v14))))))
theorem ok88 (p1 : GValue_reader) (p2 : Int) (r : GApi_Value × GValue_reader) (hw : w88 p1 p2 fun r' => r' = r) : sp88 p1 p2 r := by
  refine p_hfunc2 (rs := [.c 4 (some 4)]) Try.func88 rfl (by decide) (by kernel_rfl) (Nat.le_of_ble_eq_true rfl) hk88 ?_
  unfold w88 at hw
  show SC Try.prog Try.f88.ntmps 1 hc88 _ [(0, .ptr 0 0), (1, .int .i64 p2)] [.cells [.list (bytesOf p1.rest) .none, .bool p1.bad, .int .i64 p1.left]]
  unfold hc88
  refine q_reg (g_alloc (n := 1) rfl rfl (g_endq [(0, .ptr 0 0), (1, .int .i64 p2), (4, .ptr 1 0)] rfl ?_))
  refine q_reg (st_mv rfl (st_nilck_p rfl (g_faddr_p rfl (g_load_p rfl rfl rfl (g_sub rfl rfl hw fun v3 hw => st_nilck_p rfl (g_faddr_p rfl (g_store_p (v := .int .i64 v3) (h' := [.cells [.list (bytesOf p1.rest) .none, .bool p1.bad, .int .i64 v3], .cells [.int .i64 (0 : Int), .int .i64 (0 : Int), .str [], .list [] .full]]) rfl rfl rfl ⟨rfl, Nat.le_of_ble_eq_true rfl, rfl⟩ rfl (g_endq [(0, .ptr 0 0), (1, .int .i64 p2), (4, .ptr 1 0)] rfl ?_))))))))
  refine sc_seq ?_
  obtain ⟨J5, hw, hk⟩ := hw
  refine sc_join (A := Bool) (fun x => J5 x) (fun x => ([(0, .ptr 0 0), (1, .int .i64 p2), (4, .ptr 1 0)], [.cells [.list (bytesOf p1.rest) .none, .bool x, .int .i64 v3], .cells [.int .i64 (0 : Int), .int .i64 (0 : Int), .str [], .list [] .full]])) ?_ ?_
  · rintro v4 hj
    have hw := hk v4 hj
    clear hk hj
    refine q_reg (st_mv rfl (st_nilck_p rfl (g_faddr_p rfl (g_load_p rfl rfl rfl (g_endq [(0, .ptr 0 0), (1, .int .i64 p2), (4, .ptr 1 0), (35, .bool v4)] rfl ?_)))))
    refine s_cond rfl hw (fun hw => ?_) (fun hw => ?_)
    · refine q_reg (g_build (cs := [.int .i64 (0 : Int), .int .i64 (0 : Int), .str [], .list (List.map eGApi_Value ([] : List GApi_Value)) .full]) ep_nil rfl (g_store_p (v := .agg [.int .i64 (0 : Int), .int .i64 (0 : Int), .str [], .list (List.map eGApi_Value ([] : List GApi_Value)) .full]) (h' := [.cells [.list (bytesOf p1.rest) .none, .bool v4, .int .i64 v3], .cells [.int .i64 (0 : Int), .int .i64 (0 : Int), .str [], .list (List.map eGApi_Value ([] : List GApi_Value)) .full]]) rfl rfl rfl ⟨rfl, Nat.le_of_ble_eq_true rfl, rfl⟩ rfl (g_endq [(4, .ptr 1 0)] rfl ?_)))
      refine sc_ret ?_
      refine sq_r ?_
      exact g_hret3 (g := fun r : GApi_Value × GValue_reader => .agg [.int .i64 r.1.Kind, .int .i64 r.1.Num, .str r.1.Text, .list (List.map eGApi_Value r.1.Args) .none]) (ho := fun r : GApi_Value × GValue_reader => [.cells [.list (bytesOf r.2.rest) .none, .bool r.2.bad, .int .i64 r.2.left]]) (vs := [.agg [.int .i64 (0 : Int), .int .i64 (0 : Int), .str [], .list (List.map eGApi_Value ([] : List GApi_Value)) .full]]) (ws := [.agg [.int .i64 (0 : Int), .int .i64 (0 : Int), .str [], .list (List.map eGApi_Value ([] : List GApi_Value)) .none]]) hw (.inr rfl) rfl [(0, .agg [.int .i64 (0 : Int), .int .i64 (0 : Int), .str [], .list (List.map eGApi_Value ([] : List GApi_Value)) .full])] [(0, .agg [.int .i64 (0 : Int), .int .i64 (0 : Int), .str [], .list (List.map eGApi_Value ([] : List GApi_Value)) .none])] rfl rfl rfl (weak_renm 1 rfl [0] (by decide) (by decide) (ro_cells rfl (rl_cons (.pv _ (pv_lst enc_byte _ _ (by simp))) rfl (rl_cons (.pv _ (.bool _)) rfl (rl_cons (.pv _ (.int _ _)) rfl rl_nil))) ro_nil) (re_cons1 rfl (.pv _ (.agg _ (pvc (.int _ _) (pvc (.int _ _) (pvc (.str _) (pvc (pv_lst enc_GApi_Value _ _ (by simp)) pvn)))))) re_nil)) rfl
    · refine sc_skip ?_
      refine sq_n ?_
      refine q_reg (st_mv rfl (k_hcall hh (g2 := fun r7 : Int × GValue_reader => .int .u8 r7.1) (H2 := fun r7 : Int × GValue_reader => [.cells [.list (bytesOf r7.2.rest) .none, .bool r7.2.bad, .int .i64 r7.2.left], .cells [.int .i64 (0 : Int), .int .i64 (0 : Int), .str [], .list [] .full]]) [0] [0] 2 0 (ev_cons rfl ev_nil) rfl hw rfl rfl (by decide) (by decide) (ro_cells rfl (rl_cons (.pv _ (pv_lst enc_byte _ _ (by simp))) rfl (rl_cons (.pv _ (.bool _)) rfl (rl_cons (.pv _ (.int _ _)) rfl rl_nil))) ro_nil) (by simp) (ra_cons (.ptr _ _ _ rfl) ra_nil) (fun _ => rfl) (fun _ => rfl) (fun _ => (.pv _ (.int _ _))) (fun _ => (so_skip (by decide) (so_same so_nil))) (fun _ => (ou_cells rfl (rl_cons (.pv _ (pv_lst enc_byte _ _ (by simp))) rfl (rl_cons (.pv _ (.bool _)) rfl (rl_cons (.pv _ (.int _ _)) rfl rl_nil))) ou_nil)) fun r7 hw => g_conv rfl hw fun v8 hw => g_build (cs := [.int .i64 v8, .int .i64 (0 : Int), .str [], .list (List.map eGApi_Value ([] : List GApi_Value)) .full]) (ep_cons rfl ep_nil) rfl (g_alloc (n := 2) rfl rfl (g_store_p (v := .agg [.int .i64 v8, .int .i64 (0 : Int), .str [], .list (List.map eGApi_Value ([] : List GApi_Value)) .full]) (h' := [.cells [.list (bytesOf r7.2.rest) .none, .bool r7.2.bad, .int .i64 r7.2.left], .cells [.int .i64 (0 : Int), .int .i64 (0 : Int), .str [], .list [] .full], .cells [.int .i64 v8, .int .i64 (0 : Int), .str [], .list (List.map eGApi_Value ([] : List GApi_Value)) .full]]) rfl rfl rfl ⟨rfl, Nat.le_of_ble_eq_true rfl, rfl⟩ rfl (g_endq [(0, .ptr 0 0), (1, .int .i64 p2), (4, .ptr 1 0), (5, .ptr 2 0)] rfl ?_)))))
      refine q_reg (st_mv rfl (k_hcall hh (g2 := fun r9 : Int × GValue_reader => .int .i64 r9.1) (H2 := fun r9 : Int × GValue_reader => [.cells [.list (bytesOf r9.2.rest) .none, .bool r9.2.bad, .int .i64 r9.2.left], .cells [.int .i64 (0 : Int), .int .i64 (0 : Int), .str [], .list [] .full], .cells [.int .i64 v8, .int .i64 (0 : Int), .str [], .list (List.map eGApi_Value ([] : List GApi_Value)) .full]]) [0] [0] 3 0 (ev_cons rfl ev_nil) rfl hw rfl rfl (by decide) (by decide) (ro_cells rfl (rl_cons (.pv _ (pv_lst enc_byte _ _ (by simp))) rfl (rl_cons (.pv _ (.bool _)) rfl (rl_cons (.pv _ (.int _ _)) rfl rl_nil))) ro_nil) (by simp) (ra_cons (.ptr _ _ _ rfl) ra_nil) (fun _ => rfl) (fun _ => rfl) (fun _ => (.pv _ (.int _ _))) (fun _ => (so_skip (by decide) (so_same (so_same so_nil)))) (fun _ => (ou_cells rfl (rl_cons (.pv _ (pv_lst enc_byte _ _ (by simp))) rfl (rl_cons (.pv _ (.bool _)) rfl (rl_cons (.pv _ (.int _ _)) rfl rl_nil))) ou_nil)) fun r9 hw => g_faddr_p rfl (g_store_p (v := .int .i64 r9.1) (h' := [.cells [.list (bytesOf r9.2.rest) .none, .bool r9.2.bad, .int .i64 r9.2.left], .cells [.int .i64 (0 : Int), .int .i64 (0 : Int), .str [], .list [] .full], .cells [.int .i64 v8, .int .i64 r9.1, .str [], .list (List.map eGApi_Value ([] : List GApi_Value)) .full]]) rfl rfl rfl ⟨rfl, Nat.le_of_ble_eq_true rfl, rfl⟩ rfl (g_endq [(0, .ptr 0 0), (1, .int .i64 p2), (4, .ptr 1 0), (5, .ptr 2 0)] rfl ?_))))
      refine q_reg (st_mv rfl (k_hcall hh (g2 := fun r10 : List UInt8 × GValue_reader => .str r10.1) (H2 := fun r10 : List UInt8 × GValue_reader => [.cells [.list (bytesOf r10.2.rest) .none, .bool r10.2.bad, .int .i64 r10.2.left], .cells [.int .i64 (0 : Int), .int .i64 (0 : Int), .str [], .list [] .full], .cells [.int .i64 v8, .int .i64 r9.1, .str [], .list (List.map eGApi_Value ([] : List GApi_Value)) .full]]) [0] [0] 3 0 (ev_cons rfl ev_nil) rfl hw rfl rfl (by decide) (by decide) (ro_cells rfl (rl_cons (.pv _ (pv_lst enc_byte _ _ (by simp))) rfl (rl_cons (.pv _ (.bool _)) rfl (rl_cons (.pv _ (.int _ _)) rfl rl_nil))) ro_nil) (by simp) (ra_cons (.ptr _ _ _ rfl) ra_nil) (fun _ => rfl) (fun _ => rfl) (fun _ => (.pv _ (.str _))) (fun _ => (so_skip (by decide) (so_same (so_same so_nil)))) (fun _ => (ou_cells rfl (rl_cons (.pv _ (pv_lst enc_byte _ _ (by simp))) rfl (rl_cons (.pv _ (.bool _)) rfl (rl_cons (.pv _ (.int _ _)) rfl rl_nil))) ou_nil)) fun r10 hw => g_faddr_p rfl (g_store_p (v := .str r10.1) (h' := [.cells [.list (bytesOf r10.2.rest) .none, .bool r10.2.bad, .int .i64 r10.2.left], .cells [.int .i64 (0 : Int), .int .i64 (0 : Int), .str [], .list [] .full], .cells [.int .i64 v8, .int .i64 r9.1, .str r10.1, .list (List.map eGApi_Value ([] : List GApi_Value)) .full]]) rfl rfl rfl ⟨rfl, Nat.le_of_ble_eq_true rfl, rfl⟩ rfl (g_endq [(0, .ptr 0 0), (1, .int .i64 p2), (4, .ptr 1 0), (5, .ptr 2 0)] rfl ?_))))
      refine sc_seq ?_
      refine q_reg (st_mv rfl (k_hcall hh (g2 := fun r11 : Int × GValue_reader => .int .i64 r11.1) (H2 := fun r11 : Int × GValue_reader => [.cells [.list (bytesOf r11.2.rest) .none, .bool r11.2.bad, .int .i64 r11.2.left], .cells [.int .i64 (0 : Int), .int .i64 (0 : Int), .str [], .list [] .full], .cells [.int .i64 v8, .int .i64 r9.1, .str r10.1, .list (List.map eGApi_Value ([] : List GApi_Value)) .full]]) [0] [0] 3 0 (ev_cons rfl (ev_cons rfl ev_nil)) rfl hw rfl rfl (by decide) (by decide) (ro_cells rfl (rl_cons (.pv _ (pv_lst enc_byte _ _ (by simp))) rfl (rl_cons (.pv _ (.bool _)) rfl (rl_cons (.pv _ (.int _ _)) rfl rl_nil))) ro_nil) (by simp) (ra_cons (.ptr _ _ _ rfl) (ra_cons (.pv _ (.int _ _)) ra_nil)) (fun _ => rfl) (fun _ => rfl) (fun _ => (.pv _ (.int _ _))) (fun _ => (so_skip (by decide) (so_same (so_same so_nil)))) (fun _ => (ou_cells rfl (rl_cons (.pv _ (pv_lst enc_byte _ _ (by simp))) rfl (rl_cons (.pv _ (.bool _)) rfl (rl_cons (.pv _ (.int _ _)) rfl rl_nil))) ou_nil)) fun r11 hw => st_mv rfl (g_endq [(0, .ptr 0 0), (1, .int .i64 p2), (4, .ptr 1 0), (5, .ptr 2 0), (6, .int .i64 r11.1)] rfl ?_)))
      refine sc_block ?_
      obtain ⟨I26, M27, hi, hw⟩ := hw
      refine sc_loop (X := { x : List UInt8 × Bool × Int × List GApi_Value × Int // I26 x.1 x.2.1 x.2.2.1 x.2.2.2.1 x.2.2.2.2 }) (fun x => ([(0, .ptr 0 0), (1, .int .i64 p2), (4, .ptr 1 0), (5, .ptr 2 0), (6, .int .i64 x.1.2.2.2.2)], [.cells [.list (bytesOf x.1.1) .none, .bool x.1.2.1, .int .i64 x.1.2.2.1], .cells [.int .i64 (0 : Int), .int .i64 (0 : Int), .str [], .list [] .full], .cells [.int .i64 v8, .int .i64 r9.1, .str r10.1, .list (List.map eGApi_Value x.1.2.2.2.1) (.own 3 1 4)], .tok (1 + x.1.2.2.2.1.length)])) (fun x => M27 x.1.1 x.1.2.1 x.1.2.2.1 x.1.2.2.2.1 x.1.2.2.2.2) ⟨(r11.2.rest, r11.2.bad, r11.2.left, ([] : List GApi_Value), r11.1), hi⟩ ((w_acc_cell (l := ([] : List GApi_Value)) (f := _) 2 3 4 (n := 3) (h' := [.cells [.list (bytesOf r11.2.rest) .none, .bool r11.2.bad, .int .i64 r11.2.left], .cells [.int .i64 (0 : Int), .int .i64 (0 : Int), .str [], .list [] .full], .cells [.int .i64 v8, .int .i64 r9.1, .str r10.1, .list (List.map eGApi_Value ([] : List GApi_Value)) (.own 3 1 4)], .tok (1 + ([] : List GApi_Value).length)]) rfl enc_GApi_Value rfl rfl rfl).trans (WeakF.of (Weak.sub (sub_cons rfl (.inl rfl) (sub_cons rfl (.inl rfl) (sub_cons rfl (.inl rfl) (sub_cons rfl (.inl rfl) (sub_cons rfl (.inl rfl) sub_nil)))))))) ?_
      rintro ⟨⟨v12, v13, v14, v15, v16⟩, hi2⟩
      have hw := hw v12 v13 v14 v15 v16 hi2
      clear hi
      refine sc_seq ?_
      refine q_reg (st_mv rfl (g_gtr rfl rfl hw (fun hw => st_mv rfl (st_g rfl (st_mv rfl (st_g rfl (st_nilck_p rfl (st_g rfl (g_faddr_p rfl (st_g rfl (g_load_p rfl rfl rfl (st_g rfl (st_not rfl (st_pick_t rfl rfl rfl (g_endq [(0, .ptr 0 0), (1, .int .i64 p2), (4, .ptr 1 0), (5, .ptr 2 0), (6, .int .i64 v16), (57, .bool (!v13))] rfl ?_))))))))))))) (fun hw => st_mv rfl (st_gft rfl (st_gft rfl (st_gft rfl (st_gft rfl (st_gft rfl (st_pick_f rfl rfl rfl (g_endq [(0, .ptr 0 0), (1, .int .i64 p2), (4, .ptr 1 0), (5, .ptr 2 0), (6, .int .i64 v16), (57, .bool false)] rfl ?_))))))))))
      · refine s_cond rfl hw (fun hw => ?_) (fun hw => ?_)
        · refine sc_skip ?_
          refine sq_n ?_
          obtain ⟨J32, hw, hk⟩ := hw
          refine sc_join (A := List UInt8 × Bool × Int × List GApi_Value) (fun x => J32 x.1 x.2.1 x.2.2.1 x.2.2.2) (fun x => ([(0, .ptr 0 0), (1, .int .i64 p2), (4, .ptr 1 0), (5, .ptr 2 0), (6, .int .i64 v16)], [.cells [.list (bytesOf x.1) .none, .bool x.2.1, .int .i64 x.2.2.1], .cells [.int .i64 (0 : Int), .int .i64 (0 : Int), .str [], .list [] .full], .cells [.int .i64 v8, .int .i64 r9.1, .str r10.1, .list (List.map eGApi_Value x.2.2.2) (.own 3 1 4)], .tok (1 + x.2.2.2.length)])) ?_ ?_
          · rintro ⟨v28, v29, v30, v31⟩ hj
            have hw := hk v28 v29 v30 v31 hj
            clear hk hj
            refine s_reg (st_mv rfl (g_sub rfl rfl hw fun v36 hw => st_mv rfl (g_end [(0, .ptr 0 0), (1, .int .i64 p2), (4, .ptr 1 0), (5, .ptr 2 0), (6, .int .i64 v36)] rfl ?_)))
            exact lo_n ⟨(v28, v29, v30, v31, v36), hw.1⟩ hw.2 (WeakF.of (Weak.sub (sub_cons rfl (.inl rfl) (sub_cons rfl (.inl rfl) (sub_cons rfl (.inl rfl) (sub_cons rfl (.inl rfl) (sub_cons rfl (.inl rfl) sub_nil)))))))
          · clear hk
            refine sc_block ?_
            refine s_dord Try.mixed rfl rfl ⟨?_, ?_, trivial⟩
            · refine g_faddr_p rfl (g_load_p rfl rfl rfl (st_mv rfl (st_mv rfl (g_add rfl rfl hw fun v33 hw => k_hcall (hm rfl) (g2 := fun r34 : GApi_Value × GValue_reader => .agg [.int .i64 r34.1.Kind, .int .i64 r34.1.Num, .str r34.1.Text, .list (List.map eGApi_Value r34.1.Args) .none]) (H2 := fun r34 : GApi_Value × GValue_reader => [.cells [.list (bytesOf r34.2.rest) .none, .bool r34.2.bad, .int .i64 r34.2.left], .cells [.int .i64 (0 : Int), .int .i64 (0 : Int), .str [], .list [] .full], .cells [.int .i64 v8, .int .i64 r9.1, .str r10.1, .list (List.map eGApi_Value v15) (.own 3 1 4)], .tok (1 + v15.length)]) [0] [0] 4 0 (ev_cons rfl (ev_cons rfl ev_nil)) rfl hw rfl rfl (by decide) (by decide) (ro_cells rfl (rl_cons (.pv _ (pv_lst enc_byte _ _ (by simp))) rfl (rl_cons (.pv _ (.bool _)) rfl (rl_cons (.pv _ (.int _ _)) rfl rl_nil))) ro_nil) (by simp) (ra_cons (.ptr _ _ _ rfl) (ra_cons (.pv _ (.int _ _)) ra_nil)) (fun _ => rfl) (fun _ => rfl) (fun _ => (.pv _ (.agg _ (pvc (.int _ _) (pvc (.int _ _) (pvc (.str _) (pvc (pv_lst enc_GApi_Value _ _ (by simp)) pvn))))))) (fun _ => (so_skip (by decide) (so_same (so_same (so_same so_nil))))) (fun _ => (ou_cells rfl (rl_cons (.pv _ (pv_lst enc_byte _ _ (by simp))) rfl (rl_cons (.pv _ (.bool _)) rfl (rl_cons (.pv _ (.int _ _)) rfl rl_nil))) ou_nil)) fun r34 hw => g_mkl enc_GApi_Value [r34.1] (ev_cons rfl ev_nil) (mk_cons (eGApi_Value_eq _).symm mk_nil) (mkc ⟨rfl, rfl⟩ mkn) (g_appo enc_GApi_Value rfl rfl rfl hw (fun z => [.cells [.list (bytesOf r34.2.rest) .none, .bool r34.2.bad, .int .i64 r34.2.left], .cells [.int .i64 (0 : Int), .int .i64 (0 : Int), .str [], .list [] .full], .cells [.int .i64 v8, .int .i64 r9.1, .str r10.1, .list (List.map eGApi_Value v15) (.own 3 1 4)], .tok (1 + z.length)]) (fun _ => rfl) fun v35 hw => g_faddr_p rfl (g_store_p (v := .list (List.map eGApi_Value v35) (.own 3 1 4)) (h' := [.cells [.list (bytesOf r34.2.rest) .none, .bool r34.2.bad, .int .i64 r34.2.left], .cells [.int .i64 (0 : Int), .int .i64 (0 : Int), .str [], .list [] .full], .cells [.int .i64 v8, .int .i64 r9.1, .str r10.1, .list (List.map eGApi_Value v35) (.own 3 1 4)], .tok (1 + v35.length)]) rfl rfl rfl ⟨rfl, Nat.le_of_ble_eq_true rfl, rfl⟩ rfl (g_end [(0, .ptr 0 0), (1, .int .i64 p2), (4, .ptr 1 0), (5, .ptr 2 0), (6, .int .i64 v16)] rfl ?_)))))))
              refine bl_n ?_
              exact jo_n (r34.2.rest, r34.2.bad, r34.2.left, v35) hw (WeakF.of (Weak.sub (sub_cons rfl (.inl rfl) (sub_cons rfl (.inl rfl) (sub_cons rfl (.inl rfl) (sub_cons rfl (.inl rfl) (sub_cons rfl (.inl rfl) sub_nil)))))))
            · refine g_faddr_p rfl (st_mv rfl (st_mv rfl (g_add rfl rfl hw fun v33 hw => k_hcall (hm rfl) (g2 := fun r34 : GApi_Value × GValue_reader => .agg [.int .i64 r34.1.Kind, .int .i64 r34.1.Num, .str r34.1.Text, .list (List.map eGApi_Value r34.1.Args) .none]) (H2 := fun r34 : GApi_Value × GValue_reader => [.cells [.list (bytesOf r34.2.rest) .none, .bool r34.2.bad, .int .i64 r34.2.left], .cells [.int .i64 (0 : Int), .int .i64 (0 : Int), .str [], .list [] .full], .cells [.int .i64 v8, .int .i64 r9.1, .str r10.1, .list (List.map eGApi_Value v15) (.own 3 1 4)], .tok (1 + v15.length)]) [0] [0] 4 0 (ev_cons rfl (ev_cons rfl ev_nil)) rfl hw rfl rfl (by decide) (by decide) (ro_cells rfl (rl_cons (.pv _ (pv_lst enc_byte _ _ (by simp))) rfl (rl_cons (.pv _ (.bool _)) rfl (rl_cons (.pv _ (.int _ _)) rfl rl_nil))) ro_nil) (by simp) (ra_cons (.ptr _ _ _ rfl) (ra_cons (.pv _ (.int _ _)) ra_nil)) (fun _ => rfl) (fun _ => rfl) (fun _ => (.pv _ (.agg _ (pvc (.int _ _) (pvc (.int _ _) (pvc (.str _) (pvc (pv_lst enc_GApi_Value _ _ (by simp)) pvn))))))) (fun _ => (so_skip (by decide) (so_same (so_same (so_same so_nil))))) (fun _ => (ou_cells rfl (rl_cons (.pv _ (pv_lst enc_byte _ _ (by simp))) rfl (rl_cons (.pv _ (.bool _)) rfl (rl_cons (.pv _ (.int _ _)) rfl rl_nil))) ou_nil)) fun r34 hw => g_load_p rfl rfl rfl (g_mkl enc_GApi_Value [r34.1] (ev_cons rfl ev_nil) (mk_cons (eGApi_Value_eq _).symm mk_nil) (mkc ⟨rfl, rfl⟩ mkn) (g_appo enc_GApi_Value rfl rfl rfl hw (fun z => [.cells [.list (bytesOf r34.2.rest) .none, .bool r34.2.bad, .int .i64 r34.2.left], .cells [.int .i64 (0 : Int), .int .i64 (0 : Int), .str [], .list [] .full], .cells [.int .i64 v8, .int .i64 r9.1, .str r10.1, .list (List.map eGApi_Value v15) (.own 3 1 4)], .tok (1 + z.length)]) (fun _ => rfl) fun v35 hw => g_faddr_p rfl (g_store_p (v := .list (List.map eGApi_Value v35) (.own 3 1 4)) (h' := [.cells [.list (bytesOf r34.2.rest) .none, .bool r34.2.bad, .int .i64 r34.2.left], .cells [.int .i64 (0 : Int), .int .i64 (0 : Int), .str [], .list [] .full], .cells [.int .i64 v8, .int .i64 r9.1, .str r10.1, .list (List.map eGApi_Value v35) (.own 3 1 4)], .tok (1 + v35.length)]) rfl rfl rfl ⟨rfl, Nat.le_of_ble_eq_true rfl, rfl⟩ rfl (g_end [(0, .ptr 0 0), (1, .int .i64 p2), (4, .ptr 1 0), (5, .ptr 2 0), (6, .int .i64 v16)] rfl ?_)))))))
              refine bl_n ?_
              exact jo_n (r34.2.rest, r34.2.bad, r34.2.left, v35) hw (WeakF.of (Weak.sub (sub_cons rfl (.inl rfl) (sub_cons rfl (.inl rfl) (sub_cons rfl (.inl rfl) (sub_cons rfl (.inl rfl) (sub_cons rfl (.inl rfl) sub_nil)))))))
        · refine sc_exit ?_
          refine sq_x ?_
          refine lo_x ?_
          refine bl_x ?_
          refine sq_n ?_
          refine q_reg (g_load_p (v := .agg [.int .i64 v8, .int .i64 r9.1, .str r10.1, .list (List.map eGApi_Value v15) (.own 3 1 4)]) rfl rfl rfl (g_store_p (v := .agg [.int .i64 v8, .int .i64 r9.1, .str r10.1, .list (List.map eGApi_Value v15) (.own 3 1 4)]) (h' := [.cells [.list (bytesOf v12) .none, .bool v13, .int .i64 v14], .cells [.int .i64 v8, .int .i64 r9.1, .str r10.1, .list (List.map eGApi_Value v15) (.own 3 1 4)], .cells [.int .i64 v8, .int .i64 r9.1, .str r10.1, .list (List.map eGApi_Value v15) (.own 3 1 4)], .tok (1 + v15.length)]) rfl rfl rfl ⟨rfl, Nat.le_of_ble_eq_true rfl, rfl⟩ rfl (g_endq [(4, .ptr 1 0)] rfl ?_)))
          refine sc_ret ?_
          exact g_hret3 (g := fun r : GApi_Value × GValue_reader => .agg [.int .i64 r.1.Kind, .int .i64 r.1.Num, .str r.1.Text, .list (List.map eGApi_Value r.1.Args) .none]) (ho := fun r : GApi_Value × GValue_reader => [.cells [.list (bytesOf r.2.rest) .none, .bool r.2.bad, .int .i64 r.2.left]]) (vs := [.agg [.int .i64 v8, .int .i64 r9.1, .str r10.1, .list (List.map eGApi_Value v15) (.own 3 1 4)]]) (ws := [.agg [.int .i64 v8, .int .i64 r9.1, .str r10.1, .list (List.map eGApi_Value v15) .none]]) hw (.inr rfl) rfl [(0, .agg [.int .i64 v8, .int .i64 r9.1, .str r10.1, .list (List.map eGApi_Value v15) (.own 3 1 4)])] [(0, .agg [.int .i64 v8, .int .i64 r9.1, .str r10.1, .list (List.map eGApi_Value v15) .none])] rfl rfl rfl (weak_renm 1 rfl [0] (by decide) (by decide) (ro_cells rfl (rl_cons (.pv _ (pv_lst enc_byte _ _ (by simp))) rfl (rl_cons (.pv _ (.bool _)) rfl (rl_cons (.pv _ (.int _ _)) rfl rl_nil))) ro_nil) (re_cons1 rfl (.pv _ (.agg _ (pvc (.int _ _) (pvc (.int _ _) (pvc (.str _) (pvc (pv_lst enc_GApi_Value _ _ (by simp)) pvn)))))) re_nil)) rfl
      · refine s_cond_f rfl ?_
        refine sc_exit ?_
        refine sq_x ?_
        refine lo_x ?_
        refine bl_x ?_
        refine sq_n ?_
        refine q_reg (g_load_p (v := .agg [.int .i64 v8, .int .i64 r9.1, .str r10.1, .list (List.map eGApi_Value v15) (.own 3 1 4)]) rfl rfl rfl (g_store_p (v := .agg [.int .i64 v8, .int .i64 r9.1, .str r10.1, .list (List.map eGApi_Value v15) (.own 3 1 4)]) (h' := [.cells [.list (bytesOf v12) .none, .bool v13, .int .i64 v14], .cells [.int .i64 v8, .int .i64 r9.1, .str r10.1, .list (List.map eGApi_Value v15) (.own 3 1 4)], .cells [.int .i64 v8, .int .i64 r9.1, .str r10.1, .list (List.map eGApi_Value v15) (.own 3 1 4)], .tok (1 + v15.length)]) rfl rfl rfl ⟨rfl, Nat.le_of_ble_eq_true rfl, rfl⟩ rfl (g_endq [(4, .ptr 1 0)] rfl ?_)))
        refine sc_ret ?_
        exact g_hret3 (g := fun r : GApi_Value × GValue_reader => .agg [.int .i64 r.1.Kind, .int .i64 r.1.Num, .str r.1.Text, .list (List.map eGApi_Value r.1.Args) .none]) (ho := fun r : GApi_Value × GValue_reader => [.cells [.list (bytesOf r.2.rest) .none, .bool r.2.bad, .int .i64 r.2.left]]) (vs := [.agg [.int .i64 v8, .int .i64 r9.1, .str r10.1, .list (List.map eGApi_Value v15) (.own 3 1 4)]]) (ws := [.agg [.int .i64 v8, .int .i64 r9.1, .str r10.1, .list (List.map eGApi_Value v15) .none]]) hw (.inr rfl) rfl [(0, .agg [.int .i64 v8, .int .i64 r9.1, .str r10.1, .list (List.map eGApi_Value v15) (.own 3 1 4)])] [(0, .agg [.int .i64 v8, .int .i64 r9.1, .str r10.1, .list (List.map eGApi_Value v15) .none])] rfl rfl rfl (weak_renm 1 rfl [0] (by decide) (by decide) (ro_cells rfl (rl_cons (.pv _ (pv_lst enc_byte _ _ (by simp))) rfl (rl_cons (.pv _ (.bool _)) rfl (rl_cons (.pv _ (.int _ _)) rfl rl_nil))) ro_nil) (re_cons1 rfl (.pv _ (.agg _ (pvc (.int _ _) (pvc (.int _ _) (pvc (.str _) (pvc (pv_lst enc_GApi_Value _ _ (by simp)) pvn)))))) re_nil)) rfl
  · clear hk
    refine s_reg (st_mv rfl (st_mv rfl (st_nilck_p rfl (g_faddr_p rfl (g_load_p rfl rfl rfl (st_mv rfl (g_split rfl hw ?_ ?_)))))))
    · intro c hw
      rw [c]
      refine st_gtf rfl (st_gtf rfl (st_gtf rfl (st_gtf rfl (st_gtf rfl (st_pick_t rfl rfl rfl (st_mv rfl (st_gtf rfl (st_gtf rfl (st_pick_t rfl rfl rfl (st_nilck_p rfl (g_faddr_p rfl (g_store_p (v := .bool true) (h' := [.cells [.list (bytesOf p1.rest) .none, .bool true, .int .i64 v3], .cells [.int .i64 (0 : Int), .int .i64 (0 : Int), .str [], .list [] .full]]) rfl rfl rfl ⟨rfl, Nat.le_of_ble_eq_true rfl, rfl⟩ rfl (g_end [(0, .ptr 0 0), (1, .int .i64 p2), (4, .ptr 1 0)] rfl ?_)))))))))))))
      exact jo_n true hw (WeakF.of (Weak.sub (sub_cons rfl (.inl rfl) (sub_cons rfl (.inl rfl) (sub_cons rfl (.inl rfl) sub_nil)))))
    · intro c hw
      rw [c]
      refine st_g rfl (st_mv rfl (st_g rfl (st_nilck_p rfl (st_g rfl (g_faddr_p rfl (st_g rfl (g_load_p rfl rfl rfl (st_g rfl (g_lss rfl rfl hw (fun hw => st_pick_f rfl rfl rfl (st_mv rfl (st_gtf rfl (st_gtf rfl (st_pick_t rfl rfl rfl (st_nilck_p rfl (g_faddr_p rfl (g_store_p (v := .bool true) (h' := [.cells [.list (bytesOf p1.rest) .none, .bool true, .int .i64 v3], .cells [.int .i64 (0 : Int), .int .i64 (0 : Int), .str [], .list [] .full]]) rfl rfl rfl ⟨rfl, Nat.le_of_ble_eq_true rfl, rfl⟩ rfl (g_end [(0, .ptr 0 0), (1, .int .i64 p2), (4, .ptr 1 0)] rfl ?_))))))))) (fun hw => st_pick_f rfl rfl rfl (st_mv rfl (st_g rfl (st_mv rfl (st_g rfl (gb_cmp rfl rfl trivial rfl hw fun v6 hw => st_pick_f rfl rfl rfl (st_nilck_p rfl (g_faddr_p rfl (g_store_p (v := .bool v6) (h' := [.cells [.list (bytesOf p1.rest) .none, .bool v6, .int .i64 v3], .cells [.int .i64 (0 : Int), .int .i64 (0 : Int), .str [], .list [] .full]]) rfl rfl rfl ⟨rfl, Nat.le_of_ble_eq_true rfl, rfl⟩ rfl (g_end [(0, .ptr 0 0), (1, .int .i64 p2), (4, .ptr 1 0)] rfl ?_)))))))))))))))))))
      · exact jo_n true hw (WeakF.of (Weak.sub (sub_cons rfl (.inl rfl) (sub_cons rfl (.inl rfl) (sub_cons rfl (.inl rfl) sub_nil)))))
      · exact jo_n v6 hw (WeakF.of (Weak.sub (sub_cons rfl (.inl rfl) (sub_cons rfl (.inl rfl) (sub_cons rfl (.inl rfl) sub_nil)))))
def hc90 : C := (.seq (.reg [oo 2 (.mv (.c (.int .u8 0)))] [0]) (.seq (.seq (.reg [oo 4 (.mv (.t 0)), oo 5 (.nilck (.t 4)), oo 6 (.faddr 0 1 (.t 5)), oo 7 (.load none (.t 6)), oo 8 (.len false (.t 7)), oo 9 (.eqv false .int (.t 8) (.c (.int .i64 0)))] [0, 9]) (.cond (.t 9) (.seq (.reg [oo 10 (.mv (.t 0)), oo 11 (.nilck (.t 10)), oo 12 (.faddr 1 1 (.t 11)), os (.store 1 (.t 12) (.c (.bool true)))] []) (.seq (.reg [oo 2 (.mv (.c (.int .u8 0)))] [2]) .ret)) .skip)) (.seq (.reg [oo 13 (.mv (.t 0)), oo 14 (.nilck (.t 13)), oo 15 (.faddr 0 1 (.t 14)), oo 16 (.load none (.t 15)), oo 17 (.iaddr 1 (.t 16) (.c (.int .i64 0))), oo 18 (.load none (.t 17)), oo 3 (.mv (.t 18))] [0, 3]) (.seq (.reg [oo 19 (.mv (.t 0)), oo 20 (.mv (.t 0)), oo 21 (.nilck (.t 20)), oo 22 (.faddr 0 1 (.t 21)), oo 23 (.load none (.t 22)), oo 24 (.slice 1 (.t 23) (some (.c (.int .i64 1))) none none), oo 25 (.nilck (.t 19)), oo 26 (.faddr 0 1 (.t 25)), os (.store 1 (.t 26) (.t 24))] [3]) (.seq (.reg [oo 27 (.mv (.t 3)), oo 2 (.mv (.t 27))] [2]) .ret)))))
def ha90 : Ann := ⟨[], [], [(0, [0]), (1, [0, 9]), (2, []), (3, [2]), (4, [0, 3]), (5, [3]), (6, [2])], []⟩
theorem hk90 : comp Try.prog ha90 Try.f90.ntmps Try.f90.code = some hc90 := by kernel_rfl
def w90 (p1 : GValue_reader) (Q : Int × GValue_reader → Prop) : Prop :=
  (((p1.rest.length : Int) = (0 : Int) → Q ((0 : Int), (GValue_reader.mk p1.rest true p1.left))) ∧ ((p1.rest.length : Int) ≠ (0 : Int) → (0 ≤ (0 : Int) ∧ (0 : Int) < (p1.rest.length : Int)) ∧ ∀ a2 : UInt8, p1.rest[((0 : Int) : Int).toNat]? = some a2 → (0 ≤ (1 : Int) ∧ (1 : Int) ≤ (p1.rest.length : Int) ∧ (p1.rest.length : Int) ≤ (p1.rest.length : Int)) ∧ ∀ v3 : List UInt8, v3 = (p1.rest.take ((p1.rest.length : Int) : Int).toNat).drop ((1 : Int) : Int).toNat → Q ((a2.toNat : Int), (GValue_reader.mk v3 p1.bad p1.left))))
theorem ok90 (p1 : GValue_reader) (r : Int × GValue_reader) (hw : w90 p1 fun r' => r' = r) : sp90 p1 r := by
  refine p_hfunc2 (rs := [.t 2]) Try.func90 rfl (by decide) (by kernel_rfl) (Nat.le_of_ble_eq_true rfl) hk90 ?_
  unfold w90 at hw
  show SC Try.prog Try.f90.ntmps 1 hc90 _ [(0, .ptr 0 0)] [.cells [.list (bytesOf p1.rest) .none, .bool p1.bad, .int .i64 p1.left]]
  unfold hc90
  refine q_reg (st_mv rfl (g_endq [(0, .ptr 0 0)] rfl ?_))
  refine sc_seq ?_
  refine q_reg (st_mv rfl (st_nilck_p rfl (g_faddr_p rfl (g_load_p rfl rfl rfl (g_len rfl (g_eqi rfl rfl hw (fun hw => g_endq [(0, .ptr 0 0), (9, .bool true)] rfl ?_) (fun hw => g_endq [(0, .ptr 0 0), (9, .bool false)] rfl ?_)))))))
  · refine s_cond_t rfl ?_
    refine q_reg (st_mv rfl (st_nilck_p rfl (g_faddr_p rfl (g_store_p (v := .bool true) (h' := [.cells [.list (bytesOf p1.rest) .none, .bool true, .int .i64 p1.left]]) rfl rfl rfl ⟨rfl, Nat.le_of_ble_eq_true rfl, rfl⟩ rfl (g_endq [] rfl ?_)))))
    refine q_reg (st_mv rfl (g_endq [(2, .int .u8 (0 : Int))] rfl ?_))
    refine sc_ret ?_
    refine sq_r ?_
    exact g_hret3 (g := fun r : Int × GValue_reader => .int .u8 r.1) (ho := fun r : Int × GValue_reader => [.cells [.list (bytesOf r.2.rest) .none, .bool r.2.bad, .int .i64 r.2.left]]) (vs := [.int .u8 (0 : Int)]) (ws := [.int .u8 (0 : Int)]) hw (.inr rfl) rfl [(0, .int .u8 (0 : Int))] [(0, .int .u8 (0 : Int))] rfl rfl rfl (WeakF.of (Weak.sub (sub_cons rfl (.inl rfl) sub_nil))) rfl
  · refine s_cond_f rfl ?_
    refine sc_skip ?_
    refine sq_n ?_
    refine q_reg (st_mv rfl (st_nilck_p rfl (g_faddr_p rfl (g_load_p rfl rfl rfl (g_iaddr enc_byte rfl rfl hw fun a2 hw => st_load_r rfl rfl (st_mv rfl (g_endq [(0, .ptr 0 0), (3, .int .u8 (a2.toNat : Int))] rfl ?_)))))))
    refine q_reg (st_mv rfl (st_mv rfl (st_nilck_p rfl (g_faddr_p rfl (g_load_p rfl rfl rfl (g_slice enc_byte rfl (bnd_some rfl) bnd_none hw fun v3 hw => st_nilck_p rfl (g_faddr_p rfl (g_store_p (v := .list (bytesOf v3) .none) (h' := [.cells [.list (bytesOf v3) .none, .bool p1.bad, .int .i64 p1.left]]) rfl rfl rfl ⟨rfl, Nat.le_of_ble_eq_true rfl, rfl⟩ rfl (g_endq [(3, .int .u8 (a2.toNat : Int))] rfl ?_)))))))))
    refine q_reg (st_mv rfl (st_mv rfl (g_endq [(2, .int .u8 (a2.toNat : Int))] rfl ?_)))
    refine sc_ret ?_
    exact g_hret3 (g := fun r : Int × GValue_reader => .int .u8 r.1) (ho := fun r : Int × GValue_reader => [.cells [.list (bytesOf r.2.rest) .none, .bool r.2.bad, .int .i64 r.2.left]]) (vs := [.int .u8 (a2.toNat : Int)]) (ws := [.int .u8 (a2.toNat : Int)]) hw (.inr rfl) rfl [(0, .int .u8 (a2.toNat : Int))] [(0, .int .u8 (a2.toNat : Int))] rfl rfl rfl (WeakF.of (Weak.sub (sub_cons rfl (.inl rfl) sub_nil))) rfl
def hc91 : C := (.seq (.reg [oo 2 (.mv (.c (.str [])))] [0]) (.seq (.reg [oo 5 (.mv (.t 0)), co 6 (.call 56 [(.t 5), (.c (.int .i64 4000))]), oo 3 (.mv (.t 6))] [0, 3]) (.seq (.seq (.reg [oo 7 (.mv (.t 3)), oo 8 (.mv (.t 0)), oo 9 (.nilck (.t 8)), oo 10 (.faddr 0 1 (.t 9)), oo 11 (.load none (.t 10)), oo 12 (.len false (.t 11)), oo 13 (.bin .gtr (.t 7) (.t 12))] [0, 3, 13]) (.cond (.t 13) (.seq (.reg [oo 14 (.mv (.t 0)), oo 15 (.nilck (.t 14)), oo 16 (.faddr 1 1 (.t 15)), os (.store 1 (.t 16) (.c (.bool true)))] []) (.seq (.reg [oo 2 (.mv (.c (.str [])))] [2]) .ret)) .skip)) (.seq (.reg [oo 17 (.mv (.t 0)), oo 18 (.nilck (.t 17)), oo 19 (.faddr 0 1 (.t 18)), oo 20 (.load none (.t 19)), oo 21 (.mv (.t 3)), oo 22 (.slice 1 (.t 20) none (some (.t 21)) none), oo 23 (.conv .ofBytes (.t 22)), oo 4 (.mv (.t 23))] [0, 3, 4]) (.seq (.reg [oo 24 (.mv (.t 0)), oo 25 (.mv (.t 0)), oo 26 (.nilck (.t 25)), oo 27 (.faddr 0 1 (.t 26)), oo 28 (.load none (.t 27)), oo 29 (.mv (.t 3)), oo 30 (.slice 1 (.t 28) (some (.t 29)) none none), oo 31 (.nilck (.t 24)), oo 32 (.faddr 0 1 (.t 31)), os (.store 1 (.t 32) (.t 30))] [4]) (.seq (.reg [oo 33 (.mv (.t 4)), oo 2 (.mv (.t 33))] [2]) .ret))))))
def ha91 : Ann := ⟨[], [56], [(0, [0]), (1, [0, 3]), (2, [0, 3, 13]), (3, []), (4, [2]), (5, [0, 3, 4]), (6, [4]), (7, [2])], []⟩
theorem hk91 : comp Try.prog ha91 Try.f91.ntmps Try.f91.code = some hc91 := by kernel_rfl
def w91 (p1 : GValue_reader) (Q : List UInt8 × GValue_reader → Prop) : Prop :=
  ∃ r2 : Int × GValue_reader, sp56 (GValue_reader.mk p1.rest p1.bad p1.left) (4000 : Int) r2 ∧ (((r2.2.rest.length : Int) < r2.1 → Q ([], (GValue_reader.mk r2.2.rest true r2.2.left))) ∧ (r2.1 ≤ (r2.2.rest.length : Int) → (0 ≤ (0 : Int) ∧ (0 : Int) ≤ r2.1 ∧ r2.1 ≤ (r2.2.rest.length : Int)) ∧ ∀ v3 : List UInt8, v3 = (r2.2.rest.take (r2.1 : Int).toNat).drop ((0 : Int) : Int).toNat → (0 ≤ r2.1 ∧ r2.1 ≤ (r2.2.rest.length : Int) ∧ (r2.2.rest.length : Int) ≤ (r2.2.rest.length : Int)) ∧ ∀ v4 : List UInt8, v4 = (r2.2.rest.take ((r2.2.rest.length : Int) : Int).toNat).drop (r2.1 : Int).toNat → Q (v3, (GValue_reader.mk v4 r2.2.bad r2.2.left))))
theorem ok91 (p1 : GValue_reader) (r : List UInt8 × GValue_reader) (hw : w91 p1 fun r' => r' = r) : sp91 p1 r := by
  refine p_hfunc2 (rs := [.t 2]) Try.func91 rfl (by decide) (by kernel_rfl) (Nat.le_of_ble_eq_true rfl) hk91 ?_
  unfold w91 at hw
  show SC Try.prog Try.f91.ntmps 1 hc91 _ [(0, .ptr 0 0)] [.cells [.list (bytesOf p1.rest) .none, .bool p1.bad, .int .i64 p1.left]]
  unfold hc91
  refine q_reg (st_mv rfl (g_endq [(0, .ptr 0 0)] rfl ?_))
  refine q_reg (st_mv rfl (k_hcall hh (g2 := fun r2 : Int × GValue_reader => .int .i64 r2.1) (H2 := fun r2 : Int × GValue_reader => [.cells [.list (bytesOf r2.2.rest) .none, .bool r2.2.bad, .int .i64 r2.2.left]]) [0] [0] 1 0 (ev_cons rfl (ev_cons rfl ev_nil)) rfl hw rfl rfl (by decide) (by decide) (ro_cells rfl (rl_cons (.pv _ (pv_lst enc_byte _ _ (by simp))) rfl (rl_cons (.pv _ (.bool _)) rfl (rl_cons (.pv _ (.int _ _)) rfl rl_nil))) ro_nil) (by simp) (ra_cons (.ptr _ _ _ rfl) (ra_cons (.pv _ (.int _ _)) ra_nil)) (fun _ => rfl) (fun _ => rfl) (fun _ => (.pv _ (.int _ _))) (fun _ => (so_skip (by decide) so_nil)) (fun _ => (ou_cells rfl (rl_cons (.pv _ (pv_lst enc_byte _ _ (by simp))) rfl (rl_cons (.pv _ (.bool _)) rfl (rl_cons (.pv _ (.int _ _)) rfl rl_nil))) ou_nil)) fun r2 hw => st_mv rfl (g_endq [(0, .ptr 0 0), (3, .int .i64 r2.1)] rfl ?_)))
  refine sc_seq ?_
  refine q_reg (st_mv rfl (st_mv rfl (st_nilck_p rfl (g_faddr_p rfl (g_load_p rfl rfl rfl (g_len rfl (g_gtr rfl rfl hw (fun hw => g_endq [(0, .ptr 0 0), (3, .int .i64 r2.1), (13, .bool true)] rfl ?_) (fun hw => g_endq [(0, .ptr 0 0), (3, .int .i64 r2.1), (13, .bool false)] rfl ?_))))))))
  · refine s_cond_t rfl ?_
    refine q_reg (st_mv rfl (st_nilck_p rfl (g_faddr_p rfl (g_store_p (v := .bool true) (h' := [.cells [.list (bytesOf r2.2.rest) .none, .bool true, .int .i64 r2.2.left]]) rfl rfl rfl ⟨rfl, Nat.le_of_ble_eq_true rfl, rfl⟩ rfl (g_endq [] rfl ?_)))))
    refine q_reg (st_mv rfl (g_endq [(2, .str [])] rfl ?_))
    refine sc_ret ?_
    refine sq_r ?_
    exact g_hret3 (g := fun r : List UInt8 × GValue_reader => .str r.1) (ho := fun r : List UInt8 × GValue_reader => [.cells [.list (bytesOf r.2.rest) .none, .bool r.2.bad, .int .i64 r.2.left]]) (vs := [.str []]) (ws := [.str []]) hw (.inr rfl) rfl [(0, .str [])] [(0, .str [])] rfl rfl rfl (WeakF.of (Weak.sub (sub_cons rfl (.inl rfl) sub_nil))) rfl
  · refine s_cond_f rfl ?_
    refine sc_skip ?_
    refine sq_n ?_
    refine q_reg (st_mv rfl (st_nilck_p rfl (g_faddr_p rfl (g_load_p rfl rfl rfl (st_mv rfl (g_slice enc_byte rfl bnd_none (bnd_some rfl) hw fun v3 hw => st_ofbytes rfl (st_mv rfl (g_endq [(0, .ptr 0 0), (3, .int .i64 r2.1), (4, .str v3)] rfl ?_))))))))
    refine q_reg (st_mv rfl (st_mv rfl (st_nilck_p rfl (g_faddr_p rfl (g_load_p rfl rfl rfl (st_mv rfl (g_slice enc_byte rfl (bnd_some rfl) bnd_none hw fun v4 hw => st_nilck_p rfl (g_faddr_p rfl (g_store_p (v := .list (bytesOf v4) .none) (h' := [.cells [.list (bytesOf v4) .none, .bool r2.2.bad, .int .i64 r2.2.left]]) rfl rfl rfl ⟨rfl, Nat.le_of_ble_eq_true rfl, rfl⟩ rfl (g_endq [(4, .str v3)] rfl ?_))))))))))
    refine q_reg (st_mv rfl (st_mv rfl (g_endq [(2, .str v3)] rfl ?_)))
    refine sc_ret ?_
    exact g_hret3 (g := fun r : List UInt8 × GValue_reader => .str r.1) (ho := fun r : List UInt8 × GValue_reader => [.cells [.list (bytesOf r.2.rest) .none, .bool r.2.bad, .int .i64 r.2.left]]) (vs := [.str v3]) (ws := [.str v3]) hw (.inr rfl) rfl [(0, .str v3)] [(0, .str v3)] rfl rfl rfl (WeakF.of (Weak.sub (sub_cons rfl (.inl rfl) sub_nil))) rfl
def hc102 : C := (.seq (.reg [oo 1 (.box none 4 (.t 0)), oo 2 (.mv (.c (.bool false)))] [1]) (.seq (.dreg [oo 6 (.faddr 1 1 (.t 1)), oo 7 (.load none (.t 6)), oo 8 (.eqv false .int (.t 7) (.c (.int .i64 0))), oo 9 (.faddr 2 1 (.t 1)), oo 10 (.load none (.t 9)), oo 11 (.eqv false .str (.t 10) (.c (.str []))), oo 12 (.faddr 3 1 (.t 1)), oo 13 (.load none (.t 12)), oo 14 (.len false (.t 13)), oo 3 (.mv (.t 8)), oo 4 (.mv (.t 11)), oo 5 (.mv (.t 14))] [] 0 [1, 3, 4, 5]) (.seq (.seq (.reg [oo 15 (.faddr 0 1 (.t 1)), oo 16 (.load none (.t 15))] [1, 3, 4, 5, 16]) (.block 0 (.seq (.reg [oo 18 (.eqv false .int (.t 16) (.c (.int .i64 1))), oo 17 (.mv (.t 18))] [1, 3, 4, 5, 16, 17]) (.cond (.t 17) (.seq (.reg [oo 19 (.mv (.t 3)), oo 20 (.mv (.t 19)), og 21 (.mv (.t 4)) 20 true, oo 22 (.pick (.t 20) (.t 21) (.c (.bool false))), oo 23 (.mv (.t 22)), og 24 (.mv (.t 5)) 23 true, og 25 (.eqv false .int (.t 24) (.c (.int .i64 0))) 23 true, oo 26 (.pick (.t 23) (.t 25) (.c (.bool false))), oo 2 (.mv (.t 26))] [2]) .ret) (.seq (.seq (.reg [oo 28 (.eqv false .int (.t 16) (.c (.int .i64 2))), oo 27 (.mv (.t 28))] [1, 3, 4, 5, 16, 27]) (.cond (.t 27) .skip (.reg [oo 29 (.eqv false .int (.t 16) (.c (.int .i64 6))), oo 27 (.mv (.t 29))] [1, 3, 4, 5, 16, 27]))) (.cond (.t 27) (.seq (.reg [oo 30 (.mv (.t 4)), oo 31 (.mv (.t 30)), og 32 (.mv (.t 5)) 31 true, og 33 (.eqv false .int (.t 32) (.c (.int .i64 0))) 31 true, oo 34 (.pick (.t 31) (.t 33) (.c (.bool false))), oo 2 (.mv (.t 34))] [2]) .ret) (.seq (.reg [oo 36 (.eqv false .int (.t 16) (.c (.int .i64 3))), oo 35 (.mv (.t 36))] [1, 3, 4, 5, 16, 35]) (.cond (.t 35) (.seq (.reg [oo 37 (.mv (.t 3)), oo 38 (.mv (.t 37)), og 39 (.faddr 1 1 (.t 1)) 38 false, og 40 (.load none (.t 39)) 38 false, og 41 (.eqv false .int (.t 40) (.c (.int .i64 1))) 38 false, oo 42 (.pick (.t 38) (.c (.bool true)) (.t 41)), oo 43 (.mv (.t 42)), og 44 (.mv (.t 4)) 43 true, oo 45 (.pick (.t 43) (.t 44) (.c (.bool false))), oo 46 (.mv (.t 45)), og 47 (.mv (.t 5)) 46 true, og 48 (.eqv false .int (.t 47) (.c (.int .i64 0))) 46 true, oo 49 (.pick (.t 46) (.t 48) (.c (.bool false))), oo 2 (.mv (.t 49))] [2]) .ret) (.seq (.reg [oo 51 (.eqv false .int (.t 16) (.c (.int .i64 4))), oo 50 (.mv (.t 51))] [3, 4, 5, 16, 50]) (.cond (.t 50) (.seq (.reg [oo 52 (.mv (.t 3)), oo 53 (.mv (.t 52)), og 54 (.mv (.t 5)) 53 true, og 55 (.eqv false .int (.t 54) (.c (.int .i64 0))) 53 true, oo 56 (.pick (.t 53) (.t 55) (.c (.bool false))), oo 2 (.mv (.t 56))] [2]) .ret) (.seq (.reg [oo 58 (.eqv false .int (.t 16) (.c (.int .i64 5))), oo 57 (.mv (.t 58))] [3, 4, 5, 16, 57]) (.cond (.t 57) (.seq (.reg [oo 59 (.mv (.t 3)), oo 60 (.mv (.t 59)), og 61 (.mv (.t 4)) 60 true, og 62 (.un .not (.t 61)) 60 true, oo 63 (.pick (.t 60) (.t 62) (.c (.bool false))), oo 2 (.mv (.t 63))] [2]) .ret) (.seq (.reg [oo 65 (.eqv false .int (.t 16) (.c (.int .i64 7))), oo 64 (.mv (.t 65))] [3, 4, 5, 16, 64]) (.cond (.t 64) (.seq (.reg [oo 2 (.mv (.c (.bool true)))] [2]) .ret) (.seq (.reg [oo 67 (.eqv false .int (.t 16) (.c (.int .i64 8))), oo 66 (.mv (.t 67))] [3, 4, 5, 66]) (.cond (.t 66) (.seq (.reg [oo 68 (.mv (.t 3)), oo 69 (.mv (.t 68)), og 70 (.mv (.t 4)) 69 true, oo 71 (.pick (.t 69) (.t 70) (.c (.bool false))), oo 72 (.mv (.t 71)), og 73 (.mv (.t 5)) 72 true, og 74 (.bin .leq (.t 73) (.c (.int .i64 1))) 72 true, oo 75 (.pick (.t 72) (.t 74) (.c (.bool false))), oo 2 (.mv (.t 75))] [2]) .ret) .skip)))))))))))))))) (.seq (.reg [oo 2 (.mv (.c (.bool false)))] [2]) .ret))))
def ha102 : Ann := ⟨[], [], [(0, [1]), (1, [1, 3, 4, 5]), (2, [1, 3, 4, 5, 16]), (3, [1, 3, 4, 5, 16, 17]), (4, [2]), (5, [1, 3, 4, 5, 16, 27]), (6, [1, 3, 4, 5, 16, 27]), (7, [2]), (8, [1, 3, 4, 5, 16, 35]), (9, [2]), (10, [3, 4, 5, 16, 50]), (11, [2]), (12, [3, 4, 5, 16, 57]), (13, [2]), (14, [3, 4, 5, 16, 64]), (15, [2]), (16, [3, 4, 5, 66]), (17, [2]), (18, [2])], []⟩
theorem hk102 : comp Try.prog ha102 Try.f102.ntmps Try.f102.code = some hc102 := by kernel_rfl
def w102 (p1 : GApi_Value) (Q : Bool → Prop) : Prop :=
  ∀ v2 : Bool, v2 = (if false then !(p1.Num == (0 : Int)) else (p1.Num == (0 : Int))) → ∀ v3 : Bool, v3 = (if false then !(p1.Text == []) else (p1.Text == [])) → ((p1.Kind = (1 : Int) → ((v2 = true → ((v3 = true → ∀ v4 : Bool, v4 = (if false then !((p1.Args.length : Int) == (0 : Int)) else ((p1.Args.length : Int) == (0 : Int))) → Q v4) ∧ (v3 = false → Q false))) ∧ (v2 = false → Q false))) ∧ (p1.Kind ≠ (1 : Int) → ∃ J6 : Bool → Prop, (((p1.Kind = (2 : Int) → J6 true) ∧ (p1.Kind ≠ (2 : Int) → ∀ v7 : Bool, v7 = (if false then !(p1.Kind == (6 : Int)) else (p1.Kind == (6 : Int))) → J6 v7))) ∧ ∀ (v5 : Bool), J6 v5 → ((v5 = true → ((v3 = true → ∀ v8 : Bool, v8 = (if false then !((p1.Args.length : Int) == (0 : Int)) else ((p1.Args.length : Int) == (0 : Int))) → Q v8) ∧ (v3 = false → Q false))) ∧ (v5 = false → ((p1.Kind = (3 : Int) → ((v2 = true → ((v3 = true → ∀ v9 : Bool, v9 = (if false then !((p1.Args.length : Int) == (0 : Int)) else ((p1.Args.length : Int) == (0 : Int))) → Q v9) ∧ (v3 = false → Q false))) ∧ (v2 = false → ((p1.Num = (1 : Int) → ((v3 = true → ∀ v10 : Bool, v10 = (if false then !((p1.Args.length : Int) == (0 : Int)) else ((p1.Args.length : Int) == (0 : Int))) → Q v10) ∧ (v3 = false → Q false))) ∧ (p1.Num ≠ (1 : Int) → Q false))))) ∧ (p1.Kind ≠ (3 : Int) → ((p1.Kind = (4 : Int) → ((v2 = true → ∀ v11 : Bool, v11 = (if false then !((p1.Args.length : Int) == (0 : Int)) else ((p1.Args.length : Int) == (0 : Int))) → Q v11) ∧ (v2 = false → Q false))) ∧ (p1.Kind ≠ (4 : Int) → ((p1.Kind = (5 : Int) → ((v2 = true → Q (!v3)) ∧ (v2 = false → Q false))) ∧ (p1.Kind ≠ (5 : Int) → ((p1.Kind = (7 : Int) → Q true) ∧ (p1.Kind ≠ (7 : Int) → ((p1.Kind = (8 : Int) → ((v2 = true → ((v3 = true → ∀ v12 : Bool, v12 = decide ((p1.Args.length : Int) ≤ (1 : Int)) → Q v12) ∧ (v3 = false → Q false))) ∧ (v2 = false → Q false))) ∧ (p1.Kind ≠ (8 : Int) → Q false))))))))))))))
theorem ok102 (p1 : GApi_Value) (r : Bool) (hw : w102 p1 fun r' => r' = r) : sp102 p1 r := by
  refine p_func2 (rs := [.t 2]) (g := fun r : Bool => .bool r) Try.func102 rfl (by decide) (by kernel_rfl) (Nat.le_of_ble_eq_true rfl) hk102 (pvc (.agg _ (pvc (.int _ _) (pvc (.int _ _) (pvc (.str _) (pvc (pv_lst enc_GApi_Value _ _ (by simp)) pvn))))) pvn) (.bool _) rfl ?_
  unfold w102 at hw
  show SC Try.prog Try.f102.ntmps 0 hc102 _ [(0, .agg [.int .i64 p1.Kind, .int .i64 p1.Num, .str p1.Text, .list (List.map eGApi_Value p1.Args) .none])] []
  unfold hc102
  refine q_reg (g_box (v := .agg [.int .i64 p1.Kind, .int .i64 p1.Num, .str p1.Text, .list (List.map eGApi_Value p1.Args) .none]) rfl rfl rfl (n := 0) rfl rfl (st_mv rfl (g_endq [(1, .ptr 0 0)] rfl ?_)))
  refine sc_seq ?_
  refine s_dreg Try.mixed rfl (g_faddr_p rfl (g_load_p rfl rfl rfl (gb_eqi rfl rfl hw fun v2 hw => g_faddr_p rfl (g_load_p rfl rfl rfl (gb_eqs rfl rfl hw fun v3 hw => g_faddr_p rfl (g_load_p rfl rfl rfl (g_len rfl (st_mv rfl (st_mv rfl (st_mv rfl (st_mid (g_end [(1, .ptr 0 0), (3, .bool v2), (4, .bool v3), (5, .int .i64 (p1.Args.length : Int))] rfl ?_))))))))))))
  refine sq_n ?_
  refine sc_seq ?_
  refine q_reg (g_faddr_p rfl (g_load_p rfl rfl rfl (g_endq [(1, .ptr 0 0), (3, .bool v2), (4, .bool v3), (5, .int .i64 (p1.Args.length : Int)), (16, .int .i64 p1.Kind)] rfl ?_)))
  refine sc_block ?_
  refine q_reg (g_eqi rfl rfl hw (fun hw => st_mv rfl (g_endq [(1, .ptr 0 0), (3, .bool v2), (4, .bool v3), (5, .int .i64 (p1.Args.length : Int)), (16, .int .i64 p1.Kind), (17, .bool true)] rfl ?_)) (fun hw => st_mv rfl (g_endq [(1, .ptr 0 0), (3, .bool v2), (4, .bool v3), (5, .int .i64 (p1.Args.length : Int)), (16, .int .i64 p1.Kind), (17, .bool false)] rfl ?_)))
  · refine s_cond_t rfl ?_
    refine q_reg (st_mv rfl (st_mv rfl (g_split rfl hw ?_ ?_)))
    · intro c hw
      rw [c]
      refine st_g rfl (st_mv rfl (st_pick_t rfl rfl rfl (st_mv rfl (g_split rfl hw ?_ ?_))))
      · intro c hw
        rw [c]
        refine st_g rfl (st_mv rfl (st_g rfl (gb_eqi rfl rfl hw fun v4 hw => st_pick_t rfl rfl rfl (st_mv rfl (g_endq [(2, .bool v4)] rfl ?_)))))
        refine sc_ret ?_
        refine bl_r ?_
        refine sq_r ?_
        exact g_hret3 (g := fun r : Bool => .bool r) (ho := fun r : Bool => []) (vs := [.bool v4]) (ws := [.bool v4]) hw (.inr rfl) rfl [(0, .bool v4)] [(0, .bool v4)] rfl rfl rfl (weak_ren [] (by simp) (by decide) ro_nil (re_cons rfl (.pv _ (.bool _)) re_nil)) rfl
      · intro c hw
        rw [c]
        refine st_gft rfl (st_gft rfl (st_pick_f rfl rfl rfl (st_mv rfl (g_endq [(2, .bool false)] rfl ?_))))
        refine sc_ret ?_
        refine bl_r ?_
        refine sq_r ?_
        exact g_hret3 (g := fun r : Bool => .bool r) (ho := fun r : Bool => []) (vs := [.bool false]) (ws := [.bool false]) hw (.inr rfl) rfl [(0, .bool false)] [(0, .bool false)] rfl rfl rfl (weak_ren [] (by simp) (by decide) ro_nil (re_cons rfl (.pv _ (.bool _)) re_nil)) rfl
    · intro c hw
      rw [c]
      refine st_gft rfl (st_pick_f rfl rfl rfl (st_mv rfl (st_gft rfl (st_gft rfl (st_pick_f rfl rfl rfl (st_mv rfl (g_endq [(2, .bool false)] rfl ?_)))))))
      refine sc_ret ?_
      refine bl_r ?_
      refine sq_r ?_
      exact g_hret3 (g := fun r : Bool => .bool r) (ho := fun r : Bool => []) (vs := [.bool false]) (ws := [.bool false]) hw (.inr rfl) rfl [(0, .bool false)] [(0, .bool false)] rfl rfl rfl (weak_ren [] (by simp) (by decide) ro_nil (re_cons rfl (.pv _ (.bool _)) re_nil)) rfl
  · refine s_cond_f rfl ?_
    obtain ⟨J6, hw, hk⟩ := hw
    refine sc_join (A := Bool) (fun x => J6 x) (fun x => ([(1, .ptr 0 0), (3, .bool v2), (4, .bool v3), (5, .int .i64 (p1.Args.length : Int)), (16, .int .i64 p1.Kind), (27, .bool x)], [.cells [.int .i64 p1.Kind, .int .i64 p1.Num, .str p1.Text, .list (List.map eGApi_Value p1.Args) .none]])) ?_ ?_
    · rintro v5 hj
      have hw := hk v5 hj
      clear hk hj
      refine s_cond rfl hw (fun hw => ?_) (fun hw => ?_)
      · refine q_reg (st_mv rfl (st_mv rfl (g_split rfl hw ?_ ?_)))
        · intro c hw
          rw [c]
          refine st_g rfl (st_mv rfl (st_g rfl (gb_eqi rfl rfl hw fun v8 hw => st_pick_t rfl rfl rfl (st_mv rfl (g_endq [(2, .bool v8)] rfl ?_)))))
          refine sc_ret ?_
          refine bl_r ?_
          refine sq_r ?_
          exact g_hret3 (g := fun r : Bool => .bool r) (ho := fun r : Bool => []) (vs := [.bool v8]) (ws := [.bool v8]) hw (.inr rfl) rfl [(0, .bool v8)] [(0, .bool v8)] rfl rfl rfl (weak_ren [] (by simp) (by decide) ro_nil (re_cons rfl (.pv _ (.bool _)) re_nil)) rfl
        · intro c hw
          rw [c]
          refine st_gft rfl (st_gft rfl (st_pick_f rfl rfl rfl (st_mv rfl (g_endq [(2, .bool false)] rfl ?_))))
          refine sc_ret ?_
          refine bl_r ?_
          refine sq_r ?_
          exact g_hret3 (g := fun r : Bool => .bool r) (ho := fun r : Bool => []) (vs := [.bool false]) (ws := [.bool false]) hw (.inr rfl) rfl [(0, .bool false)] [(0, .bool false)] rfl rfl rfl (weak_ren [] (by simp) (by decide) ro_nil (re_cons rfl (.pv _ (.bool _)) re_nil)) rfl
      · refine q_reg (g_eqi rfl rfl hw (fun hw => st_mv rfl (g_endq [(1, .ptr 0 0), (3, .bool v2), (4, .bool v3), (5, .int .i64 (p1.Args.length : Int)), (16, .int .i64 p1.Kind), (35, .bool true)] rfl ?_)) (fun hw => st_mv rfl (g_endq [(1, .ptr 0 0), (3, .bool v2), (4, .bool v3), (5, .int .i64 (p1.Args.length : Int)), (16, .int .i64 p1.Kind), (35, .bool false)] rfl ?_)))
        · refine s_cond_t rfl ?_
          refine q_reg (st_mv rfl (st_mv rfl (g_split rfl hw ?_ ?_)))
          · intro c hw
            rw [c]
            refine st_gtf rfl (st_gtf rfl (st_gtf rfl (st_pick_t rfl rfl rfl (st_mv rfl (st_g rfl (st_mv rfl (st_pick_t rfl rfl rfl (st_mv rfl (g_split rfl hw ?_ ?_)))))))))
            · intro c hw
              rw [c]
              refine st_g rfl (st_mv rfl (st_g rfl (gb_eqi rfl rfl hw fun v9 hw => st_pick_t rfl rfl rfl (st_mv rfl (g_endq [(2, .bool v9)] rfl ?_)))))
              refine sc_ret ?_
              refine bl_r ?_
              refine sq_r ?_
              exact g_hret3 (g := fun r : Bool => .bool r) (ho := fun r : Bool => []) (vs := [.bool v9]) (ws := [.bool v9]) hw (.inr rfl) rfl [(0, .bool v9)] [(0, .bool v9)] rfl rfl rfl (weak_ren [] (by simp) (by decide) ro_nil (re_cons rfl (.pv _ (.bool _)) re_nil)) rfl
            · intro c hw
              rw [c]
              refine st_gft rfl (st_gft rfl (st_pick_f rfl rfl rfl (st_mv rfl (g_endq [(2, .bool false)] rfl ?_))))
              refine sc_ret ?_
              refine bl_r ?_
              refine sq_r ?_
              exact g_hret3 (g := fun r : Bool => .bool r) (ho := fun r : Bool => []) (vs := [.bool false]) (ws := [.bool false]) hw (.inr rfl) rfl [(0, .bool false)] [(0, .bool false)] rfl rfl rfl (weak_ren [] (by simp) (by decide) ro_nil (re_cons rfl (.pv _ (.bool _)) re_nil)) rfl
          · intro c hw
            rw [c]
            refine st_g rfl (g_faddr_p rfl (st_g rfl (g_load_p rfl rfl rfl (st_g rfl (g_eqi rfl rfl hw (fun hw => st_pick_f rfl rfl rfl (st_mv rfl (st_g rfl (st_mv rfl (st_pick_t rfl rfl rfl (st_mv rfl (g_split rfl hw ?_ ?_))))))) (fun hw => st_pick_f rfl rfl rfl (st_mv rfl (st_gft rfl (st_pick_f rfl rfl rfl (st_mv rfl (st_gft rfl (st_gft rfl (st_pick_f rfl rfl rfl (st_mv rfl (g_endq [(2, .bool false)] rfl ?_)))))))))))))))
            · intro c hw
              rw [c]
              refine st_g rfl (st_mv rfl (st_g rfl (gb_eqi rfl rfl hw fun v10 hw => st_pick_t rfl rfl rfl (st_mv rfl (g_endq [(2, .bool v10)] rfl ?_)))))
              refine sc_ret ?_
              refine bl_r ?_
              refine sq_r ?_
              exact g_hret3 (g := fun r : Bool => .bool r) (ho := fun r : Bool => []) (vs := [.bool v10]) (ws := [.bool v10]) hw (.inr rfl) rfl [(0, .bool v10)] [(0, .bool v10)] rfl rfl rfl (weak_ren [] (by simp) (by decide) ro_nil (re_cons rfl (.pv _ (.bool _)) re_nil)) rfl
            · intro c hw
              rw [c]
              refine st_gft rfl (st_gft rfl (st_pick_f rfl rfl rfl (st_mv rfl (g_endq [(2, .bool false)] rfl ?_))))
              refine sc_ret ?_
              refine bl_r ?_
              refine sq_r ?_
              exact g_hret3 (g := fun r : Bool => .bool r) (ho := fun r : Bool => []) (vs := [.bool false]) (ws := [.bool false]) hw (.inr rfl) rfl [(0, .bool false)] [(0, .bool false)] rfl rfl rfl (weak_ren [] (by simp) (by decide) ro_nil (re_cons rfl (.pv _ (.bool _)) re_nil)) rfl
            · refine sc_ret ?_
              refine bl_r ?_
              refine sq_r ?_
              exact g_hret3 (g := fun r : Bool => .bool r) (ho := fun r : Bool => []) (vs := [.bool false]) (ws := [.bool false]) hw (.inr rfl) rfl [(0, .bool false)] [(0, .bool false)] rfl rfl rfl (weak_ren [] (by simp) (by decide) ro_nil (re_cons rfl (.pv _ (.bool _)) re_nil)) rfl
        · refine s_cond_f rfl ?_
          refine q_reg (g_eqi rfl rfl hw (fun hw => st_mv rfl (g_endq [(3, .bool v2), (4, .bool v3), (5, .int .i64 (p1.Args.length : Int)), (16, .int .i64 p1.Kind), (50, .bool true)] rfl ?_)) (fun hw => st_mv rfl (g_endq [(3, .bool v2), (4, .bool v3), (5, .int .i64 (p1.Args.length : Int)), (16, .int .i64 p1.Kind), (50, .bool false)] rfl ?_)))
          · refine s_cond_t rfl ?_
            refine q_reg (st_mv rfl (st_mv rfl (g_split rfl hw ?_ ?_)))
            · intro c hw
              rw [c]
              refine st_g rfl (st_mv rfl (st_g rfl (gb_eqi rfl rfl hw fun v11 hw => st_pick_t rfl rfl rfl (st_mv rfl (g_endq [(2, .bool v11)] rfl ?_)))))
              refine sc_ret ?_
              refine bl_r ?_
              refine sq_r ?_
              exact g_hret3 (g := fun r : Bool => .bool r) (ho := fun r : Bool => []) (vs := [.bool v11]) (ws := [.bool v11]) hw (.inr rfl) rfl [(0, .bool v11)] [(0, .bool v11)] rfl rfl rfl (weak_ren [] (by simp) (by decide) ro_nil (re_cons rfl (.pv _ (.bool _)) re_nil)) rfl
            · intro c hw
              rw [c]
              refine st_gft rfl (st_gft rfl (st_pick_f rfl rfl rfl (st_mv rfl (g_endq [(2, .bool false)] rfl ?_))))
              refine sc_ret ?_
              refine bl_r ?_
              refine sq_r ?_
              exact g_hret3 (g := fun r : Bool => .bool r) (ho := fun r : Bool => []) (vs := [.bool false]) (ws := [.bool false]) hw (.inr rfl) rfl [(0, .bool false)] [(0, .bool false)] rfl rfl rfl (weak_ren [] (by simp) (by decide) ro_nil (re_cons rfl (.pv _ (.bool _)) re_nil)) rfl
          · refine s_cond_f rfl ?_
            refine q_reg (g_eqi rfl rfl hw (fun hw => st_mv rfl (g_endq [(3, .bool v2), (4, .bool v3), (5, .int .i64 (p1.Args.length : Int)), (16, .int .i64 p1.Kind), (57, .bool true)] rfl ?_)) (fun hw => st_mv rfl (g_endq [(3, .bool v2), (4, .bool v3), (5, .int .i64 (p1.Args.length : Int)), (16, .int .i64 p1.Kind), (57, .bool false)] rfl ?_)))
            · refine s_cond_t rfl ?_
              refine q_reg (st_mv rfl (st_mv rfl (g_split rfl hw ?_ ?_)))
              · intro c hw
                rw [c]
                refine st_g rfl (st_mv rfl (st_g rfl (st_not rfl (st_pick_t rfl rfl rfl (st_mv rfl (g_endq [(2, .bool (!v3))] rfl ?_))))))
                refine sc_ret ?_
                refine bl_r ?_
                refine sq_r ?_
                exact g_hret3 (g := fun r : Bool => .bool r) (ho := fun r : Bool => []) (vs := [.bool (!v3)]) (ws := [.bool (!v3)]) hw (.inr rfl) rfl [(0, .bool (!v3))] [(0, .bool (!v3))] rfl rfl rfl (weak_ren [] (by simp) (by decide) ro_nil (re_cons rfl (.pv _ (.bool _)) re_nil)) rfl
              · intro c hw
                rw [c]
                refine st_gft rfl (st_gft rfl (st_pick_f rfl rfl rfl (st_mv rfl (g_endq [(2, .bool false)] rfl ?_))))
                refine sc_ret ?_
                refine bl_r ?_
                refine sq_r ?_
                exact g_hret3 (g := fun r : Bool => .bool r) (ho := fun r : Bool => []) (vs := [.bool false]) (ws := [.bool false]) hw (.inr rfl) rfl [(0, .bool false)] [(0, .bool false)] rfl rfl rfl (weak_ren [] (by simp) (by decide) ro_nil (re_cons rfl (.pv _ (.bool _)) re_nil)) rfl
            · refine s_cond_f rfl ?_
              refine q_reg (g_eqi rfl rfl hw (fun hw => st_mv rfl (g_endq [(3, .bool v2), (4, .bool v3), (5, .int .i64 (p1.Args.length : Int)), (16, .int .i64 p1.Kind), (64, .bool true)] rfl ?_)) (fun hw => st_mv rfl (g_endq [(3, .bool v2), (4, .bool v3), (5, .int .i64 (p1.Args.length : Int)), (16, .int .i64 p1.Kind), (64, .bool false)] rfl ?_)))
              · refine s_cond_t rfl ?_
                refine q_reg (st_mv rfl (g_endq [(2, .bool true)] rfl ?_))
                refine sc_ret ?_
                refine bl_r ?_
                refine sq_r ?_
                exact g_hret3 (g := fun r : Bool => .bool r) (ho := fun r : Bool => []) (vs := [.bool true]) (ws := [.bool true]) hw (.inr rfl) rfl [(0, .bool true)] [(0, .bool true)] rfl rfl rfl (weak_ren [] (by simp) (by decide) ro_nil (re_cons rfl (.pv _ (.bool _)) re_nil)) rfl
              · refine s_cond_f rfl ?_
                refine q_reg (g_eqi rfl rfl hw (fun hw => st_mv rfl (g_endq [(3, .bool v2), (4, .bool v3), (5, .int .i64 (p1.Args.length : Int)), (66, .bool true)] rfl ?_)) (fun hw => st_mv rfl (g_endq [(3, .bool v2), (4, .bool v3), (5, .int .i64 (p1.Args.length : Int)), (66, .bool false)] rfl ?_)))
                · refine s_cond_t rfl ?_
                  refine q_reg (st_mv rfl (st_mv rfl (g_split rfl hw ?_ ?_)))
                  · intro c hw
                    rw [c]
                    refine st_g rfl (st_mv rfl (st_pick_t rfl rfl rfl (st_mv rfl (g_split rfl hw ?_ ?_))))
                    · intro c hw
                      rw [c]
                      refine st_g rfl (st_mv rfl (st_g rfl (gb_cmp rfl rfl trivial rfl hw fun v12 hw => st_pick_t rfl rfl rfl (st_mv rfl (g_endq [(2, .bool v12)] rfl ?_)))))
                      refine sc_ret ?_
                      refine bl_r ?_
                      refine sq_r ?_
                      exact g_hret3 (g := fun r : Bool => .bool r) (ho := fun r : Bool => []) (vs := [.bool v12]) (ws := [.bool v12]) hw (.inr rfl) rfl [(0, .bool v12)] [(0, .bool v12)] rfl rfl rfl (weak_ren [] (by simp) (by decide) ro_nil (re_cons rfl (.pv _ (.bool _)) re_nil)) rfl
                    · intro c hw
                      rw [c]
                      refine st_gft rfl (st_gft rfl (st_pick_f rfl rfl rfl (st_mv rfl (g_endq [(2, .bool false)] rfl ?_))))
                      refine sc_ret ?_
                      refine bl_r ?_
                      refine sq_r ?_
                      exact g_hret3 (g := fun r : Bool => .bool r) (ho := fun r : Bool => []) (vs := [.bool false]) (ws := [.bool false]) hw (.inr rfl) rfl [(0, .bool false)] [(0, .bool false)] rfl rfl rfl (weak_ren [] (by simp) (by decide) ro_nil (re_cons rfl (.pv _ (.bool _)) re_nil)) rfl
                  · intro c hw
                    rw [c]
                    refine st_gft rfl (st_pick_f rfl rfl rfl (st_mv rfl (st_gft rfl (st_gft rfl (st_pick_f rfl rfl rfl (st_mv rfl (g_endq [(2, .bool false)] rfl ?_)))))))
                    refine sc_ret ?_
                    refine bl_r ?_
                    refine sq_r ?_
                    exact g_hret3 (g := fun r : Bool => .bool r) (ho := fun r : Bool => []) (vs := [.bool false]) (ws := [.bool false]) hw (.inr rfl) rfl [(0, .bool false)] [(0, .bool false)] rfl rfl rfl (weak_ren [] (by simp) (by decide) ro_nil (re_cons rfl (.pv _ (.bool _)) re_nil)) rfl
                · refine s_cond_f rfl ?_
                  refine sc_skip ?_
                  refine bl_n ?_
                  refine sq_n ?_
                  refine q_reg (st_mv rfl (g_endq [(2, .bool false)] rfl ?_))
                  refine sc_ret ?_
                  exact g_hret3 (g := fun r : Bool => .bool r) (ho := fun r : Bool => []) (vs := [.bool false]) (ws := [.bool false]) hw (.inr rfl) rfl [(0, .bool false)] [(0, .bool false)] rfl rfl rfl (weak_ren [] (by simp) (by decide) ro_nil (re_cons rfl (.pv _ (.bool _)) re_nil)) rfl
    · clear hk
      refine q_reg (g_eqi rfl rfl hw (fun hw => st_mv rfl (g_endq [(1, .ptr 0 0), (3, .bool v2), (4, .bool v3), (5, .int .i64 (p1.Args.length : Int)), (16, .int .i64 p1.Kind), (27, .bool true)] rfl ?_)) (fun hw => st_mv rfl (g_endq [(1, .ptr 0 0), (3, .bool v2), (4, .bool v3), (5, .int .i64 (p1.Args.length : Int)), (16, .int .i64 p1.Kind), (27, .bool false)] rfl ?_)))
      · refine s_cond_t rfl ?_
        refine sc_skip ?_
        exact jo_n true hw (WeakF.of (Weak.sub (sub_cons rfl (.inl rfl) (sub_cons rfl (.inl rfl) (sub_cons rfl (.inl rfl) (sub_cons rfl (.inl rfl) (sub_cons rfl (.inl rfl) (sub_cons rfl (.inl rfl) sub_nil))))))))
      · refine s_cond_f rfl ?_
        refine s_reg (gb_eqi rfl rfl hw fun v7 hw => st_mv rfl (g_end [(1, .ptr 0 0), (3, .bool v2), (4, .bool v3), (5, .int .i64 (p1.Args.length : Int)), (16, .int .i64 p1.Kind), (27, .bool v7)] rfl ?_))
        exact jo_n v7 hw (WeakF.of (Weak.sub (sub_cons rfl (.inl rfl) (sub_cons rfl (.inl rfl) (sub_cons rfl (.inl rfl) (sub_cons rfl (.inl rfl) (sub_cons rfl (.inl rfl) (sub_cons rfl (.inl rfl) sub_nil))))))))
end Go.Hw.VB

