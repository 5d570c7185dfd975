import Derived.Test.YtonoaimefgodfaaHwGM
import Derived.Test.YtonoaimefgodfaaHwT2
set_option linter.unusedVariables false
set_option linter.unusedSimpArgs false
namespace Go.Hw.G4
open Go Go.Proofs
structure GSolve_Pick where
  Name : List UInt8
  Version : Int
  deriving DecidableEq
def eGSolve_Pick (a : GSolve_Pick) : HV := .agg [.str a.Name, .int .i64 a.Version]
theorem enc_GSolve_Pick : Enc eGSolve_Pick 2 := ⟨fun a => (pvc (.str _) (pvc (.int _ _) pvn)), fun _ => rfl, fun _ => rfl, fun _ => rfl⟩
theorem enck_GSolve_Pick : EncK eGSolve_Pick (.agg [.s, .i]) := fun a c => by
  obtain ⟨a0, a1⟩ := a
  obtain ⟨c0, c1⟩ := c
  simp [keq, eqCells, Sc.eq, eGSolve_Pick, Bool.beq_eq_decide_eq]
structure GLock_Turn where
  Name : List UInt8
  Old : Int
  New : Int
  deriving DecidableEq
def eGLock_Turn (a : GLock_Turn) : HV := .agg [.str a.Name, .int .i64 a.Old, .int .i64 a.New]
theorem enc_GLock_Turn : Enc eGLock_Turn 3 := ⟨fun a => (pvc (.str _) (pvc (.int _ _) (pvc (.int _ _) pvn))), fun _ => rfl, fun _ => rfl, fun _ => rfl⟩
theorem enck_GLock_Turn : EncK eGLock_Turn (.agg [.s, .i, .i]) := fun a c => by
  obtain ⟨a0, a1, a2⟩ := a
  obtain ⟨c0, c1, c2⟩ := c
  simp [keq, eqCells, Sc.eq, eGLock_Turn, Bool.beq_eq_decide_eq]
abbrev sp4 (p116 : List (Int)) (p117 : List (Int)) (r : Bool) : Prop := PCall Try.prog 4 [.list (List.map (eInt .i64) p116) .none, .list (List.map (eInt .i64) p117) .none] (.bool r)
abbrev sp17 (p118 : Int) (p119 : Int) (r : Int) : Prop := PCall Try.prog 17 [.int .i64 p118, .int .i64 p119] (.int .i64 r)
abbrev sp18 (p120 : List (GSolve_Pick)) (p121 : List (GSolve_Pick)) (r : List (GLock_Turn) × Int) : Prop := PCall Try.prog 18 [.list (List.map eGSolve_Pick p120) .none, .list (List.map eGSolve_Pick p121) .none] (.tuple [.list (List.map eGLock_Turn r.1) .none, .int .i64 r.2])
abbrev sp19 (p122 : List (GLock_Turn)) (p123 : List (GLock_Turn)) (r : Bool) : Prop := PCall Try.prog 19 [.list (List.map eGLock_Turn p122) .none, .list (List.map eGLock_Turn p123) .none] (.bool r)
abbrev sp45 (p124 : List (GSolve_Pick)) (r : Int) : Prop := PCall Try.prog 45 [.list (List.map eGSolve_Pick p124) .none] (.int .i64 r)
abbrev sp62 (p125 : List UInt8) (r : Bool) : Prop := PCall Try.prog 62 [.str p125] (.bool r)
/-- roadstead/solve.Name -/
def hc62 : C := (.seq (.reg [⟨(some 2), (.op (.mv (.c (.bool false)))), none⟩] [0]) (.seq (.seq (.reg [⟨(some 5), (.op (.mv (.t 0))), none⟩, ⟨(some 6), (.op (.len true (.t 5))), none⟩, ⟨(some 7), (.op (.mv (.c (.int .i64 0)))), none⟩] [0, 6, 7]) (.block 0 (.loop (.seq (.reg [⟨(some 8), (.op (.bin .lss (.t 7) (.t 6))), none⟩] [0, 6, 7, 8]) (.seq (.cond (.t 8) .skip (.exit 0)) (.seq (.block 1 (.seq (.reg [⟨(some 9), (.op (.mv (.t 7))), none⟩, ⟨(some 3), (.op (.mv (.t 9))), none⟩] [0, 3, 6, 7]) (.seq (.reg [⟨(some 10), (.op (.mv (.t 0))), none⟩, ⟨(some 11), (.op (.mv (.t 3))), none⟩, ⟨(some 12), (.op (.index (.t 10) (.t 11))), none⟩, ⟨(some 4), (.op (.mv (.t 12))), none⟩] [0, 3, 4, 6, 7]) (.seq (.reg [⟨(some 13), (.op (.mv (.t 4))), none⟩, ⟨(some 14), (.op (.bin .lss (.t 13) (.c (.int .u8 97)))), none⟩, ⟨(some 15), (.op (.mv (.t 14))), none⟩, ⟨(some 16), (.op (.mv (.t 4))), (some (15, false))⟩, ⟨(some 17), (.op (.bin .gtr (.t 16) (.c (.int .u8 122)))), (some (15, false))⟩, ⟨(some 18), (.op (.pick (.t 15) (.c (.bool true)) (.t 17))), none⟩, ⟨(some 19), (.op (.mv (.t 18))), none⟩, ⟨(some 20), (.op (.mv (.t 3))), (some (19, true))⟩, ⟨(some 21), (.op (.eqv false .int (.t 20) (.c (.int .i64 0)))), (some (19, true))⟩, ⟨(some 22), (.op (.mv (.t 21))), (some (19, true))⟩, ⟨(some 23), (.op (.mv (.t 4))), (some (22, false))⟩, ⟨(some 24), (.op (.eqv true .int (.t 23) (.c (.int .u8 95)))), (some (22, false))⟩, ⟨(some 25), (.op (.mv (.t 24))), (some (22, false))⟩, ⟨(some 26), (.op (.mv (.t 4))), (some (25, true))⟩, ⟨(some 27), (.op (.bin .lss (.t 26) (.c (.int .u8 48)))), (some (25, true))⟩, ⟨(some 28), (.op (.mv (.t 27))), (some (25, true))⟩, ⟨(some 29), (.op (.mv (.t 4))), (some (28, false))⟩, ⟨(some 30), (.op (.bin .gtr (.t 29) (.c (.int .u8 57)))), (some (28, false))⟩, ⟨(some 31), (.op (.pick (.t 28) (.c (.bool true)) (.t 30))), (some (25, true))⟩, ⟨(some 32), (.op (.pick (.t 25) (.t 31) (.c (.bool false)))), (some (22, false))⟩, ⟨(some 33), (.op (.pick (.t 22) (.c (.bool true)) (.t 32))), (some (19, true))⟩, ⟨(some 34), (.op (.pick (.t 19) (.t 33) (.c (.bool false)))), none⟩] [0, 6, 7, 34]) (.cond (.t 34) (.seq (.reg [⟨(some 2), (.op (.mv (.c (.bool false)))), none⟩] [2]) .ret) .skip))))) (.reg [⟨(some 35), (.op (.bin .add (.t 7) (.c (.int .i64 1)))), none⟩, ⟨(some 7), (.op (.mv (.t 35))), none⟩] [0, 6, 7]))))))) (.seq (.reg [⟨(some 36), (.op (.mv (.t 0))), none⟩, ⟨(some 37), (.op (.len true (.t 36))), none⟩, ⟨(some 38), (.op (.bin .geq (.t 37) (.c (.int .i64 1)))), none⟩, ⟨(some 39), (.op (.mv (.t 38))), none⟩, ⟨(some 40), (.op (.mv (.t 0))), (some (39, true))⟩, ⟨(some 41), (.op (.len true (.t 40))), (some (39, true))⟩, ⟨(some 42), (.op (.bin .leq (.t 41) (.c (.int .i64 16)))), (some (39, true))⟩, ⟨(some 43), (.op (.pick (.t 39) (.t 42) (.c (.bool false)))), none⟩, ⟨(some 2), (.op (.mv (.t 43))), none⟩] [2]) .ret)))
def ha62 : Ann := ⟨[], [], [(0, [0]), (1, [0, 6, 7]), (2, [0, 6, 7, 8]), (3, [0, 3, 6, 7]), (4, [0, 3, 4, 6, 7]), (5, [0, 6, 7, 34]), (6, [2]), (7, [0, 6, 7]), (8, [2])]⟩
theorem hk62 : comp Try.prog ha62 Try.f62.ntmps Try.f62.code = some hc62 := by kernel_rfl
def w62 (p1 : List UInt8) (Q : Bool → Prop) : Prop :=
  ∃ (I11 : Int → Int → Prop) (M12 : Int → Int → Nat), I11 (p1.length : Int) (0 : Int) ∧ ∀ (v2 : Int) (v3 : Int), I11 v2 v3 → ∀ v13 : Bool, v13 = decide (v3 < v2) → ((v13 = true → (0 ≤ v3 ∧ v3 < (p1.length : Int)) ∧ ∀ c14 : UInt8, p1[(v3 : Int).toNat]? = some c14 → (((c14.toNat : Int) < (97 : Int) → ((v3 = (0 : Int) → Q false) ∧ (v3 ≠ (0 : Int) → (((c14.toNat : Int) ≠ (95 : Int) → (((c14.toNat : Int) < (48 : Int) → Q false) ∧ ((48 : Int) ≤ (c14.toNat : Int) → (((57 : Int) < (c14.toNat : Int) → Q false) ∧ ((c14.toNat : Int) ≤ (57 : Int) → (-9223372036854775808 ≤ v3 + (1 : Int) ∧ v3 + (1 : Int) ≤ 9223372036854775807) ∧ ∀ v15 : Int, v15 = v3 + (1 : Int) → (I11 v2 v15 ∧ M12 v2 v15 < M12 v2 v3)))))) ∧ ((c14.toNat : Int) = (95 : Int) → (-9223372036854775808 ≤ v3 + (1 : Int) ∧ v3 + (1 : Int) ≤ 9223372036854775807) ∧ ∀ v16 : Int, v16 = v3 + (1 : Int) → (I11 v2 v16 ∧ M12 v2 v16 < M12 v2 v3)))))) ∧ ((97 : Int) ≤ (c14.toNat : Int) → (((122 : Int) < (c14.toNat : Int) → ((v3 = (0 : Int) → Q false) ∧ (v3 ≠ (0 : Int) → (((c14.toNat : Int) ≠ (95 : Int) → (((c14.toNat : Int) < (48 : Int) → Q false) ∧ ((48 : Int) ≤ (c14.toNat : Int) → (((57 : Int) < (c14.toNat : Int) → Q false) ∧ ((c14.toNat : Int) ≤ (57 : Int) → (-9223372036854775808 ≤ v3 + (1 : Int) ∧ v3 + (1 : Int) ≤ 9223372036854775807) ∧ ∀ v17 : Int, v17 = v3 + (1 : Int) → (I11 v2 v17 ∧ M12 v2 v17 < M12 v2 v3)))))) ∧ ((c14.toNat : Int) = (95 : Int) → (-9223372036854775808 ≤ v3 + (1 : Int) ∧ v3 + (1 : Int) ≤ 9223372036854775807) ∧ ∀ v18 : Int, v18 = v3 + (1 : Int) → (I11 v2 v18 ∧ M12 v2 v18 < M12 v2 v3)))))) ∧ ((c14.toNat : Int) ≤ (122 : Int) → (-9223372036854775808 ≤ v3 + (1 : Int) ∧ v3 + (1 : Int) ≤ 9223372036854775807) ∧ ∀ v19 : Int, v19 = v3 + (1 : Int) → (I11 v2 v19 ∧ M12 v2 v19 < M12 v2 v3)))))) ∧ (v13 = false → (((1 : Int) ≤ (p1.length : Int) → ∀ v20 : Bool, v20 = decide ((p1.length : Int) ≤ (16 : Int)) → Q v20) ∧ ((p1.length : Int) < (1 : Int) → Q false))))
theorem ok62 (p1 : List UInt8) (r : Bool) (hw : w62 p1 fun r' => r' = r) : sp62 p1 r := by
  refine p_func (rs := [.t 2]) (g := fun r : Bool => .bool r) Try.func62 rfl (by decide) (by kernel_rfl) (Nat.le_of_ble_eq_true rfl) hk62 (pvc (.str _) pvn) (.bool _) ?_
  unfold w62 at hw
  show SC Try.prog Try.f62.ntmps 0 hc62 _ [(0, .str p1)] []
  unfold hc62
  refine sc_seq ?_
  refine s_reg (st_mv rfl (g_end [(0, .str p1)] rfl ?_))
  refine sq_n ?_
  refine sc_seq ?_
  refine sc_seq ?_
  refine s_reg (st_mv rfl (st_slen rfl (st_mv rfl (g_end [(0, .str p1), (6, .int .i64 (p1.length : Int)), (7, .int .i64 (0 : Int))] rfl ?_))))
  refine sq_n ?_
  refine sc_block ?_
  obtain ⟨I11, M12, hi, hw⟩ := hw
  refine sc_loop (X := { x : Int × Int // I11 x.1 x.2 }) (fun x => ([(0, .str p1), (6, .int .i64 x.1.1), (7, .int .i64 x.1.2)], [])) (fun x => M12 x.1.1 x.1.2) ⟨((p1.length : Int), (0 : Int)), hi⟩ (WeakF.of (Weak.sub (sub_cons rfl (.inl rfl) (sub_cons rfl (.inl rfl) (sub_cons rfl (.inl rfl) sub_nil))))) ?_
  rintro ⟨⟨v2, v3⟩, hi2⟩
  have hw := hw v2 v3 hi2
  clear hi
  refine sc_seq ?_
  refine s_reg (gb_cmp rfl rfl trivial rfl hw fun v13 hw => g_end [(0, .str p1), (6, .int .i64 v2), (7, .int .i64 v3), (8, .bool v13)] rfl ?_)
  refine sq_n ?_
  refine sc_seq ?_
  refine s_cond rfl hw (fun hw => ?_) (fun hw => ?_)
  · refine sc_skip ?_
    refine sq_n ?_
    refine sc_seq ?_
    refine sc_block ?_
    refine sc_seq ?_
    refine s_reg (st_mv rfl (st_mv rfl (g_end [(0, .str p1), (3, .int .i64 v3), (6, .int .i64 v2), (7, .int .i64 v3)] rfl ?_)))
    refine sq_n ?_
    refine sc_seq ?_
    refine s_reg (st_mv rfl (st_mv rfl (g_index rfl rfl hw fun c14 hw => st_mv rfl (g_end [(0, .str p1), (3, .int .i64 v3), (4, .int .u8 (c14.toNat : Int)), (6, .int .i64 v2), (7, .int .i64 v3)] rfl ?_))))
    refine sq_n ?_
    refine sc_seq ?_
    refine s_reg (st_mv rfl (g_lss rfl rfl hw (fun hw => st_mv rfl (st_gtf rfl (st_gtf rfl (st_pick_t rfl rfl rfl (st_mv rfl (st_g rfl (st_mv rfl (st_g rfl (g_eqi rfl rfl hw (fun hw => st_g rfl (st_mv rfl (st_gtf rfl (st_gtf rfl (st_gtf rfl (st_gu rfl (st_gu rfl (st_gu rfl (st_gu rfl (st_gu rfl (st_gu rfl (st_gtf rfl (st_g rfl (st_pick_t rfl rfl rfl (st_pick_t rfl rfl rfl (g_end [(0, .str p1), (6, .int .i64 v2), (7, .int .i64 v3), (34, .bool true)] rfl ?_)))))))))))))))) (fun hw => st_g rfl (st_mv rfl (st_g rfl (st_mv rfl (st_g rfl (g_nei rfl rfl hw (fun hw => st_g rfl (st_mv rfl (st_g rfl (st_mv rfl (st_g rfl (g_lss rfl rfl hw (fun hw => st_g rfl (st_mv rfl (st_gtf rfl (st_gtf rfl (st_g rfl (st_pick_t rfl rfl rfl (st_g rfl (st_pick_t rfl rfl rfl (st_g rfl (st_pick_f rfl rfl rfl (st_pick_t rfl rfl rfl (g_end [(0, .str p1), (6, .int .i64 v2), (7, .int .i64 v3), (34, .bool true)] rfl ?_)))))))))))) (fun hw => st_g rfl (st_mv rfl (st_g rfl (st_mv rfl (st_g rfl (g_gtr rfl rfl hw (fun hw => st_g rfl (st_pick_f rfl rfl rfl (st_g rfl (st_pick_t rfl rfl rfl (st_g rfl (st_pick_f rfl rfl rfl (st_pick_t rfl rfl rfl (g_end [(0, .str p1), (6, .int .i64 v2), (7, .int .i64 v3), (34, .bool true)] rfl ?_)))))))) (fun hw => st_g rfl (st_pick_f rfl rfl rfl (st_g rfl (st_pick_t rfl rfl rfl (st_g rfl (st_pick_f rfl rfl rfl (st_pick_t rfl rfl rfl (g_end [(0, .str p1), (6, .int .i64 v2), (7, .int .i64 v3), (34, .bool false)] rfl ?_)))))))))))))))))))) (fun hw => st_g rfl (st_mv rfl (st_gft rfl (st_gft rfl (st_gft rfl (st_gu rfl (st_gu rfl (st_gft rfl (st_g rfl (st_pick_f rfl rfl rfl (st_g rfl (st_pick_f rfl rfl rfl (st_pick_t rfl rfl rfl (g_end [(0, .str p1), (6, .int .i64 v2), (7, .int .i64 v3), (34, .bool false)] rfl ?_))))))))))))))))))))))))))))) (fun hw => st_mv rfl (st_g rfl (st_mv rfl (st_g rfl (g_gtr rfl rfl hw (fun hw => st_pick_f rfl rfl rfl (st_mv rfl (st_g rfl (st_mv rfl (st_g rfl (g_eqi rfl rfl hw (fun hw => st_g rfl (st_mv rfl (st_gtf rfl (st_gtf rfl (st_gtf rfl (st_gu rfl (st_gu rfl (st_gu rfl (st_gu rfl (st_gu rfl (st_gu rfl (st_gtf rfl (st_g rfl (st_pick_t rfl rfl rfl (st_pick_t rfl rfl rfl (g_end [(0, .str p1), (6, .int .i64 v2), (7, .int .i64 v3), (34, .bool true)] rfl ?_)))))))))))))))) (fun hw => st_g rfl (st_mv rfl (st_g rfl (st_mv rfl (st_g rfl (g_nei rfl rfl hw (fun hw => st_g rfl (st_mv rfl (st_g rfl (st_mv rfl (st_g rfl (g_lss rfl rfl hw (fun hw => st_g rfl (st_mv rfl (st_gtf rfl (st_gtf rfl (st_g rfl (st_pick_t rfl rfl rfl (st_g rfl (st_pick_t rfl rfl rfl (st_g rfl (st_pick_f rfl rfl rfl (st_pick_t rfl rfl rfl (g_end [(0, .str p1), (6, .int .i64 v2), (7, .int .i64 v3), (34, .bool true)] rfl ?_)))))))))))) (fun hw => st_g rfl (st_mv rfl (st_g rfl (st_mv rfl (st_g rfl (g_gtr rfl rfl hw (fun hw => st_g rfl (st_pick_f rfl rfl rfl (st_g rfl (st_pick_t rfl rfl rfl (st_g rfl (st_pick_f rfl rfl rfl (st_pick_t rfl rfl rfl (g_end [(0, .str p1), (6, .int .i64 v2), (7, .int .i64 v3), (34, .bool true)] rfl ?_)))))))) (fun hw => st_g rfl (st_pick_f rfl rfl rfl (st_g rfl (st_pick_t rfl rfl rfl (st_g rfl (st_pick_f rfl rfl rfl (st_pick_t rfl rfl rfl (g_end [(0, .str p1), (6, .int .i64 v2), (7, .int .i64 v3), (34, .bool false)] rfl ?_)))))))))))))))))))) (fun hw => st_g rfl (st_mv rfl (st_gft rfl (st_gft rfl (st_gft rfl (st_gu rfl (st_gu rfl (st_gft rfl (st_g rfl (st_pick_f rfl rfl rfl (st_g rfl (st_pick_f rfl rfl rfl (st_pick_t rfl rfl rfl (g_end [(0, .str p1), (6, .int .i64 v2), (7, .int .i64 v3), (34, .bool false)] rfl ?_)))))))))))))))))))))))))) (fun hw => st_pick_f rfl rfl rfl (st_mv rfl (st_gft rfl (st_gft rfl (st_gft rfl (st_gu rfl (st_gu rfl (st_gu rfl (st_gu rfl (st_gu rfl (st_gu rfl (st_gu rfl (st_gu rfl (st_gu rfl (st_gu rfl (st_gft rfl (st_pick_f rfl rfl rfl (g_end [(0, .str p1), (6, .int .i64 v2), (7, .int .i64 v3), (34, .bool false)] rfl ?_)))))))))))))))))))))))))
    · refine sq_n ?_
      refine s_cond_t rfl ?_
      refine sc_seq ?_
      refine s_reg (st_mv rfl (g_end [(2, .bool false)] rfl ?_))
      refine sq_n ?_
      refine sc_ret ?_
      refine bl_r ?_
      refine sq_r ?_
      refine lo_r ?_
      refine bl_r ?_
      refine sq_r ?_
      exact g_ret (.inr rfl) rfl false hw rfl
    · refine sq_n ?_
      refine s_cond_t rfl ?_
      refine sc_seq ?_
      refine s_reg (st_mv rfl (g_end [(2, .bool false)] rfl ?_))
      refine sq_n ?_
      refine sc_ret ?_
      refine bl_r ?_
      refine sq_r ?_
      refine lo_r ?_
      refine bl_r ?_
      refine sq_r ?_
      exact g_ret (.inr rfl) rfl false hw rfl
    · refine sq_n ?_
      refine s_cond_t rfl ?_
      refine sc_seq ?_
      refine s_reg (st_mv rfl (g_end [(2, .bool false)] rfl ?_))
      refine sq_n ?_
      refine sc_ret ?_
      refine bl_r ?_
      refine sq_r ?_
      refine lo_r ?_
      refine bl_r ?_
      refine sq_r ?_
      exact g_ret (.inr rfl) rfl false hw rfl
    · refine sq_n ?_
      refine s_cond_f rfl ?_
      refine sc_skip ?_
      refine bl_n ?_
      refine sq_n ?_
      refine s_reg (g_add rfl rfl hw fun v15 hw => st_mv rfl (g_end [(0, .str p1), (6, .int .i64 v2), (7, .int .i64 v15)] rfl ?_))
      exact lo_n ⟨(v2, v15), hw.1⟩ hw.2 (WeakF.of (Weak.sub (sub_cons rfl (.inl rfl) (sub_cons rfl (.inl rfl) (sub_cons rfl (.inl rfl) sub_nil)))))
    · refine sq_n ?_
      refine s_cond_f rfl ?_
      refine sc_skip ?_
      refine bl_n ?_
      refine sq_n ?_
      refine s_reg (g_add rfl rfl hw fun v16 hw => st_mv rfl (g_end [(0, .str p1), (6, .int .i64 v2), (7, .int .i64 v16)] rfl ?_))
      exact lo_n ⟨(v2, v16), hw.1⟩ hw.2 (WeakF.of (Weak.sub (sub_cons rfl (.inl rfl) (sub_cons rfl (.inl rfl) (sub_cons rfl (.inl rfl) sub_nil)))))
    · refine sq_n ?_
      refine s_cond_t rfl ?_
      refine sc_seq ?_
      refine s_reg (st_mv rfl (g_end [(2, .bool false)] rfl ?_))
      refine sq_n ?_
      refine sc_ret ?_
      refine bl_r ?_
      refine sq_r ?_
      refine lo_r ?_
      refine bl_r ?_
      refine sq_r ?_
      exact g_ret (.inr rfl) rfl false hw rfl
    · refine sq_n ?_
      refine s_cond_t rfl ?_
      refine sc_seq ?_
      refine s_reg (st_mv rfl (g_end [(2, .bool false)] rfl ?_))
      refine sq_n ?_
      refine sc_ret ?_
      refine bl_r ?_
      refine sq_r ?_
      refine lo_r ?_
      refine bl_r ?_
      refine sq_r ?_
      exact g_ret (.inr rfl) rfl false hw rfl
    · refine sq_n ?_
      refine s_cond_t rfl ?_
      refine sc_seq ?_
      refine s_reg (st_mv rfl (g_end [(2, .bool false)] rfl ?_))
      refine sq_n ?_
      refine sc_ret ?_
      refine bl_r ?_
      refine sq_r ?_
      refine lo_r ?_
      refine bl_r ?_
      refine sq_r ?_
      exact g_ret (.inr rfl) rfl false hw rfl
    · refine sq_n ?_
      refine s_cond_f rfl ?_
      refine sc_skip ?_
      refine bl_n ?_
      refine sq_n ?_
      refine s_reg (g_add rfl rfl hw fun v17 hw => st_mv rfl (g_end [(0, .str p1), (6, .int .i64 v2), (7, .int .i64 v17)] rfl ?_))
      exact lo_n ⟨(v2, v17), hw.1⟩ hw.2 (WeakF.of (Weak.sub (sub_cons rfl (.inl rfl) (sub_cons rfl (.inl rfl) (sub_cons rfl (.inl rfl) sub_nil)))))
    · refine sq_n ?_
      refine s_cond_f rfl ?_
      refine sc_skip ?_
      refine bl_n ?_
      refine sq_n ?_
      refine s_reg (g_add rfl rfl hw fun v18 hw => st_mv rfl (g_end [(0, .str p1), (6, .int .i64 v2), (7, .int .i64 v18)] rfl ?_))
      exact lo_n ⟨(v2, v18), hw.1⟩ hw.2 (WeakF.of (Weak.sub (sub_cons rfl (.inl rfl) (sub_cons rfl (.inl rfl) (sub_cons rfl (.inl rfl) sub_nil)))))
    · refine sq_n ?_
      refine s_cond_f rfl ?_
      refine sc_skip ?_
      refine bl_n ?_
      refine sq_n ?_
      refine s_reg (g_add rfl rfl hw fun v19 hw => st_mv rfl (g_end [(0, .str p1), (6, .int .i64 v2), (7, .int .i64 v19)] rfl ?_))
      exact lo_n ⟨(v2, v19), hw.1⟩ hw.2 (WeakF.of (Weak.sub (sub_cons rfl (.inl rfl) (sub_cons rfl (.inl rfl) (sub_cons rfl (.inl rfl) sub_nil)))))
  · refine sc_exit ?_
    refine sq_x ?_
    refine lo_x ?_
    refine bl_x ?_
    refine sq_n ?_
    refine sc_seq ?_
    refine s_reg (st_mv rfl (st_slen rfl (g_geq rfl rfl hw (fun hw => st_mv rfl (st_g rfl (st_mv rfl (st_g rfl (st_slen rfl (st_g rfl (gb_cmp rfl rfl trivial rfl hw fun v20 hw => st_pick_t rfl rfl rfl (st_mv rfl (g_end [(2, .bool v20)] rfl ?_))))))))) (fun hw => st_mv rfl (st_gft rfl (st_gft rfl (st_gft rfl (st_pick_f rfl rfl rfl (st_mv rfl (g_end [(2, .bool false)] rfl ?_))))))))))
    · refine sq_n ?_
      refine sc_ret ?_
      exact g_ret (.inr rfl) rfl v20 hw rfl
    · refine sq_n ?_
      refine sc_ret ?_
      exact g_ret (.inr rfl) rfl false hw rfl
/-- roadstead/lock.Check -/
def hc45 : C := (.seq (.reg [⟨(some 2), (.op (.mv (.c (.int .i64 0)))), none⟩] [0]) (.seq (.seq (.reg [⟨(some 5), (.op (.mv (.t 0))), none⟩, ⟨(some 6), (.op (.len false (.t 5))), none⟩, ⟨(some 7), (.op (.bin .gtr (.t 6) (.c (.int .i64 30)))), none⟩] [0, 7]) (.cond (.t 7) (.seq (.reg [⟨(some 2), (.op (.mv (.c (.int .i64 2)))), none⟩] [2]) .ret) .skip)) (.seq (.seq (.reg [⟨(some 8), (.op (.mv (.t 0))), none⟩, ⟨(some 9), (.op (.len false (.t 8))), none⟩, ⟨(some 10), (.op (.mv (.c (.int .i64 0)))), none⟩] [0, 8, 9, 10]) (.block 0 (.loop (.seq (.reg [⟨(some 11), (.op (.bin .lss (.t 10) (.t 9))), none⟩] [0, 8, 9, 10, 11]) (.seq (.cond (.t 11) .skip (.exit 0)) (.seq (.block 1 (.seq (.reg [⟨(some 12), (.op (.mv (.t 10))), none⟩, ⟨(some 13), (.op (.iaddr 2 (.t 8) (.t 10))), none⟩, ⟨(some 14), (.op (.load (some 2) (.t 13))), none⟩, ⟨(some 4), (.op (.alloc none [(.str []), (.int .i64 0)])), none⟩, ⟨(some 3), (.op (.mv (.t 12))), none⟩, ⟨none, (.op (.store 2 (.t 4) (.t 14))), none⟩] [0, 3, 4, 8, 9, 10]) (.seq (.seq (.reg [⟨(some 15), (.op (.faddr 0 1 (.t 4))), none⟩, ⟨(some 16), (.op (.load none (.t 15))), none⟩, ⟨(some 17), (.call 62 [(.t 16)]), none⟩, ⟨(some 18), (.op (.un .not (.t 17))), none⟩] [0, 3, 4, 8, 9, 10, 18]) (.cond (.t 18) (.seq (.reg [⟨(some 2), (.op (.mv (.c (.int .i64 11)))), none⟩] [2]) .ret) .skip)) (.seq (.seq (.reg [⟨(some 19), (.op (.faddr 1 1 (.t 4))), none⟩, ⟨(some 20), (.op (.load none (.t 19))), none⟩, ⟨(some 21), (.op (.bin .lss (.t 20) (.c (.int .i64 1)))), none⟩, ⟨(some 22), (.op (.mv (.t 21))), none⟩, ⟨(some 23), (.op (.faddr 1 1 (.t 4))), (some (22, false))⟩, ⟨(some 24), (.op (.load none (.t 23))), (some (22, false))⟩, ⟨(some 25), (.op (.bin .gtr (.t 24) (.c (.int .i64 9999)))), (some (22, false))⟩, ⟨(some 26), (.op (.pick (.t 22) (.c (.bool true)) (.t 25))), none⟩] [0, 3, 4, 8, 9, 10, 26]) (.cond (.t 26) (.seq (.reg [⟨(some 2), (.op (.mv (.c (.int .i64 1)))), none⟩] [2]) .ret) .skip)) (.seq (.dreg [⟨(some 27), (.op (.mv (.t 3))), none⟩, ⟨(some 28), (.op (.bin .gtr (.t 27) (.c (.int .i64 0)))), none⟩, ⟨(some 29), (.op (.mv (.t 28))), none⟩, ⟨(some 30), (.op (.mv (.t 0))), (some (29, true))⟩, ⟨(some 31), (.op (.mv (.t 3))), (some (29, true))⟩, ⟨(some 32), (.op (.bin .sub (.t 31) (.c (.int .i64 1)))), (some (29, true))⟩, ⟨(some 33), (.op (.iaddr 2 (.t 30) (.t 32))), (some (29, true))⟩, ⟨(some 34), (.op (.faddr 0 1 (.t 33))), (some (29, true))⟩, ⟨(some 35), (.op (.load none (.t 34))), (some (29, true))⟩, ⟨(some 36), (.op (.faddr 0 1 (.t 4))), (some (29, true))⟩, ⟨(some 37), (.op (.load none (.t 36))), (some (29, true))⟩, ⟨(some 38), (.op (.bin .geq (.t 35) (.t 37))), (some (29, true))⟩, ⟨(some 39), (.op (.pick (.t 29) (.t 38) (.c (.bool false)))), none⟩] [] 0 [0, 8, 9, 10, 39]) (.cond (.t 39) (.seq (.reg [⟨(some 2), (.op (.mv (.c (.int .i64 21)))), none⟩] [2]) .ret) .skip)))))) (.reg [⟨(some 40), (.op (.bin .add (.t 10) (.c (.int .i64 1)))), none⟩, ⟨(some 10), (.op (.mv (.t 40))), none⟩] [0, 8, 9, 10]))))))) (.seq (.reg [⟨(some 2), (.op (.mv (.c (.int .i64 0)))), none⟩] [2]) .ret))))
def ha45 : Ann := ⟨[], [], [(0, [0]), (1, [0, 7]), (2, [2]), (3, [0, 8, 9, 10]), (4, [0, 8, 9, 10, 11]), (5, [0, 3, 4, 8, 9, 10]), (6, [0, 3, 4, 8, 9, 10, 18]), (7, [2]), (8, [0, 3, 4, 8, 9, 10, 26]), (9, [2]), (10, [0, 8, 9, 10, 39]), (11, [2]), (12, [0, 8, 9, 10]), (13, [2])]⟩
theorem hk45 : comp Try.prog ha45 Try.f45.ntmps Try.f45.code = some hc45 := by kernel_rfl
def w45 (p1 : List (GSolve_Pick)) (Q : Int → Prop) : Prop :=
  (((30 : Int) < (p1.length : Int) → Q (2 : Int)) ∧ ((p1.length : Int) ≤ (30 : Int) → ∃ (I12 : Int → Int → Prop) (M13 : Int → Int → Nat), I12 (p1.length : Int) (0 : Int) ∧ ∀ (v2 : Int) (v3 : Int), I12 v2 v3 → ∀ v14 : Bool, v14 = decide (v3 < v2) → ((v14 = true → (0 ≤ v3 ∧ v3 < (p1.length : Int)) ∧ ∀ a15 : GSolve_Pick, p1[(v3 : Int).toNat]? = some a15 → ∃ r16 : Bool, sp62 a15.Name r16 ∧ (((!r16) = true → Q (11 : Int)) ∧ ((!r16) = false → ((a15.Version < (1 : Int) → Q (1 : Int)) ∧ ((1 : Int) ≤ a15.Version → (((9999 : Int) < a15.Version → Q (1 : Int)) ∧ (a15.Version ≤ (9999 : Int) → (((0 : Int) < v3 → (-9223372036854775808 ≤ v3 - (1 : Int) ∧ v3 - (1 : Int) ≤ 9223372036854775807) ∧ ∀ v17 : Int, v17 = v3 - (1 : Int) → (0 ≤ v17 ∧ v17 < (p1.length : Int)) ∧ ∀ a18 : GSolve_Pick, p1[(v17 : Int).toNat]? = some a18 → ∀ v19 : Bool, v19 = (!bytesLess a18.Name a15.Name) → ((v19 = true → Q (21 : Int)) ∧ (v19 = false → (-9223372036854775808 ≤ v3 + (1 : Int) ∧ v3 + (1 : Int) ≤ 9223372036854775807) ∧ ∀ v20 : Int, v20 = v3 + (1 : Int) → (I12 v2 v20 ∧ M13 v2 v20 < M13 v2 v3)))) ∧ (v3 ≤ (0 : Int) → (-9223372036854775808 ≤ v3 + (1 : Int) ∧ v3 + (1 : Int) ≤ 9223372036854775807) ∧ ∀ v21 : Int, v21 = v3 + (1 : Int) → (I12 v2 v21 ∧ M13 v2 v21 < M13 v2 v3)))))))))) ∧ (v14 = false → Q (0 : Int)))))
theorem ok45 (p1 : List (GSolve_Pick)) (r : Int) (hw : w45 p1 fun r' => r' = r) : sp45 p1 r := by
  refine p_func (rs := [.t 2]) (g := fun r : Int => .int .i64 r) Try.func45 rfl (by decide) (by kernel_rfl) (Nat.le_of_ble_eq_true rfl) hk45 (pvc ((enc_lst enc_GSolve_Pick).all _) pvn) (.int _ _) ?_
  unfold w45 at hw
  show SC Try.prog Try.f45.ntmps 0 hc45 _ [(0, .list (List.map eGSolve_Pick p1) .none)] []
  unfold hc45
  refine sc_seq ?_
  refine s_reg (st_mv rfl (g_end [(0, .list (List.map eGSolve_Pick p1) .none)] rfl ?_))
  refine sq_n ?_
  refine sc_seq ?_
  refine sc_seq ?_
  refine s_reg (st_mv rfl (g_len rfl (g_gtr rfl rfl hw (fun hw => g_end [(0, .list (List.map eGSolve_Pick p1) .none), (7, .bool true)] rfl ?_) (fun hw => g_end [(0, .list (List.map eGSolve_Pick p1) .none), (7, .bool false)] rfl ?_))))
  · refine sq_n ?_
    refine s_cond_t rfl ?_
    refine sc_seq ?_
    refine s_reg (st_mv rfl (g_end [(2, .int .i64 (2 : Int))] rfl ?_))
    refine sq_n ?_
    refine sc_ret ?_
    refine sq_r ?_
    exact g_ret (.inr rfl) rfl (2 : Int) hw rfl
  · refine sq_n ?_
    refine s_cond_f rfl ?_
    refine sc_skip ?_
    refine sq_n ?_
    refine sc_seq ?_
    refine sc_seq ?_
    refine s_reg (st_mv rfl (g_len rfl (st_mv rfl (g_end [(0, .list (List.map eGSolve_Pick p1) .none), (8, .list (List.map eGSolve_Pick p1) .none), (9, .int .i64 (p1.length : Int)), (10, .int .i64 (0 : Int))] rfl ?_))))
    refine sq_n ?_
    refine sc_block ?_
    obtain ⟨I12, M13, hi, hw⟩ := hw
    refine sc_loop (X := { x : Int × Int // I12 x.1 x.2 }) (fun x => ([(0, .list (List.map eGSolve_Pick p1) .none), (8, .list (List.map eGSolve_Pick p1) .none), (9, .int .i64 x.1.1), (10, .int .i64 x.1.2)], [])) (fun x => M13 x.1.1 x.1.2) ⟨((p1.length : Int), (0 : Int)), hi⟩ (WeakF.of (Weak.sub (sub_cons rfl (.inl rfl) (sub_cons rfl (.inl rfl) (sub_cons rfl (.inl rfl) (sub_cons rfl (.inl rfl) sub_nil)))))) ?_
    rintro ⟨⟨v2, v3⟩, hi2⟩
    have hw := hw v2 v3 hi2
    clear hi
    refine sc_seq ?_
    refine s_reg (gb_cmp rfl rfl trivial rfl hw fun v14 hw => g_end [(0, .list (List.map eGSolve_Pick p1) .none), (8, .list (List.map eGSolve_Pick p1) .none), (9, .int .i64 v2), (10, .int .i64 v3), (11, .bool v14)] rfl ?_)
    refine sq_n ?_
    refine sc_seq ?_
    refine s_cond rfl hw (fun hw => ?_) (fun hw => ?_)
    · refine sc_skip ?_
      refine sq_n ?_
      refine sc_seq ?_
      refine sc_block ?_
      refine sc_seq ?_
      refine s_reg (st_mv rfl (g_iaddr enc_GSolve_Pick rfl rfl hw fun a15 hw => st_load_r (v := .agg [.str a15.Name, .int .i64 a15.Version]) rfl rfl (g_alloc (n := 0) rfl rfl (st_mv rfl (g_store_p (v := .agg [.str a15.Name, .int .i64 a15.Version]) (h' := [.cells [.str a15.Name, .int .i64 a15.Version]]) rfl rfl rfl ⟨rfl, Nat.le_of_ble_eq_true rfl, rfl⟩ rfl (g_end [(0, .list (List.map eGSolve_Pick p1) .none), (3, .int .i64 v3), (4, .ptr 0 0), (8, .list (List.map eGSolve_Pick p1) .none), (9, .int .i64 v2), (10, .int .i64 v3)] rfl ?_))))))
      refine sq_n ?_
      refine sc_seq ?_
      refine sc_seq ?_
      refine s_reg (g_faddr_p rfl (g_load_p (v := .str a15.Name) rfl rfl rfl (g_call (ev_cons rfl ev_nil) rfl hw fun r16 hw => st_not rfl (g_end [(0, .list (List.map eGSolve_Pick p1) .none), (3, .int .i64 v3), (4, .ptr 0 0), (8, .list (List.map eGSolve_Pick p1) .none), (9, .int .i64 v2), (10, .int .i64 v3), (18, .bool (!r16))] rfl ?_))))
      refine sq_n ?_
      refine s_cond rfl hw (fun hw => ?_) (fun hw => ?_)
      · refine sc_seq ?_
        refine s_reg (st_mv rfl (g_end [(2, .int .i64 (11 : Int))] rfl ?_))
        refine sq_n ?_
        refine sc_ret ?_
        refine sq_r ?_
        refine bl_r ?_
        refine sq_r ?_
        refine lo_r ?_
        refine bl_r ?_
        refine sq_r ?_
        exact g_ret (.inr rfl) rfl (11 : Int) hw rfl
      · refine sc_skip ?_
        refine sq_n ?_
        refine sc_seq ?_
        refine sc_seq ?_
        refine s_reg (g_faddr_p rfl (g_load_p (v := .int .i64 a15.Version) rfl rfl rfl (g_lss rfl rfl hw (fun hw => st_mv rfl (st_gtf rfl (st_gtf rfl (st_gtf rfl (st_pick_t rfl rfl rfl (g_end [(0, .list (List.map eGSolve_Pick p1) .none), (3, .int .i64 v3), (4, .ptr 0 0), (8, .list (List.map eGSolve_Pick p1) .none), (9, .int .i64 v2), (10, .int .i64 v3), (26, .bool true)] rfl ?_)))))) (fun hw => st_mv rfl (st_g rfl (g_faddr_p rfl (st_g rfl (g_load_p (v := .int .i64 a15.Version) rfl rfl rfl (st_g rfl (g_gtr rfl rfl hw (fun hw => st_pick_f rfl rfl rfl (g_end [(0, .list (List.map eGSolve_Pick p1) .none), (3, .int .i64 v3), (4, .ptr 0 0), (8, .list (List.map eGSolve_Pick p1) .none), (9, .int .i64 v2), (10, .int .i64 v3), (26, .bool true)] rfl ?_)) (fun hw => st_pick_f rfl rfl rfl (g_end [(0, .list (List.map eGSolve_Pick p1) .none), (3, .int .i64 v3), (4, .ptr 0 0), (8, .list (List.map eGSolve_Pick p1) .none), (9, .int .i64 v2), (10, .int .i64 v3), (26, .bool false)] rfl ?_))))))))))))
        · refine sq_n ?_
          refine s_cond_t rfl ?_
          refine sc_seq ?_
          refine s_reg (st_mv rfl (g_end [(2, .int .i64 (1 : Int))] rfl ?_))
          refine sq_n ?_
          refine sc_ret ?_
          refine sq_r ?_
          refine bl_r ?_
          refine sq_r ?_
          refine lo_r ?_
          refine bl_r ?_
          refine sq_r ?_
          exact g_ret (.inr rfl) rfl (1 : Int) hw rfl
        · refine sq_n ?_
          refine s_cond_t rfl ?_
          refine sc_seq ?_
          refine s_reg (st_mv rfl (g_end [(2, .int .i64 (1 : Int))] rfl ?_))
          refine sq_n ?_
          refine sc_ret ?_
          refine sq_r ?_
          refine bl_r ?_
          refine sq_r ?_
          refine lo_r ?_
          refine bl_r ?_
          refine sq_r ?_
          exact g_ret (.inr rfl) rfl (1 : Int) hw rfl
        · refine sq_n ?_
          refine s_cond_f rfl ?_
          refine sc_skip ?_
          refine sq_n ?_
          refine sc_seq ?_
          refine s_dreg Try.mixed rfl (st_mv rfl (g_gtr rfl rfl hw (fun hw => st_mv rfl (st_g rfl (st_mv rfl (st_g rfl (st_mv rfl (st_g rfl (g_sub rfl rfl hw fun v17 hw => st_g rfl (g_iaddr enc_GSolve_Pick rfl rfl hw fun a18 hw => st_g rfl (g_faddr_r (cs := [.str a18.Name, .int .i64 a18.Version]) rfl (lt_of_blt rfl) (st_g rfl (st_load_r (v := .str a18.Name) rfl rfl (st_g rfl (g_faddr_p rfl (st_g rfl (g_load_p (v := .str a15.Name) rfl rfl rfl (st_g rfl (gb_s rfl rfl trivial rfl hw fun v19 hw => st_pick_t rfl rfl rfl (st_mid (g_end [(0, .list (List.map eGSolve_Pick p1) .none), (8, .list (List.map eGSolve_Pick p1) .none), (9, .int .i64 v2), (10, .int .i64 v3), (39, .bool v19)] rfl ?_))))))))))))))))))) (fun hw => st_mv rfl (st_gft rfl (st_gft rfl (st_gft rfl (st_gft rfl (st_gft rfl (st_gft rfl (st_gft rfl (st_gft rfl (st_gft rfl (st_pick_f rfl rfl rfl (st_mid (g_end [(0, .list (List.map eGSolve_Pick p1) .none), (8, .list (List.map eGSolve_Pick p1) .none), (9, .int .i64 v2), (10, .int .i64 v3), (39, .bool false)] rfl ?_)))))))))))))))
          · refine sq_n ?_
            refine s_cond rfl hw (fun hw => ?_) (fun hw => ?_)
            · refine sc_seq ?_
              refine s_reg (st_mv rfl (g_end [(2, .int .i64 (21 : Int))] rfl ?_))
              refine sq_n ?_
              refine sc_ret ?_
              refine bl_r ?_
              refine sq_r ?_
              refine lo_r ?_
              refine bl_r ?_
              refine sq_r ?_
              exact g_ret (.inr rfl) rfl (21 : Int) hw rfl
            · refine sc_skip ?_
              refine bl_n ?_
              refine sq_n ?_
              refine s_reg (g_add rfl rfl hw fun v20 hw => st_mv rfl (g_end [(0, .list (List.map eGSolve_Pick p1) .none), (8, .list (List.map eGSolve_Pick p1) .none), (9, .int .i64 v2), (10, .int .i64 v20)] rfl ?_))
              exact lo_n ⟨(v2, v20), hw.1⟩ hw.2 (weak_ren [] (by simp) (by decide) ro_nil (re_cons rfl (.pv _ (pv_lst enc_GSolve_Pick _ _ (by simp))) (re_cons rfl (.pv _ (pv_lst enc_GSolve_Pick _ _ (by simp))) (re_cons rfl (.pv _ (.int _ _)) (re_cons rfl (.pv _ (.int _ _)) re_nil)))))
          · refine sq_n ?_
            refine s_cond_f rfl ?_
            refine sc_skip ?_
            refine bl_n ?_
            refine sq_n ?_
            refine s_reg (g_add rfl rfl hw fun v21 hw => st_mv rfl (g_end [(0, .list (List.map eGSolve_Pick p1) .none), (8, .list (List.map eGSolve_Pick p1) .none), (9, .int .i64 v2), (10, .int .i64 v21)] rfl ?_))
            exact lo_n ⟨(v2, v21), hw.1⟩ hw.2 (weak_ren [] (by simp) (by decide) ro_nil (re_cons rfl (.pv _ (pv_lst enc_GSolve_Pick _ _ (by simp))) (re_cons rfl (.pv _ (pv_lst enc_GSolve_Pick _ _ (by simp))) (re_cons rfl (.pv _ (.int _ _)) (re_cons rfl (.pv _ (.int _ _)) re_nil)))))
    · refine sc_exit ?_
      refine sq_x ?_
      refine lo_x ?_
      refine bl_x ?_
      refine sq_n ?_
      refine sc_seq ?_
      refine s_reg (st_mv rfl (g_end [(2, .int .i64 (0 : Int))] rfl ?_))
      refine sq_n ?_
      refine sc_ret ?_
      exact g_ret (.inr rfl) rfl (0 : Int) hw rfl
/-- slices.Equal[[]roadstead/lock.Turn,roadstead/lock.Turn] -/
def hc19 : C := (.seq (.reg [⟨(some 4), (.op (.mv (.c (.bool false)))), none⟩] [0, 1]) (.seq (.seq (.reg [⟨(some 6), (.op (.mv (.t 0))), none⟩, ⟨(some 7), (.op (.len false (.t 6))), none⟩, ⟨(some 8), (.op (.mv (.t 1))), none⟩, ⟨(some 9), (.op (.len false (.t 8))), none⟩, ⟨(some 10), (.op (.eqv true .int (.t 7) (.t 9))), none⟩] [0, 1, 10]) (.cond (.t 10) (.seq (.reg [⟨(some 4), (.op (.mv (.c (.bool false)))), none⟩] [4]) .ret) .skip)) (.seq (.seq (.reg [⟨(some 11), (.op (.mv (.t 0))), none⟩, ⟨(some 12), (.op (.len false (.t 11))), none⟩, ⟨(some 13), (.op (.mv (.c (.int .i64 0)))), none⟩] [0, 1, 12, 13]) (.block 0 (.loop (.seq (.reg [⟨(some 14), (.op (.bin .lss (.t 13) (.t 12))), none⟩] [0, 1, 12, 13, 14]) (.seq (.cond (.t 14) .skip (.exit 0)) (.seq (.block 1 (.seq (.reg [⟨(some 15), (.op (.mv (.t 13))), none⟩, ⟨(some 5), (.op (.mv (.t 15))), none⟩] [0, 1, 5, 12, 13]) (.seq (.dreg [⟨(some 16), (.op (.mv (.t 0))), none⟩, ⟨(some 17), (.op (.mv (.t 5))), none⟩, ⟨(some 18), (.op (.iaddr 3 (.t 16) (.t 17))), none⟩, ⟨(some 19), (.op (.load (some 3) (.t 18))), none⟩, ⟨(some 20), (.op (.mv (.t 1))), none⟩, ⟨(some 21), (.op (.mv (.t 5))), none⟩, ⟨(some 22), (.op (.iaddr 3 (.t 20) (.t 21))), none⟩, ⟨(some 23), (.op (.load (some 3) (.t 22))), none⟩, ⟨(some 24), (.op (.eqv true (.agg [.s, .i, .i]) (.t 19) (.t 23))), none⟩] [] 0 [0, 1, 12, 13, 24]) (.cond (.t 24) (.seq (.reg [⟨(some 4), (.op (.mv (.c (.bool false)))), none⟩] [4]) .ret) .skip)))) (.reg [⟨(some 25), (.op (.bin .add (.t 13) (.c (.int .i64 1)))), none⟩, ⟨(some 13), (.op (.mv (.t 25))), none⟩] [0, 1, 12, 13]))))))) (.seq (.reg [⟨(some 4), (.op (.mv (.c (.bool true)))), none⟩] [4]) .ret))))
def ha19 : Ann := ⟨[], [], [(0, [0, 1]), (1, [0, 1, 10]), (2, [4]), (3, [0, 1, 12, 13]), (4, [0, 1, 12, 13, 14]), (5, [0, 1, 5, 12, 13]), (6, [0, 1, 12, 13, 24]), (7, [4]), (8, [0, 1, 12, 13]), (9, [4])]⟩
theorem hk19 : comp Try.prog ha19 Try.f19.ntmps Try.f19.code = some hc19 := by kernel_rfl
def w19 (p1 : List (GLock_Turn)) (p2 : List (GLock_Turn)) (Q : Bool → Prop) : Prop :=
  (((p1.length : Int) ≠ (p2.length : Int) → Q false) ∧ ((p1.length : Int) = (p2.length : Int) → ∃ (I9 : Int → Int → Prop) (M10 : Int → Int → Nat), I9 (p1.length : Int) (0 : Int) ∧ ∀ (v3 : Int) (v4 : Int), I9 v3 v4 → ∀ v11 : Bool, v11 = decide (v4 < v3) → ((v11 = true → (0 ≤ v4 ∧ v4 < (p1.length : Int)) ∧ ∀ a12 : GLock_Turn, p1[(v4 : Int).toNat]? = some a12 → (0 ≤ v4 ∧ v4 < (p2.length : Int)) ∧ ∀ a13 : GLock_Turn, p2[(v4 : Int).toNat]? = some a13 → ((a12 ≠ a13 → Q false) ∧ (a12 = a13 → (-9223372036854775808 ≤ v4 + (1 : Int) ∧ v4 + (1 : Int) ≤ 9223372036854775807) ∧ ∀ v14 : Int, v14 = v4 + (1 : Int) → (I9 v3 v14 ∧ M10 v3 v14 < M10 v3 v4)))) ∧ (v11 = false → Q true))))
theorem ok19 (p1 : List (GLock_Turn)) (p2 : List (GLock_Turn)) (r : Bool) (hw : w19 p1 p2 fun r' => r' = r) : sp19 p1 p2 r := by
  refine p_func (rs := [.t 4]) (g := fun r : Bool => .bool r) Try.func19 rfl (by decide) (by kernel_rfl) (Nat.le_of_ble_eq_true rfl) hk19 (pvc ((enc_lst enc_GLock_Turn).all _) (pvc ((enc_lst enc_GLock_Turn).all _) pvn)) (.bool _) ?_
  unfold w19 at hw
  show SC Try.prog Try.f19.ntmps 0 hc19 _ [(0, .list (List.map eGLock_Turn p1) .none), (1, .list (List.map eGLock_Turn p2) .none)] []
  unfold hc19
  refine sc_seq ?_
  refine s_reg (st_mv rfl (g_end [(0, .list (List.map eGLock_Turn p1) .none), (1, .list (List.map eGLock_Turn p2) .none)] rfl ?_))
  refine sq_n ?_
  refine sc_seq ?_
  refine sc_seq ?_
  refine s_reg (st_mv rfl (g_len rfl (st_mv rfl (g_len rfl (g_nei rfl rfl hw (fun hw => g_end [(0, .list (List.map eGLock_Turn p1) .none), (1, .list (List.map eGLock_Turn p2) .none), (10, .bool true)] rfl ?_) (fun hw => g_end [(0, .list (List.map eGLock_Turn p1) .none), (1, .list (List.map eGLock_Turn p2) .none), (10, .bool false)] rfl ?_))))))
  · refine sq_n ?_
    refine s_cond_t rfl ?_
    refine sc_seq ?_
    refine s_reg (st_mv rfl (g_end [(4, .bool false)] rfl ?_))
    refine sq_n ?_
    refine sc_ret ?_
    refine sq_r ?_
    exact g_ret (.inr rfl) rfl false hw rfl
  · refine sq_n ?_
    refine s_cond_f rfl ?_
    refine sc_skip ?_
    refine sq_n ?_
    refine sc_seq ?_
    refine sc_seq ?_
    refine s_reg (st_mv rfl (g_len rfl (st_mv rfl (g_end [(0, .list (List.map eGLock_Turn p1) .none), (1, .list (List.map eGLock_Turn p2) .none), (12, .int .i64 (p1.length : Int)), (13, .int .i64 (0 : Int))] rfl ?_))))
    refine sq_n ?_
    refine sc_block ?_
    obtain ⟨I9, M10, hi, hw⟩ := hw
    refine sc_loop (X := { x : Int × Int // I9 x.1 x.2 }) (fun x => ([(0, .list (List.map eGLock_Turn p1) .none), (1, .list (List.map eGLock_Turn p2) .none), (12, .int .i64 x.1.1), (13, .int .i64 x.1.2)], [])) (fun x => M10 x.1.1 x.1.2) ⟨((p1.length : Int), (0 : Int)), hi⟩ (WeakF.of (Weak.sub (sub_cons rfl (.inl rfl) (sub_cons rfl (.inl rfl) (sub_cons rfl (.inl rfl) (sub_cons rfl (.inl rfl) sub_nil)))))) ?_
    rintro ⟨⟨v3, v4⟩, hi2⟩
    have hw := hw v3 v4 hi2
    clear hi
    refine sc_seq ?_
    refine s_reg (gb_cmp rfl rfl trivial rfl hw fun v11 hw => g_end [(0, .list (List.map eGLock_Turn p1) .none), (1, .list (List.map eGLock_Turn p2) .none), (12, .int .i64 v3), (13, .int .i64 v4), (14, .bool v11)] rfl ?_)
    refine sq_n ?_
    refine sc_seq ?_
    refine s_cond rfl hw (fun hw => ?_) (fun hw => ?_)
    · refine sc_skip ?_
      refine sq_n ?_
      refine sc_seq ?_
      refine sc_block ?_
      refine sc_seq ?_
      refine s_reg (st_mv rfl (st_mv rfl (g_end [(0, .list (List.map eGLock_Turn p1) .none), (1, .list (List.map eGLock_Turn p2) .none), (5, .int .i64 v4), (12, .int .i64 v3), (13, .int .i64 v4)] rfl ?_)))
      refine sq_n ?_
      refine sc_seq ?_
      refine s_dreg Try.mixed rfl (st_mv rfl (st_mv rfl (g_iaddr enc_GLock_Turn rfl rfl hw fun a12 hw => st_load_r (v := .agg [.str a12.Name, .int .i64 a12.Old, .int .i64 a12.New]) rfl rfl (st_mv rfl (st_mv rfl (g_iaddr enc_GLock_Turn rfl rfl hw fun a13 hw => st_load_r (v := .agg [.str a13.Name, .int .i64 a13.Old, .int .i64 a13.New]) rfl rfl (g_nea (fk := eGLock_Turn) enck_GLock_Turn (fun a => ⟨_, rfl⟩) a12 a13 rfl rfl hw (fun hw => st_mid (g_end [(0, .list (List.map eGLock_Turn p1) .none), (1, .list (List.map eGLock_Turn p2) .none), (12, .int .i64 v3), (13, .int .i64 v4), (24, .bool true)] rfl ?_)) (fun hw => st_mid (g_end [(0, .list (List.map eGLock_Turn p1) .none), (1, .list (List.map eGLock_Turn p2) .none), (12, .int .i64 v3), (13, .int .i64 v4), (24, .bool false)] rfl ?_)))))))))
      · refine sq_n ?_
        refine s_cond_t rfl ?_
        refine sc_seq ?_
        refine s_reg (st_mv rfl (g_end [(4, .bool false)] rfl ?_))
        refine sq_n ?_
        refine sc_ret ?_
        refine bl_r ?_
        refine sq_r ?_
        refine lo_r ?_
        refine bl_r ?_
        refine sq_r ?_
        exact g_ret (.inr rfl) rfl false hw rfl
      · refine sq_n ?_
        refine s_cond_f rfl ?_
        refine sc_skip ?_
        refine bl_n ?_
        refine sq_n ?_
        refine s_reg (g_add rfl rfl hw fun v14 hw => st_mv rfl (g_end [(0, .list (List.map eGLock_Turn p1) .none), (1, .list (List.map eGLock_Turn p2) .none), (12, .int .i64 v3), (13, .int .i64 v14)] rfl ?_))
        exact lo_n ⟨(v3, v14), hw.1⟩ hw.2 (WeakF.of (Weak.sub (sub_cons rfl (.inl rfl) (sub_cons rfl (.inl rfl) (sub_cons rfl (.inl rfl) (sub_cons rfl (.inl rfl) sub_nil))))))
    · refine sc_exit ?_
      refine sq_x ?_
      refine lo_x ?_
      refine bl_x ?_
      refine sq_n ?_
      refine sc_seq ?_
      refine s_reg (st_mv rfl (g_end [(4, .bool true)] rfl ?_))
      refine sq_n ?_
      refine sc_ret ?_
      exact g_ret (.inr rfl) rfl true hw rfl
/-- roadstead/lock.Turns -/
def hc18 : C := (.seq (.reg [⟨(some 4), (.op (.mv (.c (.list [] .full)))), none⟩, ⟨(some 5), (.op (.mv (.c (.int .i64 0)))), none⟩] [0, 1]) (.seq (.seq (.reg [⟨(some 11), (.op (.mv (.t 0))), none⟩, ⟨(some 12), (.op (.mv (.t 1))), none⟩, ⟨(some 13), (.op (.build [(.list [] .full), (.list [] .full)] [(0, 1, (.t 11)), (1, 1, (.t 12))])), none⟩, ⟨(some 14), (.op (.mv (.c (.int .i64 0)))), none⟩] [0, 1, 13, 14]) (.block 0 (.loop (.seq (.reg [⟨(some 15), (.op (.bin .lss (.t 14) (.c (.int .i64 2)))), none⟩] [0, 1, 13, 14, 15]) (.seq (.cond (.t 15) .skip (.exit 0)) (.seq (.block 1 (.seq (.reg [⟨(some 16), (.op (.indexarr 2 1 false (.t 13) (.t 14))), none⟩, ⟨(some 7), (.op (.mv (.t 16))), none⟩] [0, 1, 7, 13, 14]) (.seq (.reg [⟨(some 17), (.op (.mv (.t 7))), none⟩, ⟨(some 18), (.call 45 [(.t 17)]), none⟩, ⟨(some 8), (.op (.mv (.t 18))), none⟩] [0, 1, 8, 13, 14]) (.seq (.reg [⟨(some 19), (.op (.mv (.t 8))), none⟩, ⟨(some 20), (.op (.eqv true .int (.t 19) (.c (.int .i64 0)))), none⟩] [0, 1, 8, 13, 14, 20]) (.cond (.t 20) (.seq (.reg [⟨(some 21), (.op (.mv (.t 8))), none⟩, ⟨(some 4), (.op (.mv (.c (.list [] .full)))), none⟩, ⟨(some 5), (.op (.mv (.t 21))), none⟩] [4, 5]) .ret) .skip))))) (.reg [⟨(some 22), (.op (.bin .add (.t 14) (.c (.int .i64 1)))), none⟩, ⟨(some 14), (.op (.mv (.t 22))), none⟩] [0, 1, 13, 14]))))))) (.seq (.reg [⟨(some 9), (.op (.mv (.c (.list [] .full)))), none⟩] [0, 1, 9]) (.seq (.block 2 (.loop (.seq (.seq (.reg [⟨(some 23), (.op (.mv (.t 0))), none⟩, ⟨(some 24), (.op (.len false (.t 23))), none⟩, ⟨(some 25), (.op (.bin .gtr (.t 24) (.c (.int .i64 0)))), none⟩, ⟨(some 26), (.op (.mv (.t 25))), none⟩, ⟨(some 27), (.op (.mv (.t 1))), (some (26, false))⟩, ⟨(some 28), (.op (.len false (.t 27))), (some (26, false))⟩, ⟨(some 29), (.op (.bin .gtr (.t 28) (.c (.int .i64 0)))), (some (26, false))⟩, ⟨(some 30), (.op (.pick (.t 26) (.c (.bool true)) (.t 29))), none⟩] [0, 1, 9, 30]) (.cond (.t 30) .skip (.exit 2))) (.block 3 (.seq (.reg [⟨(some 10), (.op (.alloc none [(.str []), (.int .i64 0), (.int .i64 0)])), none⟩] [0, 1, 9, 10]) (.seq (.block 4 (.seq (.dreg [⟨(some 49), (.op (.mv (.t 1))), none⟩, ⟨(some 50), (.op (.len false (.t 49))), none⟩, ⟨(some 51), (.op (.eqv false .int (.t 50) (.c (.int .i64 0)))), none⟩, ⟨(some 52), (.op (.mv (.t 51))), none⟩, ⟨(some 53), (.op (.mv (.t 0))), (some (52, false))⟩, ⟨(some 54), (.op (.len false (.t 53))), (some (52, false))⟩, ⟨(some 55), (.op (.bin .gtr (.t 54) (.c (.int .i64 0)))), (some (52, false))⟩, ⟨(some 56), (.op (.mv (.t 55))), (some (52, false))⟩, ⟨(some 57), (.op (.mv (.t 0))), (some (56, true))⟩, ⟨(some 58), (.op (.iaddr 2 (.t 57) (.c (.int .i64 0)))), (some (56, true))⟩, ⟨(some 59), (.op (.faddr 0 1 (.t 58))), (some (56, true))⟩, ⟨(some 60), (.op (.load none (.t 59))), (some (56, true))⟩, ⟨(some 61), (.op (.mv (.t 1))), (some (56, true))⟩, ⟨(some 62), (.op (.iaddr 2 (.t 61) (.c (.int .i64 0)))), (some (56, true))⟩, ⟨(some 63), (.op (.faddr 0 1 (.t 62))), (some (56, true))⟩, ⟨(some 64), (.op (.load none (.t 63))), (some (56, true))⟩, ⟨(some 65), (.op (.bin .lss (.t 60) (.t 64))), (some (56, true))⟩, ⟨(some 66), (.op (.pick (.t 56) (.t 65) (.c (.bool false)))), (some (52, false))⟩, ⟨(some 67), (.op (.pick (.t 52) (.c (.bool true)) (.t 66))), none⟩, ⟨(some 48), (.op (.mv (.t 67))), none⟩] [] 0 [0, 1, 9, 10, 48]) (.cond (.t 48) (.dreg [⟨(some 68), (.op (.mv (.t 0))), none⟩, ⟨(some 69), (.op (.iaddr 2 (.t 68) (.c (.int .i64 0)))), none⟩, ⟨(some 70), (.op (.faddr 0 1 (.t 69))), none⟩, ⟨(some 71), (.op (.load none (.t 70))), none⟩, ⟨(some 72), (.op (.mv (.t 0))), none⟩, ⟨(some 73), (.op (.iaddr 2 (.t 72) (.c (.int .i64 0)))), none⟩, ⟨(some 74), (.op (.faddr 1 1 (.t 73))), none⟩, ⟨(some 75), (.op (.load none (.t 74))), none⟩, ⟨(some 76), (.op (.build [(.str []), (.int .i64 0), (.int .i64 0)] [(0, 1, (.t 71)), (1, 1, (.t 75))])), none⟩, ⟨(some 77), (.op (.mv (.t 0))), none⟩, ⟨(some 78), (.op (.slice 2 (.t 77) (some (.c (.int .i64 1))) none none)), none⟩, ⟨none, (.op (.store 3 (.t 10) (.t 76))), none⟩, ⟨(some 0), (.op (.mv (.t 78))), none⟩] [] 0 [0, 1, 9, 10]) (.seq (.dreg [⟨(some 80), (.op (.mv (.t 0))), none⟩, ⟨(some 81), (.op (.len false (.t 80))), none⟩, ⟨(some 82), (.op (.eqv false .int (.t 81) (.c (.int .i64 0)))), none⟩, ⟨(some 83), (.op (.mv (.t 82))), none⟩, ⟨(some 84), (.op (.mv (.t 1))), (some (83, false))⟩, ⟨(some 85), (.op (.iaddr 2 (.t 84) (.c (.int .i64 0)))), (some (83, false))⟩, ⟨(some 86), (.op (.faddr 0 1 (.t 85))), (some (83, false))⟩, ⟨(some 87), (.op (.load none (.t 86))), (some (83, false))⟩, ⟨(some 88), (.op (.mv (.t 0))), (some (83, false))⟩, ⟨(some 89), (.op (.iaddr 2 (.t 88) (.c (.int .i64 0)))), (some (83, false))⟩, ⟨(some 90), (.op (.faddr 0 1 (.t 89))), (some (83, false))⟩, ⟨(some 91), (.op (.load none (.t 90))), (some (83, false))⟩, ⟨(some 92), (.op (.bin .lss (.t 87) (.t 91))), (some (83, false))⟩, ⟨(some 93), (.op (.pick (.t 83) (.c (.bool true)) (.t 92))), none⟩, ⟨(some 79), (.op (.mv (.t 93))), none⟩] [] 0 [0, 1, 9, 10, 79]) (.cond (.t 79) (.dreg [⟨(some 94), (.op (.mv (.t 1))), none⟩, ⟨(some 95), (.op (.iaddr 2 (.t 94) (.c (.int .i64 0)))), none⟩, ⟨(some 96), (.op (.faddr 0 1 (.t 95))), none⟩, ⟨(some 97), (.op (.load none (.t 96))), none⟩, ⟨(some 98), (.op (.mv (.t 1))), none⟩, ⟨(some 99), (.op (.iaddr 2 (.t 98) (.c (.int .i64 0)))), none⟩, ⟨(some 100), (.op (.faddr 1 1 (.t 99))), none⟩, ⟨(some 101), (.op (.load none (.t 100))), none⟩, ⟨(some 102), (.op (.build [(.str []), (.int .i64 0), (.int .i64 0)] [(0, 1, (.t 97)), (2, 1, (.t 101))])), none⟩, ⟨(some 103), (.op (.mv (.t 1))), none⟩, ⟨(some 104), (.op (.slice 2 (.t 103) (some (.c (.int .i64 1))) none none)), none⟩, ⟨none, (.op (.store 3 (.t 10) (.t 102))), none⟩, ⟨(some 1), (.op (.mv (.t 104))), none⟩] [] 0 [0, 1, 9, 10]) (.seq (.dreg [⟨(some 31), (.op (.mv (.t 0))), none⟩, ⟨(some 32), (.op (.iaddr 2 (.t 31) (.c (.int .i64 0)))), none⟩, ⟨(some 33), (.op (.faddr 0 1 (.t 32))), none⟩, ⟨(some 34), (.op (.load none (.t 33))), none⟩, ⟨(some 35), (.op (.mv (.t 0))), none⟩, ⟨(some 36), (.op (.iaddr 2 (.t 35) (.c (.int .i64 0)))), none⟩, ⟨(some 37), (.op (.faddr 1 1 (.t 36))), none⟩, ⟨(some 38), (.op (.load none (.t 37))), none⟩, ⟨(some 39), (.op (.mv (.t 1))), none⟩, ⟨(some 40), (.op (.iaddr 2 (.t 39) (.c (.int .i64 0)))), none⟩, ⟨(some 41), (.op (.faddr 1 1 (.t 40))), none⟩, ⟨(some 42), (.op (.load none (.t 41))), none⟩, ⟨(some 43), (.op (.build [(.str []), (.int .i64 0), (.int .i64 0)] [(0, 1, (.t 34)), (1, 1, (.t 38)), (2, 1, (.t 42))])), none⟩, ⟨none, (.op (.store 3 (.t 10) (.t 43))), none⟩] [] 0 [0, 1, 9, 10]) (.dreg [⟨(some 44), (.op (.mv (.t 0))), none⟩, ⟨(some 45), (.op (.slice 2 (.t 44) (some (.c (.int .i64 1))) none none)), none⟩, ⟨(some 46), (.op (.mv (.t 1))), none⟩, ⟨(some 47), (.op (.slice 2 (.t 46) (some (.c (.int .i64 1))) none none)), none⟩, ⟨(some 0), (.op (.mv (.t 45))), none⟩, ⟨(some 1), (.op (.mv (.t 47))), none⟩] [] 0 [0, 1, 9, 10]))))))) (.seq (.reg [⟨(some 105), (.op (.faddr 1 1 (.t 10))), none⟩, ⟨(some 106), (.op (.load none (.t 105))), none⟩, ⟨(some 107), (.op (.faddr 2 1 (.t 10))), none⟩, ⟨(some 108), (.op (.load none (.t 107))), none⟩, ⟨(some 109), (.op (.eqv true .int (.t 106) (.t 108))), none⟩] [0, 1, 9, 10, 109]) (.cond (.t 109) (.reg [⟨(some 110), (.op (.mv (.t 9))), none⟩, ⟨(some 111), (.op (.load (some 3) (.t 10))), none⟩, ⟨(some 112), (.op (.mklist 3 [(.t 111)])), none⟩, ⟨(some 113), (.op (.append 3 32 (.t 110) (.t 112))), none⟩, ⟨(some 9), (.op (.mv (.t 113))), none⟩] [0, 1, 9]) .skip)))))))) (.seq (.reg [⟨(some 114), (.op (.mv (.t 9))), none⟩, ⟨(some 4), (.op (.mv (.t 114))), none⟩, ⟨(some 5), (.op (.mv (.c (.int .i64 0)))), none⟩] [4, 5]) .ret)))))
def ha18 : Ann := ⟨[], [], [(0, [0, 1]), (1, [0, 1, 13, 14]), (2, [0, 1, 13, 14, 15]), (3, [0, 1, 7, 13, 14]), (4, [0, 1, 8, 13, 14]), (5, [0, 1, 8, 13, 14, 20]), (6, [4, 5]), (7, [0, 1, 13, 14]), (8, [0, 1, 9]), (9, [0, 1, 9, 30]), (10, [0, 1, 9, 10]), (13, [0, 1, 9, 10, 48]), (14, [0, 1, 9, 10]), (15, [0, 1, 9, 10, 79]), (16, [0, 1, 9, 10]), (11, [0, 1, 9, 10]), (12, [0, 1, 9, 10]), (17, [0, 1, 9, 10, 109]), (18, [0, 1, 9]), (19, [4, 5])]⟩
theorem hk18 : comp Try.prog ha18 Try.f18.ntmps Try.f18.code = some hc18 := by kernel_rfl
def w18 (p1 : List (GSolve_Pick)) (p2 : List (GSolve_Pick)) (Q : List (GLock_Turn) × Int → Prop) : Prop :=
  ∃ (I10 : Int → Prop) (M11 : Int → Nat), I10 (0 : Int) ∧ ∀ (v3 : Int), I10 v3 → ∀ v12 : Bool, v12 = decide (v3 < (2 : Int)) → ((v12 = true → ∃ J15 : (List GSolve_Pick) → Int → Prop, (((0 ≤ v3 ∧ v3 < 2) ∧ (v3 = 0 → J15 p1 v3) ∧ (v3 = 1 → J15 p2 v3))) ∧ ∀ (v13 : List GSolve_Pick) (v14 : Int), J15 v13 v14 → ∃ r16 : Int, sp45 v13 r16 ∧ ((r16 ≠ (0 : Int) → Q (([] : List GLock_Turn), r16)) ∧ (r16 = (0 : Int) → (-9223372036854775808 ≤ v14 + (1 : Int) ∧ v14 + (1 : Int) ≤ 9223372036854775807) ∧ ∀ v17 : Int, v17 = v14 + (1 : Int) → (I10 v17 ∧ M11 v17 < M11 v3)))) ∧ (v12 = false → ∃ (I54 : (List GSolve_Pick) → (List GSolve_Pick) → (List GLock_Turn) → Prop) (M55 : (List GSolve_Pick) → (List GSolve_Pick) → (List GLock_Turn) → Nat), I54 p1 p2 ([] : List GLock_Turn) ∧ ∀ (v18 : List GSolve_Pick) (v19 : List GSolve_Pick) (v20 : List GLock_Turn), I54 v18 v19 v20 → ∃ J56 : Prop, ((((0 : Int) < (v18.length : Int) → J56) ∧ ((v18.length : Int) ≤ (0 : Int) → (((0 : Int) < (v19.length : Int) → J56) ∧ ((v19.length : Int) ≤ (0 : Int) → Q (v20, (0 : Int))))))) ∧ (J56 → ∃ J62 : (List GSolve_Pick) → (List GSolve_Pick) → (List UInt8) → Int → Int → Prop, (∃ J66 : Int → Int → Bool → Prop, ((((v19.length : Int) = (0 : Int) → J66 (0 : Int) (0 : Int) true) ∧ ((v19.length : Int) ≠ (0 : Int) → (((0 : Int) < (v18.length : Int) → (0 ≤ (0 : Int) ∧ (0 : Int) < (v18.length : Int)) ∧ ∀ a67 : GSolve_Pick, v18[((0 : Int) : Int).toNat]? = some a67 → (0 ≤ (0 : Int) ∧ (0 : Int) < (v19.length : Int)) ∧ ∀ a68 : GSolve_Pick, v19[((0 : Int) : Int).toNat]? = some a68 → ∀ v69 : Bool, v69 = bytesLess a67.Name a68.Name → J66 (0 : Int) (0 : Int) v69) ∧ ((v18.length : Int) ≤ (0 : Int) → J66 (0 : Int) (0 : Int) false))))) ∧ ∀ (v63 : Int) (v64 : Int) (v65 : Bool), J66 v63 v64 v65 → ((v65 = true → (0 ≤ (0 : Int) ∧ (0 : Int) < (v18.length : Int)) ∧ ∀ a70 : GSolve_Pick, v18[((0 : Int) : Int).toNat]? = some a70 → (0 ≤ (0 : Int) ∧ (0 : Int) < (v18.length : Int)) ∧ ∀ a71 : GSolve_Pick, v18[((0 : Int) : Int).toNat]? = some a71 → (0 ≤ (1 : Int) ∧ (1 : Int) ≤ (v18.length : Int) ∧ (v18.length : Int) ≤ (v18.length : Int)) ∧ ∀ v72 : List GSolve_Pick, v72 = (v18.take ((v18.length : Int) : Int).toNat).drop ((1 : Int) : Int).toNat → J62 v72 v19 a70.Name a71.Version (0 : Int)) ∧ (v65 = false → ∃ J74 : Bool → Prop, ((((v18.length : Int) = (0 : Int) → J74 true) ∧ ((v18.length : Int) ≠ (0 : Int) → (0 ≤ (0 : Int) ∧ (0 : Int) < (v19.length : Int)) ∧ ∀ a75 : GSolve_Pick, v19[((0 : Int) : Int).toNat]? = some a75 → (0 ≤ (0 : Int) ∧ (0 : Int) < (v18.length : Int)) ∧ ∀ a76 : GSolve_Pick, v18[((0 : Int) : Int).toNat]? = some a76 → ∀ v77 : Bool, v77 = bytesLess a75.Name a76.Name → J74 v77))) ∧ ∀ (v73 : Bool), J74 v73 → ((v73 = true → (0 ≤ (0 : Int) ∧ (0 : Int) < (v19.length : Int)) ∧ ∀ a78 : GSolve_Pick, v19[((0 : Int) : Int).toNat]? = some a78 → (0 ≤ (0 : Int) ∧ (0 : Int) < (v19.length : Int)) ∧ ∀ a79 : GSolve_Pick, v19[((0 : Int) : Int).toNat]? = some a79 → (0 ≤ (1 : Int) ∧ (1 : Int) ≤ (v19.length : Int) ∧ (v19.length : Int) ≤ (v19.length : Int)) ∧ ∀ v80 : List GSolve_Pick, v80 = (v19.take ((v19.length : Int) : Int).toNat).drop ((1 : Int) : Int).toNat → J62 v18 v80 a78.Name (0 : Int) a79.Version) ∧ (v73 = false → (0 ≤ (0 : Int) ∧ (0 : Int) < (v18.length : Int)) ∧ ∀ a81 : GSolve_Pick, v18[((0 : Int) : Int).toNat]? = some a81 → (0 ≤ (0 : Int) ∧ (0 : Int) < (v18.length : Int)) ∧ ∀ a82 : GSolve_Pick, v18[((0 : Int) : Int).toNat]? = some a82 → (0 ≤ (0 : Int) ∧ (0 : Int) < (v19.length : Int)) ∧ ∀ a83 : GSolve_Pick, v19[((0 : Int) : Int).toNat]? = some a83 → (0 ≤ (1 : Int) ∧ (1 : Int) ≤ (v18.length : Int) ∧ (v18.length : Int) ≤ (v18.length : Int)) ∧ ∀ v84 : List GSolve_Pick, v84 = (v18.take ((v18.length : Int) : Int).toNat).drop ((1 : Int) : Int).toNat → (0 ≤ (1 : Int) ∧ (1 : Int) ≤ (v19.length : Int) ∧ (v19.length : Int) ≤ (v19.length : Int)) ∧ ∀ v85 : List GSolve_Pick, v85 = (v19.take ((v19.length : Int) : Int).toNat).drop ((1 : Int) : Int).toNat → J62 v84 v85 a81.Name a82.Version a83.Version))))) ∧ ∀ (v57 : List GSolve_Pick) (v58 : List GSolve_Pick) (v59 : List UInt8) (v60 : Int) (v61 : Int), J62 v57 v58 v59 v60 v61 → ((v60 ≠ v61 → ((v20.length + ([(GLock_Turn.mk v59 v60 v61)] : List GLock_Turn).length) * 32 ≤ 140737488355328) ∧ ∀ v86 : List GLock_Turn, v86 = v20 ++ ([(GLock_Turn.mk v59 v60 v61)] : List GLock_Turn) → (I54 v57 v58 v86 ∧ M55 v57 v58 v86 < M55 v18 v19 v20)) ∧ (v60 = v61 → (I54 v57 v58 v20 ∧ M55 v57 v58 v20 < M55 v18 v19 v20))))))
theorem ok18 (p1 : List (GSolve_Pick)) (p2 : List (GSolve_Pick)) (r : List (GLock_Turn) × Int) (hw : w18 p1 p2 fun r' => r' = r) : sp18 p1 p2 r := by
  refine p_func (rs := [.t 4, .t 5]) (g := fun r : List (GLock_Turn) × Int => .tuple [.list (List.map eGLock_Turn r.1) .none, .int .i64 r.2]) Try.func18 rfl (by decide) (by kernel_rfl) (Nat.le_of_ble_eq_true rfl) hk18 (pvc ((enc_lst enc_GSolve_Pick).all _) (pvc ((enc_lst enc_GSolve_Pick).all _) pvn)) (pvtup (pvc ((enc_lst enc_GLock_Turn).all _) (pvc (.int _ _) pvn))) ?_
  unfold w18 at hw
  show SC Try.prog Try.f18.ntmps 0 hc18 _ [(0, .list (List.map eGSolve_Pick p1) .none), (1, .list (List.map eGSolve_Pick p2) .none)] []
  unfold hc18
  refine sc_seq ?_
  refine s_reg (st_mv rfl (st_mv rfl (g_end [(0, .list (List.map eGSolve_Pick p1) .none), (1, .list (List.map eGSolve_Pick p2) .none)] rfl ?_)))
  refine sq_n ?_
  refine sc_seq ?_
  refine sc_seq ?_
  refine s_reg (st_mv rfl (st_mv rfl (g_build (cs := [.list (List.map eGSolve_Pick p1) .none, .list (List.map eGSolve_Pick p2) .none]) (ep_cons rfl (ep_cons rfl ep_nil)) rfl (st_mv rfl (g_end [(0, .list (List.map eGSolve_Pick p1) .none), (1, .list (List.map eGSolve_Pick p2) .none), (13, .agg [.list (List.map eGSolve_Pick p1) .none, .list (List.map eGSolve_Pick p2) .none]), (14, .int .i64 (0 : Int))] rfl ?_)))))
  refine sq_n ?_
  refine sc_block ?_
  obtain ⟨I10, M11, hi, hw⟩ := hw
  refine sc_loop (X := { x : Int // I10 x }) (fun x => ([(0, .list (List.map eGSolve_Pick p1) .none), (1, .list (List.map eGSolve_Pick p2) .none), (13, .agg [.list (List.map eGSolve_Pick p1) .none, .list (List.map eGSolve_Pick p2) .none]), (14, .int .i64 x.1)], [])) (fun x => M11 x.1) ⟨(0 : Int), hi⟩ (WeakF.of (Weak.sub (sub_cons rfl (.inl rfl) (sub_cons rfl (.inl rfl) (sub_cons rfl (.inl rfl) (sub_cons rfl (.inl rfl) sub_nil)))))) ?_
  rintro ⟨v3, hi2⟩
  have hw := hw v3 hi2
  clear hi
  refine sc_seq ?_
  refine s_reg (gb_cmp rfl rfl trivial rfl hw fun v12 hw => g_end [(0, .list (List.map eGSolve_Pick p1) .none), (1, .list (List.map eGSolve_Pick p2) .none), (13, .agg [.list (List.map eGSolve_Pick p1) .none, .list (List.map eGSolve_Pick p2) .none]), (14, .int .i64 v3), (15, .bool v12)] rfl ?_)
  refine sq_n ?_
  refine sc_seq ?_
  refine s_cond rfl hw (fun hw => ?_) (fun hw => ?_)
  · refine sc_skip ?_
    refine sq_n ?_
    refine sc_seq ?_
    refine sc_block ?_
    obtain ⟨J15, hw, hk⟩ := hw
    refine sc_join (A := List GSolve_Pick × Int) (fun x => J15 x.1 x.2) (fun x => ([(0, .list (List.map eGSolve_Pick p1) .none), (1, .list (List.map eGSolve_Pick p2) .none), (7, .list (List.map eGSolve_Pick x.1) .none), (13, .agg [.list (List.map eGSolve_Pick p1) .none, .list (List.map eGSolve_Pick p2) .none]), (14, .int .i64 x.2)], [])) ?_ ?_
    · rintro ⟨v13, v14⟩ hj
      have hw := hk v13 v14 hj
      clear hk hj
      refine sc_seq ?_
      refine s_reg (st_mv rfl (g_call (ev_cons rfl ev_nil) rfl hw fun r16 hw => st_mv rfl (g_end [(0, .list (List.map eGSolve_Pick p1) .none), (1, .list (List.map eGSolve_Pick p2) .none), (8, .int .i64 r16), (13, .agg [.list (List.map eGSolve_Pick p1) .none, .list (List.map eGSolve_Pick p2) .none]), (14, .int .i64 v14)] rfl ?_)))
      refine sq_n ?_
      refine sc_seq ?_
      refine s_reg (st_mv rfl (g_nei rfl rfl hw (fun hw => g_end [(0, .list (List.map eGSolve_Pick p1) .none), (1, .list (List.map eGSolve_Pick p2) .none), (8, .int .i64 r16), (13, .agg [.list (List.map eGSolve_Pick p1) .none, .list (List.map eGSolve_Pick p2) .none]), (14, .int .i64 v14), (20, .bool true)] rfl ?_) (fun hw => g_end [(0, .list (List.map eGSolve_Pick p1) .none), (1, .list (List.map eGSolve_Pick p2) .none), (8, .int .i64 r16), (13, .agg [.list (List.map eGSolve_Pick p1) .none, .list (List.map eGSolve_Pick p2) .none]), (14, .int .i64 v14), (20, .bool false)] rfl ?_)))
      · refine sq_n ?_
        refine s_cond_t rfl ?_
        refine sc_seq ?_
        refine s_reg (st_mv rfl (st_mv rfl (st_mv rfl (g_end [(4, .list (List.map eGLock_Turn ([] : List GLock_Turn)) .full), (5, .int .i64 r16)] rfl ?_))))
        refine sq_n ?_
        refine sc_ret ?_
        refine bl_r ?_
        refine sq_r ?_
        refine lo_r ?_
        refine bl_r ?_
        refine sq_r ?_
        exact g_ret (.inr rfl) rfl (([] : List GLock_Turn), r16) hw rfl
      · refine sq_n ?_
        refine s_cond_f rfl ?_
        refine sc_skip ?_
        refine bl_n ?_
        refine sq_n ?_
        refine s_reg (g_add rfl rfl hw fun v17 hw => st_mv rfl (g_end [(0, .list (List.map eGSolve_Pick p1) .none), (1, .list (List.map eGSolve_Pick p2) .none), (13, .agg [.list (List.map eGSolve_Pick p1) .none, .list (List.map eGSolve_Pick p2) .none]), (14, .int .i64 v17)] rfl ?_))
        exact lo_n ⟨v17, hw.1⟩ hw.2 (WeakF.of (Weak.sub (sub_cons rfl (.inl rfl) (sub_cons rfl (.inl rfl) (sub_cons rfl (.inl rfl) (sub_cons rfl (.inl rfl) sub_nil))))))
    · clear hk
      refine s_reg (g_ia2 (v := .list (List.map eGSolve_Pick p1) .none) (w := .list (List.map eGSolve_Pick p2) .none) rfl rfl rfl rfl hw (fun hw => st_mv rfl (g_end [(0, .list (List.map eGSolve_Pick p1) .none), (1, .list (List.map eGSolve_Pick p2) .none), (7, .list (List.map eGSolve_Pick p1) .none), (13, .agg [.list (List.map eGSolve_Pick p1) .none, .list (List.map eGSolve_Pick p2) .none]), (14, .int .i64 v3)] rfl ?_)) (fun hw => st_mv rfl (g_end [(0, .list (List.map eGSolve_Pick p1) .none), (1, .list (List.map eGSolve_Pick p2) .none), (7, .list (List.map eGSolve_Pick p2) .none), (13, .agg [.list (List.map eGSolve_Pick p1) .none, .list (List.map eGSolve_Pick p2) .none]), (14, .int .i64 v3)] rfl ?_)))
      · exact jo_n (p1, v3) hw (WeakF.of (Weak.sub (sub_cons rfl (.inl rfl) (sub_cons rfl (.inl rfl) (sub_cons rfl (.inl rfl) (sub_cons rfl (.inl rfl) (sub_cons rfl (.inl rfl) sub_nil)))))))
      · exact jo_n (p2, v3) hw (WeakF.of (Weak.sub (sub_cons rfl (.inl rfl) (sub_cons rfl (.inl rfl) (sub_cons rfl (.inl rfl) (sub_cons rfl (.inl rfl) (sub_cons rfl (.inl rfl) sub_nil)))))))
  · refine sc_exit ?_
    refine sq_x ?_
    refine lo_x ?_
    refine bl_x ?_
    refine sq_n ?_
    refine sc_seq ?_
    refine s_reg (st_mv rfl (g_end [(0, .list (List.map eGSolve_Pick p1) .none), (1, .list (List.map eGSolve_Pick p2) .none), (9, .list (List.map eGLock_Turn ([] : List GLock_Turn)) .full)] rfl ?_))
    refine sq_n ?_
    refine sc_seq ?_
    refine sc_block ?_
    obtain ⟨I54, M55, hi, hw⟩ := hw
    refine sc_loop (X := { x : List GSolve_Pick × List GSolve_Pick × List GLock_Turn // I54 x.1 x.2.1 x.2.2 }) (fun x => ([(0, .list (List.map eGSolve_Pick x.1.1) .none), (1, .list (List.map eGSolve_Pick x.1.2.1) .none), (9, .list (List.map eGLock_Turn x.1.2.2) (.own 0 1 3))], [.tok (1 + x.1.2.2.length)])) (fun x => M55 x.1.1 x.1.2.1 x.1.2.2) ⟨(p1, p2, ([] : List GLock_Turn)), hi⟩ ((w_acc (l := ([] : List GLock_Turn)) 9 3 (n := 0) rfl enc_GLock_Turn rfl).trans (WeakF.of (Weak.sub (sub_cons rfl (.inl rfl) (sub_cons rfl (.inl rfl) (sub_cons rfl (.inl rfl) sub_nil)))))) ?_
    rintro ⟨⟨v18, v19, v20⟩, hi2⟩
    have hw := hw v18 v19 v20 hi2
    clear hi
    obtain ⟨J56, hw, hk⟩ := hw
    refine sc_join (A := Unit) (fun x => J56) (fun x => ([(0, .list (List.map eGSolve_Pick v18) .none), (1, .list (List.map eGSolve_Pick v19) .none), (9, .list (List.map eGLock_Turn v20) (.own 0 1 3)), (30, .bool true)], [.tok (1 + v20.length)])) ?_ ?_
    · rintro _ hj
      have hw := hk hj
      clear hk hj
      refine sc_block ?_
      refine sc_seq ?_
      refine s_reg (g_alloc (n := 1) rfl rfl (g_end [(0, .list (List.map eGSolve_Pick v18) .none), (1, .list (List.map eGSolve_Pick v19) .none), (9, .list (List.map eGLock_Turn v20) (.own 0 1 3)), (10, .ptr 1 0)] rfl ?_))
      refine sq_n ?_
      obtain ⟨J62, hw, hk⟩ := hw
      refine sc_join (A := List GSolve_Pick × List GSolve_Pick × List UInt8 × Int × Int) (fun x => J62 x.1 x.2.1 x.2.2.1 x.2.2.2.1 x.2.2.2.2) (fun x => ([(0, .list (List.map eGSolve_Pick x.1) .none), (1, .list (List.map eGSolve_Pick x.2.1) .none), (9, .list (List.map eGLock_Turn v20) (.own 0 1 3)), (10, .ptr 1 0)], [.tok (1 + v20.length), .cells [.str x.2.2.1, .int .i64 x.2.2.2.1, .int .i64 x.2.2.2.2]])) ?_ ?_
      · rintro ⟨v57, v58, v59, v60, v61⟩ hj
        have hw := hk v57 v58 v59 v60 v61 hj
        clear hk hj
        refine sc_seq ?_
        refine s_reg (g_faddr_p rfl (g_load_p (v := .int .i64 v60) rfl rfl rfl (g_faddr_p rfl (g_load_p (v := .int .i64 v61) rfl rfl rfl (g_nei rfl rfl hw (fun hw => g_end [(0, .list (List.map eGSolve_Pick v57) .none), (1, .list (List.map eGSolve_Pick v58) .none), (9, .list (List.map eGLock_Turn v20) (.own 0 1 3)), (10, .ptr 1 0), (109, .bool true)] rfl ?_) (fun hw => g_end [(0, .list (List.map eGSolve_Pick v57) .none), (1, .list (List.map eGSolve_Pick v58) .none), (9, .list (List.map eGLock_Turn v20) (.own 0 1 3)), (10, .ptr 1 0), (109, .bool false)] rfl ?_))))))
        · refine sq_n ?_
          refine s_cond_t rfl ?_
          refine s_reg (st_mv rfl (g_load_p (v := .agg [.str v59, .int .i64 v60, .int .i64 v61]) rfl rfl rfl (g_mkl enc_GLock_Turn [(GLock_Turn.mk v59 v60 v61)] (ev_cons rfl ev_nil) rfl (mkc ⟨rfl, rfl⟩ mkn) (g_appo enc_GLock_Turn rfl rfl rfl hw (fun z => [.tok (1 + z.length), .cells [.str v59, .int .i64 v60, .int .i64 v61]]) (fun _ => rfl) fun v86 hw => st_mv rfl (g_end [(0, .list (List.map eGSolve_Pick v57) .none), (1, .list (List.map eGSolve_Pick v58) .none), (9, .list (List.map eGLock_Turn v86) (.own 0 1 3))] rfl ?_)))))
          refine bl_n ?_
          exact lo_n ⟨(v57, v58, v86), hw.1⟩ hw.2 (weak_ren [0] (by simp) (by decide) (ro_tok rfl ro_nil) (re_cons rfl (.pv _ (pv_lst enc_GSolve_Pick _ _ (by simp))) (re_cons rfl (.pv _ (pv_lst enc_GSolve_Pick _ _ (by simp))) (re_cons rfl (.own _ _ _ _ _ rfl (pv_flat enc_GLock_Turn _)) re_nil))))
        · refine sq_n ?_
          refine s_cond_f rfl ?_
          refine sc_skip ?_
          refine bl_n ?_
          exact lo_n ⟨(v57, v58, v20), hw.1⟩ hw.2 (weak_ren [0] (by simp) (by decide) (ro_tok rfl ro_nil) (re_cons rfl (.pv _ (pv_lst enc_GSolve_Pick _ _ (by simp))) (re_cons rfl (.pv _ (pv_lst enc_GSolve_Pick _ _ (by simp))) (re_cons rfl (.own _ _ _ _ _ rfl (pv_flat enc_GLock_Turn _)) re_nil))))
      · clear hk
        refine sc_block ?_
        obtain ⟨J66, hw, hk⟩ := hw
        refine sc_join (A := Int × Int × Bool) (fun x => J66 x.1 x.2.1 x.2.2) (fun x => ([(0, .list (List.map eGSolve_Pick v18) .none), (1, .list (List.map eGSolve_Pick v19) .none), (9, .list (List.map eGLock_Turn v20) (.own 0 1 3)), (10, .ptr 1 0), (48, .bool x.2.2)], [.tok (1 + v20.length), .cells [.str [], .int .i64 x.1, .int .i64 x.2.1]])) ?_ ?_
        · rintro ⟨v63, v64, v65⟩ hj
          have hw := hk v63 v64 v65 hj
          clear hk hj
          refine s_cond rfl hw (fun hw => ?_) (fun hw => ?_)
          · refine s_dreg Try.mixed rfl (st_mv rfl (g_iaddr enc_GSolve_Pick rfl rfl hw fun a70 hw => g_faddr_r (cs := [.str a70.Name, .int .i64 a70.Version]) rfl (lt_of_blt rfl) (st_load_r (v := .str a70.Name) rfl rfl (st_mv rfl (g_iaddr enc_GSolve_Pick rfl rfl hw fun a71 hw => g_faddr_r (cs := [.str a71.Name, .int .i64 a71.Version]) rfl (lt_of_blt rfl) (st_load_r (v := .int .i64 a71.Version) rfl rfl (g_build (cs := [.str a70.Name, .int .i64 a71.Version, .int .i64 (0 : Int)]) (ep_cons rfl (ep_cons rfl ep_nil)) rfl (st_mv rfl (g_slice enc_GSolve_Pick rfl (bnd_some rfl) bnd_none hw fun v72 hw => g_store_p (v := .agg [.str a70.Name, .int .i64 a71.Version, .int .i64 (0 : Int)]) (h' := [.tok (1 + v20.length), .cells [.str a70.Name, .int .i64 a71.Version, .int .i64 (0 : Int)]]) rfl rfl rfl ⟨rfl, Nat.le_of_ble_eq_true rfl, rfl⟩ rfl (st_mv rfl (st_mid (g_end [(0, .list (List.map eGSolve_Pick v72) .none), (1, .list (List.map eGSolve_Pick v19) .none), (9, .list (List.map eGLock_Turn v20) (.own 0 1 3)), (10, .ptr 1 0)] rfl ?_))))))))))))
            refine bl_n ?_
            exact jo_n (v72, v19, a70.Name, a71.Version, (0 : Int)) hw (WeakF.of (Weak.sub (sub_cons rfl (.inl rfl) (sub_cons rfl (.inl rfl) (sub_cons rfl (.inl rfl) (sub_cons rfl (.inl rfl) sub_nil))))))
          · obtain ⟨J74, hw, hk⟩ := hw
            refine sc_join (A := Bool) (fun x => J74 x) (fun x => ([(0, .list (List.map eGSolve_Pick v18) .none), (1, .list (List.map eGSolve_Pick v19) .none), (9, .list (List.map eGLock_Turn v20) (.own 0 1 3)), (10, .ptr 1 0), (79, .bool x)], [.tok (1 + v20.length), .cells [.str [], .int .i64 v63, .int .i64 v64]])) ?_ ?_
            · rintro v73 hj
              have hw := hk v73 hj
              clear hk hj
              refine s_cond rfl hw (fun hw => ?_) (fun hw => ?_)
              · refine s_dreg Try.mixed rfl (st_mv rfl (g_iaddr enc_GSolve_Pick rfl rfl hw fun a78 hw => g_faddr_r (cs := [.str a78.Name, .int .i64 a78.Version]) rfl (lt_of_blt rfl) (st_load_r (v := .str a78.Name) rfl rfl (st_mv rfl (g_iaddr enc_GSolve_Pick rfl rfl hw fun a79 hw => g_faddr_r (cs := [.str a79.Name, .int .i64 a79.Version]) rfl (lt_of_blt rfl) (st_load_r (v := .int .i64 a79.Version) rfl rfl (g_build (cs := [.str a78.Name, .int .i64 (0 : Int), .int .i64 a79.Version]) (ep_cons rfl (ep_cons rfl ep_nil)) rfl (st_mv rfl (g_slice enc_GSolve_Pick rfl (bnd_some rfl) bnd_none hw fun v80 hw => g_store_p (v := .agg [.str a78.Name, .int .i64 (0 : Int), .int .i64 a79.Version]) (h' := [.tok (1 + v20.length), .cells [.str a78.Name, .int .i64 (0 : Int), .int .i64 a79.Version]]) rfl rfl rfl ⟨rfl, Nat.le_of_ble_eq_true rfl, rfl⟩ rfl (st_mv rfl (st_mid (g_end [(0, .list (List.map eGSolve_Pick v18) .none), (1, .list (List.map eGSolve_Pick v80) .none), (9, .list (List.map eGLock_Turn v20) (.own 0 1 3)), (10, .ptr 1 0)] rfl ?_))))))))))))
                refine bl_n ?_
                exact jo_n (v18, v80, a78.Name, (0 : Int), a79.Version) hw (WeakF.of (Weak.sub (sub_cons rfl (.inl rfl) (sub_cons rfl (.inl rfl) (sub_cons rfl (.inl rfl) (sub_cons rfl (.inl rfl) sub_nil))))))
              · refine sc_seq ?_
                refine s_dreg Try.mixed rfl (st_mv rfl (g_iaddr enc_GSolve_Pick rfl rfl hw fun a81 hw => g_faddr_r (cs := [.str a81.Name, .int .i64 a81.Version]) rfl (lt_of_blt rfl) (st_load_r (v := .str a81.Name) rfl rfl (st_mv rfl (g_iaddr enc_GSolve_Pick rfl rfl hw fun a82 hw => g_faddr_r (cs := [.str a82.Name, .int .i64 a82.Version]) rfl (lt_of_blt rfl) (st_load_r (v := .int .i64 a82.Version) rfl rfl (st_mv rfl (g_iaddr enc_GSolve_Pick rfl rfl hw fun a83 hw => g_faddr_r (cs := [.str a83.Name, .int .i64 a83.Version]) rfl (lt_of_blt rfl) (st_load_r (v := .int .i64 a83.Version) rfl rfl (g_build (cs := [.str a81.Name, .int .i64 a82.Version, .int .i64 a83.Version]) (ep_cons rfl (ep_cons rfl (ep_cons rfl ep_nil))) rfl (g_store_p (v := .agg [.str a81.Name, .int .i64 a82.Version, .int .i64 a83.Version]) (h' := [.tok (1 + v20.length), .cells [.str a81.Name, .int .i64 a82.Version, .int .i64 a83.Version]]) rfl rfl rfl ⟨rfl, Nat.le_of_ble_eq_true rfl, rfl⟩ rfl (st_mid (g_end [(0, .list (List.map eGSolve_Pick v18) .none), (1, .list (List.map eGSolve_Pick v19) .none), (9, .list (List.map eGLock_Turn v20) (.own 0 1 3)), (10, .ptr 1 0)] rfl ?_)))))))))))))
                refine sq_n ?_
                refine s_dreg Try.mixed rfl (st_mv rfl (g_slice enc_GSolve_Pick rfl (bnd_some rfl) bnd_none hw fun v84 hw => st_mv rfl (g_slice enc_GSolve_Pick rfl (bnd_some rfl) bnd_none hw fun v85 hw => st_mv rfl (st_mv rfl (st_mid (g_end [(0, .list (List.map eGSolve_Pick v84) .none), (1, .list (List.map eGSolve_Pick v85) .none), (9, .list (List.map eGLock_Turn v20) (.own 0 1 3)), (10, .ptr 1 0)] rfl ?_))))))
                refine bl_n ?_
                exact jo_n (v84, v85, a81.Name, a82.Version, a83.Version) hw (WeakF.of (Weak.sub (sub_cons rfl (.inl rfl) (sub_cons rfl (.inl rfl) (sub_cons rfl (.inl rfl) (sub_cons rfl (.inl rfl) sub_nil))))))
            · clear hk
              refine s_dreg Try.mixed rfl (st_mv rfl (g_len rfl (g_eqi rfl rfl hw (fun hw => st_mv rfl (st_gtf rfl (st_gtf rfl (st_gtf rfl (st_gtf rfl (st_gtf rfl (st_gtf rfl (st_gtf rfl (st_gtf rfl (st_gtf rfl (st_pick_t rfl rfl rfl (st_mv rfl (st_mid (g_end [(0, .list (List.map eGSolve_Pick v18) .none), (1, .list (List.map eGSolve_Pick v19) .none), (9, .list (List.map eGLock_Turn v20) (.own 0 1 3)), (10, .ptr 1 0), (79, .bool true)] rfl ?_)))))))))))))) (fun hw => st_mv rfl (st_g rfl (st_mv rfl (st_g rfl (g_iaddr enc_GSolve_Pick rfl rfl hw fun a75 hw => st_g rfl (g_faddr_r (cs := [.str a75.Name, .int .i64 a75.Version]) rfl (lt_of_blt rfl) (st_g rfl (st_load_r (v := .str a75.Name) rfl rfl (st_g rfl (st_mv rfl (st_g rfl (g_iaddr enc_GSolve_Pick rfl rfl hw fun a76 hw => st_g rfl (g_faddr_r (cs := [.str a76.Name, .int .i64 a76.Version]) rfl (lt_of_blt rfl) (st_g rfl (st_load_r (v := .str a76.Name) rfl rfl (st_g rfl (g_slss rfl rfl hw fun v77 hw => st_pick_f rfl rfl rfl (st_mv rfl (st_mid (g_end [(0, .list (List.map eGSolve_Pick v18) .none), (1, .list (List.map eGSolve_Pick v19) .none), (9, .list (List.map eGLock_Turn v20) (.own 0 1 3)), (10, .ptr 1 0), (79, .bool v77)] rfl ?_)))))))))))))))))))))))
              · exact jo_n true hw (WeakF.of (Weak.sub (sub_cons rfl (.inl rfl) (sub_cons rfl (.inl rfl) (sub_cons rfl (.inl rfl) (sub_cons rfl (.inl rfl) (sub_cons rfl (.inl rfl) sub_nil)))))))
              · exact jo_n v77 hw (WeakF.of (Weak.sub (sub_cons rfl (.inl rfl) (sub_cons rfl (.inl rfl) (sub_cons rfl (.inl rfl) (sub_cons rfl (.inl rfl) (sub_cons rfl (.inl rfl) sub_nil)))))))
        · clear hk
          refine s_dreg Try.mixed rfl (st_mv rfl (g_len rfl (g_eqi rfl rfl hw (fun hw => st_mv rfl (st_gtf rfl (st_gtf rfl (st_gtf rfl (st_gtf rfl (st_gu rfl (st_gu rfl (st_gu rfl (st_gu rfl (st_gu rfl (st_gu rfl (st_gu rfl (st_gu rfl (st_gu rfl (st_gtf rfl (st_pick_t rfl rfl rfl (st_mv rfl (st_mid (g_end [(0, .list (List.map eGSolve_Pick v18) .none), (1, .list (List.map eGSolve_Pick v19) .none), (9, .list (List.map eGLock_Turn v20) (.own 0 1 3)), (10, .ptr 1 0), (48, .bool true)] rfl ?_))))))))))))))))))) (fun hw => st_mv rfl (st_g rfl (st_mv rfl (st_g rfl (g_len rfl (st_g rfl (g_gtr rfl rfl hw (fun hw => st_g rfl (st_mv rfl (st_g rfl (st_mv rfl (st_g rfl (g_iaddr enc_GSolve_Pick rfl rfl hw fun a67 hw => st_g rfl (g_faddr_r (cs := [.str a67.Name, .int .i64 a67.Version]) rfl (lt_of_blt rfl) (st_g rfl (st_load_r (v := .str a67.Name) rfl rfl (st_g rfl (st_mv rfl (st_g rfl (g_iaddr enc_GSolve_Pick rfl rfl hw fun a68 hw => st_g rfl (g_faddr_r (cs := [.str a68.Name, .int .i64 a68.Version]) rfl (lt_of_blt rfl) (st_g rfl (st_load_r (v := .str a68.Name) rfl rfl (st_g rfl (g_slss rfl rfl hw fun v69 hw => st_g rfl (st_pick_t rfl rfl rfl (st_pick_f rfl rfl rfl (st_mv rfl (st_mid (g_end [(0, .list (List.map eGSolve_Pick v18) .none), (1, .list (List.map eGSolve_Pick v19) .none), (9, .list (List.map eGLock_Turn v20) (.own 0 1 3)), (10, .ptr 1 0), (48, .bool v69)] rfl ?_))))))))))))))))))))))) (fun hw => st_g rfl (st_mv rfl (st_gft rfl (st_gft rfl (st_gft rfl (st_gft rfl (st_gft rfl (st_gft rfl (st_gft rfl (st_gft rfl (st_gft rfl (st_g rfl (st_pick_f rfl rfl rfl (st_pick_f rfl rfl rfl (st_mv rfl (st_mid (g_end [(0, .list (List.map eGSolve_Pick v18) .none), (1, .list (List.map eGSolve_Pick v19) .none), (9, .list (List.map eGLock_Turn v20) (.own 0 1 3)), (10, .ptr 1 0), (48, .bool false)] rfl ?_)))))))))))))))))))))))))))
          · exact jo_n ((0 : Int), (0 : Int), true) hw (WeakF.of (Weak.sub (sub_cons rfl (.inl rfl) (sub_cons rfl (.inl rfl) (sub_cons rfl (.inl rfl) (sub_cons rfl (.inl rfl) (sub_cons rfl (.inl rfl) sub_nil)))))))
          · exact jo_n ((0 : Int), (0 : Int), v69) hw (WeakF.of (Weak.sub (sub_cons rfl (.inl rfl) (sub_cons rfl (.inl rfl) (sub_cons rfl (.inl rfl) (sub_cons rfl (.inl rfl) (sub_cons rfl (.inl rfl) sub_nil)))))))
          · exact jo_n ((0 : Int), (0 : Int), false) hw (WeakF.of (Weak.sub (sub_cons rfl (.inl rfl) (sub_cons rfl (.inl rfl) (sub_cons rfl (.inl rfl) (sub_cons rfl (.inl rfl) (sub_cons rfl (.inl rfl) sub_nil)))))))
    · clear hk
      refine sc_seq ?_
      refine s_reg (st_mv rfl (g_len rfl (g_gtr rfl rfl hw (fun hw => st_mv rfl (st_gtf rfl (st_gtf rfl (st_gtf rfl (st_pick_t rfl rfl rfl (g_end [(0, .list (List.map eGSolve_Pick v18) .none), (1, .list (List.map eGSolve_Pick v19) .none), (9, .list (List.map eGLock_Turn v20) (.own 0 1 3)), (30, .bool true)] rfl ?_)))))) (fun hw => st_mv rfl (st_g rfl (st_mv rfl (st_g rfl (g_len rfl (st_g rfl (g_gtr rfl rfl hw (fun hw => st_pick_f rfl rfl rfl (g_end [(0, .list (List.map eGSolve_Pick v18) .none), (1, .list (List.map eGSolve_Pick v19) .none), (9, .list (List.map eGLock_Turn v20) (.own 0 1 3)), (30, .bool true)] rfl ?_)) (fun hw => st_pick_f rfl rfl rfl (g_end [(0, .list (List.map eGSolve_Pick v18) .none), (1, .list (List.map eGSolve_Pick v19) .none), (9, .list (List.map eGLock_Turn v20) (.own 0 1 3)), (30, .bool false)] rfl ?_))))))))))))
      · refine sq_n ?_
        refine s_cond_t rfl ?_
        refine sc_skip ?_
        exact jo_n () hw (WeakF.of (Weak.sub (sub_cons rfl (.inl rfl) (sub_cons rfl (.inl rfl) (sub_cons rfl (.inl rfl) (sub_cons rfl (.inl rfl) sub_nil))))))
      · refine sq_n ?_
        refine s_cond_t rfl ?_
        refine sc_skip ?_
        exact jo_n () hw (WeakF.of (Weak.sub (sub_cons rfl (.inl rfl) (sub_cons rfl (.inl rfl) (sub_cons rfl (.inl rfl) (sub_cons rfl (.inl rfl) sub_nil))))))
      · refine sq_n ?_
        refine s_cond_f rfl ?_
        refine sc_exit ?_
        refine jo_x ?_
        refine lo_x ?_
        refine bl_x ?_
        refine sq_n ?_
        refine sc_seq ?_
        refine s_reg (st_mv rfl (st_mv rfl (st_mv rfl (g_end [(4, .list (List.map eGLock_Turn v20) (.own 0 1 3)), (5, .int .i64 (0 : Int))] rfl ?_))))
        refine sq_n ?_
        refine sc_ret ?_
        exact g_ret (.inr rfl) rfl (v20, (0 : Int)) hw rfl
/-- roadstead/roadkeep5.LockTurned -/
def hc4 : C := (.seq (.reg [⟨(some 4), (.op (.mv (.c (.bool false)))), none⟩] [0, 1]) (.seq (.reg [⟨(some 5), (.op (.mv (.c (.list [] .full)))), none⟩, ⟨(some 6), (.op (.mv (.c (.list [] .full)))), none⟩] [0, 1, 5, 6]) (.seq (.seq (.reg [⟨(some 24), (.op (.mv (.c (.int .i64 0)))), none⟩] [0, 1, 5, 6, 24]) (.block 0 (.loop (.seq (.reg [⟨(some 25), (.op (.bin .lss (.t 24) (.c (.int .i64 8)))), none⟩] [0, 1, 5, 6, 24, 25]) (.seq (.cond (.t 25) .skip (.exit 0)) (.seq (.block 1 (.seq (.reg [⟨(some 26), (.op (.mv (.t 24))), none⟩, ⟨(some 7), (.op (.mv (.t 26))), none⟩] [0, 1, 5, 6, 7, 24]) (.seq (.reg [⟨(some 27), (.op (.mv (.t 7))), none⟩, ⟨(some 28), (.op (.bin .add (.c (.int .i64 97)) (.t 27))), none⟩, ⟨(some 29), (.op (.conv (.int .u8) (.t 28))), none⟩, ⟨(some 30), (.op (.mklist 1 [(.t 29)])), none⟩, ⟨(some 31), (.op (.conv .ofBytes (.t 30))), none⟩, ⟨(some 8), (.op (.mv (.t 31))), none⟩] [0, 1, 5, 6, 7, 8, 24]) (.seq (.seq (.reg [⟨(some 32), (.op (.mv (.t 7))), none⟩, ⟨(some 33), (.op (.mv (.t 0))), none⟩, ⟨(some 34), (.op (.len false (.t 33))), none⟩, ⟨(some 35), (.op (.bin .lss (.t 32) (.t 34))), none⟩, ⟨(some 36), (.op (.mv (.t 35))), none⟩, ⟨(some 37), (.op (.mv (.t 0))), (some (36, true))⟩, ⟨(some 38), (.op (.mv (.t 7))), (some (36, true))⟩, ⟨(some 39), (.op (.iaddr 1 (.t 37) (.t 38))), (some (36, true))⟩, ⟨(some 40), (.op (.load none (.t 39))), (some (36, true))⟩, ⟨(some 41), (.op (.bin .rem (.t 40) (.c (.int .i64 3)))), (some (36, true))⟩, ⟨(some 42), (.op (.eqv true .int (.t 41) (.c (.int .i64 0)))), (some (36, true))⟩, ⟨(some 43), (.op (.pick (.t 36) (.t 42) (.c (.bool false)))), none⟩] [0, 1, 5, 6, 7, 8, 24, 43]) (.cond (.t 43) (.reg [⟨(some 44), (.op (.mv (.t 5))), none⟩, ⟨(some 45), (.op (.mv (.t 8))), none⟩, ⟨(some 46), (.op (.mv (.t 0))), none⟩, ⟨(some 47), (.op (.mv (.t 7))), none⟩, ⟨(some 48), (.op (.iaddr 1 (.t 46) (.t 47))), none⟩, ⟨(some 49), (.op (.load none (.t 48))), none⟩, ⟨(some 50), (.call 17 [(.t 49), (.c (.int .i64 4))]), none⟩, ⟨(some 51), (.op (.bin .add (.c (.int .i64 1)) (.t 50))), none⟩, ⟨(some 52), (.op (.build [(.str []), (.int .i64 0)] [(0, 1, (.t 45)), (1, 1, (.t 51))])), none⟩, ⟨(some 53), (.op (.mklist 2 [(.t 52)])), none⟩, ⟨(some 54), (.op (.append 2 24 (.t 44) (.t 53))), none⟩, ⟨(some 5), (.op (.mv (.t 54))), none⟩] [0, 1, 5, 6, 7, 8, 24]) .skip)) (.seq (.reg [⟨(some 55), (.op (.mv (.t 7))), none⟩, ⟨(some 56), (.op (.mv (.t 1))), none⟩, ⟨(some 57), (.op (.len false (.t 56))), none⟩, ⟨(some 58), (.op (.bin .lss (.t 55) (.t 57))), none⟩, ⟨(some 59), (.op (.mv (.t 58))), none⟩, ⟨(some 60), (.op (.mv (.t 1))), (some (59, true))⟩, ⟨(some 61), (.op (.mv (.t 7))), (some (59, true))⟩, ⟨(some 62), (.op (.iaddr 1 (.t 60) (.t 61))), (some (59, true))⟩, ⟨(some 63), (.op (.load none (.t 62))), (some (59, true))⟩, ⟨(some 64), (.op (.bin .rem (.t 63) (.c (.int .i64 3)))), (some (59, true))⟩, ⟨(some 65), (.op (.eqv true .int (.t 64) (.c (.int .i64 0)))), (some (59, true))⟩, ⟨(some 66), (.op (.pick (.t 59) (.t 65) (.c (.bool false)))), none⟩] [0, 1, 5, 6, 7, 8, 24, 66]) (.cond (.t 66) (.reg [⟨(some 67), (.op (.mv (.t 6))), none⟩, ⟨(some 68), (.op (.mv (.t 8))), none⟩, ⟨(some 69), (.op (.mv (.t 1))), none⟩, ⟨(some 70), (.op (.mv (.t 7))), none⟩, ⟨(some 71), (.op (.iaddr 1 (.t 69) (.t 70))), none⟩, ⟨(some 72), (.op (.load none (.t 71))), none⟩, ⟨(some 73), (.call 17 [(.t 72), (.c (.int .i64 4))]), none⟩, ⟨(some 74), (.op (.bin .add (.c (.int .i64 1)) (.t 73))), none⟩, ⟨(some 75), (.op (.build [(.str []), (.int .i64 0)] [(0, 1, (.t 68)), (1, 1, (.t 74))])), none⟩, ⟨(some 76), (.op (.mklist 2 [(.t 75)])), none⟩, ⟨(some 77), (.op (.append 2 24 (.t 67) (.t 76))), none⟩, ⟨(some 6), (.op (.mv (.t 77))), none⟩] [0, 1, 5, 6, 24]) .skip)))))) (.reg [⟨(some 78), (.op (.bin .add (.t 24) (.c (.int .i64 1)))), none⟩, ⟨(some 24), (.op (.mv (.t 78))), none⟩] [0, 1, 5, 6, 24]))))))) (.seq (.reg [⟨(some 80), (.op (.mv (.t 5))), none⟩, ⟨(some 81), (.op (.mv (.t 6))), none⟩, ⟨(some 82), (.call 18 [(.t 80), (.t 81)]), none⟩, ⟨(some 79), (.op (.mv (.t 82))), none⟩, ⟨(some 83), (.op (.extract (.t 79) 0)), none⟩, ⟨(some 84), (.op (.extract (.t 79) 1)), none⟩, ⟨(some 9), (.op (.mv (.t 83))), none⟩, ⟨(some 10), (.op (.mv (.t 84))), none⟩] [5, 6, 9, 10]) (.seq (.reg [⟨(some 86), (.op (.mv (.t 5))), none⟩, ⟨(some 87), (.op (.mv (.t 5))), none⟩, ⟨(some 88), (.call 18 [(.t 86), (.t 87)]), none⟩, ⟨(some 85), (.op (.mv (.t 88))), none⟩, ⟨(some 89), (.op (.extract (.t 85) 0)), none⟩, ⟨(some 90), (.op (.extract (.t 85) 1)), none⟩, ⟨(some 11), (.op (.mv (.t 89))), none⟩, ⟨(some 12), (.op (.mv (.t 90))), none⟩] [5, 6, 9, 10, 11, 12]) (.seq (.reg [⟨(some 92), (.op (.build [(.str []), (.int .i64 0)] [(0, 1, (.c (.str [97]))), (1, 1, (.c (.int .i64 2)))])), none⟩, ⟨(some 93), (.op (.mklist 2 [(.t 92)])), none⟩, ⟨(some 94), (.call 18 [(.c (.list [] .full)), (.t 93)]), none⟩, ⟨(some 91), (.op (.mv (.t 94))), none⟩, ⟨(some 95), (.op (.extract (.t 91) 0)), none⟩, ⟨(some 96), (.op (.extract (.t 91) 1)), none⟩, ⟨(some 13), (.op (.mv (.t 95))), none⟩, ⟨(some 14), (.op (.mv (.t 96))), none⟩] [5, 6, 9, 10, 11, 12, 13, 14]) (.seq (.seq (.reg [⟨(some 97), (.op (.mv (.t 10))), none⟩, ⟨(some 98), (.op (.eqv true .int (.t 97) (.c (.int .i64 0)))), none⟩, ⟨(some 99), (.op (.mv (.t 98))), none⟩, ⟨(some 100), (.op (.mv (.t 12))), (some (99, false))⟩, ⟨(some 101), (.op (.eqv true .int (.t 100) (.c (.int .i64 0)))), (some (99, false))⟩, ⟨(some 102), (.op (.pick (.t 99) (.c (.bool true)) (.t 101))), none⟩, ⟨(some 103), (.op (.mv (.t 102))), none⟩, ⟨(some 104), (.op (.mv (.t 14))), (some (103, false))⟩, ⟨(some 105), (.op (.eqv true .int (.t 104) (.c (.int .i64 0)))), (some (103, false))⟩, ⟨(some 106), (.op (.pick (.t 103) (.c (.bool true)) (.t 105))), none⟩, ⟨(some 107), (.op (.mv (.t 106))), none⟩, ⟨(some 108), (.op (.mv (.t 11))), (some (107, false))⟩, ⟨(some 109), (.op (.len false (.t 108))), (some (107, false))⟩, ⟨(some 110), (.op (.eqv true .int (.t 109) (.c (.int .i64 0)))), (some (107, false))⟩, ⟨(some 111), (.op (.pick (.t 107) (.c (.bool true)) (.t 110))), none⟩, ⟨(some 112), (.op (.mv (.t 111))), none⟩, ⟨(some 113), (.op (.mv (.t 13))), (some (112, false))⟩, ⟨(some 114), (.op (.build [(.str []), (.int .i64 0), (.int .i64 0)] [(0, 1, (.c (.str [97]))), (2, 1, (.c (.int .i64 2)))])), (some (112, false))⟩, ⟨(some 115), (.op (.mklist 3 [(.t 114)])), (some (112, false))⟩, ⟨(some 116), (.call 19 [(.t 113), (.t 115)]), (some (112, false))⟩, ⟨(some 117), (.op (.un .not (.t 116))), (some (112, false))⟩, ⟨(some 118), (.op (.pick (.t 112) (.c (.bool true)) (.t 117))), none⟩] [5, 6, 9, 118]) (.cond (.t 118) (.seq (.reg [⟨(some 4), (.op (.mv (.c (.bool false)))), none⟩] [4]) .ret) .skip)) (.seq (.reg [⟨(some 119), (.op (.mkmap none)), none⟩, ⟨(some 15), (.op (.mv (.t 119))), none⟩] [5, 6, 9, 15]) (.seq (.seq (.reg [⟨(some 120), (.op (.mv (.t 5))), none⟩, ⟨(some 121), (.op (.len false (.t 120))), none⟩, ⟨(some 122), (.op (.mv (.c (.int .i64 0)))), none⟩] [6, 9, 15, 120, 121, 122]) (.block 2 (.loop (.seq (.reg [⟨(some 123), (.op (.bin .lss (.t 122) (.t 121))), none⟩] [6, 9, 15, 120, 121, 122, 123]) (.seq (.cond (.t 123) .skip (.exit 2)) (.seq (.block 3 (.seq (.reg [⟨(some 124), (.op (.iaddr 2 (.t 120) (.t 122))), none⟩, ⟨(some 125), (.op (.load (some 2) (.t 124))), none⟩, ⟨(some 17), (.op (.alloc none [(.str []), (.int .i64 0)])), none⟩, ⟨none, (.op (.store 2 (.t 17) (.t 125))), none⟩] [6, 9, 15, 17, 120, 121, 122]) (.reg [⟨(some 126), (.op (.mv (.t 15))), none⟩, ⟨(some 127), (.op (.faddr 0 1 (.t 17))), none⟩, ⟨(some 128), (.op (.load none (.t 127))), none⟩, ⟨(some 129), (.op (.faddr 1 1 (.t 17))), none⟩, ⟨(some 130), (.op (.load none (.t 129))), none⟩, ⟨none, (.op (.mapset .str (.t 126) (.t 128) (.t 130))), none⟩] [6, 9, 15, 120, 121, 122]))) (.reg [⟨(some 131), (.op (.bin .add (.t 122) (.c (.int .i64 1)))), none⟩, ⟨(some 122), (.op (.mv (.t 131))), none⟩] [6, 9, 15, 120, 121, 122]))))))) (.seq (.seq (.reg [⟨(some 132), (.op (.mv (.t 9))), none⟩, ⟨(some 133), (.op (.len false (.t 132))), none⟩, ⟨(some 134), (.op (.mv (.c (.int .i64 0)))), none⟩] [6, 15, 132, 133, 134]) (.block 4 (.loop (.seq (.reg [⟨(some 135), (.op (.bin .lss (.t 134) (.t 133))), none⟩] [6, 15, 132, 133, 134, 135]) (.seq (.cond (.t 135) .skip (.exit 4)) (.seq (.block 5 (.seq (.reg [⟨(some 136), (.op (.iaddr 3 (.t 132) (.t 134))), none⟩, ⟨(some 137), (.op (.load (some 3) (.t 136))), none⟩, ⟨(some 19), (.op (.alloc none [(.str []), (.int .i64 0), (.int .i64 0)])), none⟩, ⟨none, (.op (.store 3 (.t 19) (.t 137))), none⟩] [6, 15, 19, 132, 133, 134]) (.seq (.seq (.reg [⟨(some 138), (.op (.mv (.t 15))), none⟩, ⟨(some 139), (.op (.faddr 0 1 (.t 19))), none⟩, ⟨(some 140), (.op (.load none (.t 139))), none⟩, ⟨(some 141), (.op (.lookup .str (.int .i64 0) false (.t 138) (.t 140))), none⟩, ⟨(some 142), (.op (.faddr 1 1 (.t 19))), none⟩, ⟨(some 143), (.op (.load none (.t 142))), none⟩, ⟨(some 144), (.op (.eqv true .int (.t 141) (.t 143))), none⟩, ⟨(some 145), (.op (.mv (.t 144))), none⟩, ⟨(some 146), (.op (.faddr 1 1 (.t 19))), (some (145, false))⟩, ⟨(some 147), (.op (.load none (.t 146))), (some (145, false))⟩, ⟨(some 148), (.op (.faddr 2 1 (.t 19))), (some (145, false))⟩, ⟨(some 149), (.op (.load none (.t 148))), (some (145, false))⟩, ⟨(some 150), (.op (.eqv false .int (.t 147) (.t 149))), (some (145, false))⟩, ⟨(some 151), (.op (.pick (.t 145) (.c (.bool true)) (.t 150))), none⟩] [6, 15, 19, 132, 133, 134, 151]) (.cond (.t 151) (.seq (.reg [⟨(some 4), (.op (.mv (.c (.bool false)))), none⟩] [4]) .ret) .skip)) (.reg [⟨(some 152), (.op (.mv (.t 15))), none⟩, ⟨(some 153), (.op (.faddr 0 1 (.t 19))), none⟩, ⟨(some 154), (.op (.load none (.t 153))), none⟩, ⟨(some 155), (.op (.faddr 2 1 (.t 19))), none⟩, ⟨(some 156), (.op (.load none (.t 155))), none⟩, ⟨none, (.op (.mapset .str (.t 152) (.t 154) (.t 156))), none⟩] [6, 15, 132, 133, 134])))) (.reg [⟨(some 157), (.op (.bin .add (.t 134) (.c (.int .i64 1)))), none⟩, ⟨(some 134), (.op (.mv (.t 157))), none⟩] [6, 15, 132, 133, 134]))))))) (.seq (.seq (.reg [⟨(some 158), (.op (.mv (.t 6))), none⟩, ⟨(some 159), (.op (.len false (.t 158))), none⟩, ⟨(some 160), (.op (.mv (.c (.int .i64 0)))), none⟩] [15, 158, 159, 160]) (.block 6 (.loop (.seq (.reg [⟨(some 161), (.op (.bin .lss (.t 160) (.t 159))), none⟩] [15, 158, 159, 160, 161]) (.seq (.cond (.t 161) .skip (.exit 6)) (.seq (.block 7 (.seq (.reg [⟨(some 162), (.op (.iaddr 2 (.t 158) (.t 160))), none⟩, ⟨(some 163), (.op (.load (some 2) (.t 162))), none⟩, ⟨(some 21), (.op (.alloc none [(.str []), (.int .i64 0)])), none⟩, ⟨none, (.op (.store 2 (.t 21) (.t 163))), none⟩] [15, 21, 158, 159, 160]) (.seq (.seq (.reg [⟨(some 164), (.op (.mv (.t 15))), none⟩, ⟨(some 165), (.op (.faddr 0 1 (.t 21))), none⟩, ⟨(some 166), (.op (.load none (.t 165))), none⟩, ⟨(some 167), (.op (.lookup .str (.int .i64 0) false (.t 164) (.t 166))), none⟩, ⟨(some 168), (.op (.faddr 1 1 (.t 21))), none⟩, ⟨(some 169), (.op (.load none (.t 168))), none⟩, ⟨(some 170), (.op (.eqv true .int (.t 167) (.t 169))), none⟩] [15, 21, 158, 159, 160, 170]) (.cond (.t 170) (.seq (.reg [⟨(some 4), (.op (.mv (.c (.bool false)))), none⟩] [4]) .ret) .skip)) (.reg [⟨(some 171), (.op (.mv (.t 15))), none⟩, ⟨(some 172), (.op (.faddr 0 1 (.t 21))), none⟩, ⟨(some 173), (.op (.load none (.t 172))), none⟩, ⟨none, (.op (.mapdel .str (.t 171) (.t 173))), none⟩] [15, 158, 159, 160])))) (.reg [⟨(some 174), (.op (.bin .add (.t 160) (.c (.int .i64 1)))), none⟩, ⟨(some 160), (.op (.mv (.t 174))), none⟩] [15, 158, 159, 160]))))))) (.seq (.seq (.reg [⟨(some 175), (.op (.mv (.t 15))), none⟩, ⟨(some 176), (.op (.range false (.t 175))), none⟩] [176]) (.block 8 (.loop (.seq (.reg [⟨(some 177), (.op (.next false (.t 176))), none⟩, ⟨(some 178), (.op (.extract (.t 177) 0)), none⟩] [176, 178]) (.seq (.cond (.t 178) .skip (.exit 8)) (.block 9 (.seq (.reg [⟨(some 179), (.op (.entry (.t 176))), none⟩, ⟨(some 180), (.op (.extract (.t 179) 1)), none⟩, ⟨(some 23), (.op (.mv (.t 180))), none⟩] [23, 176]) (.seq (.reg [⟨(some 181), (.op (.mv (.t 23))), none⟩, ⟨(some 182), (.op (.eqv true .int (.t 181) (.c (.int .i64 0)))), none⟩] [176, 182]) (.cond (.t 182) (.seq (.reg [⟨(some 4), (.op (.mv (.c (.bool false)))), none⟩] [4]) .ret) .skip))))))))) (.seq (.reg [⟨(some 4), (.op (.mv (.c (.bool true)))), none⟩] [4]) .ret)))))))))))))
def ha4 : Ann := ⟨[], [], [(0, [0, 1]), (1, [0, 1, 5, 6]), (2, [0, 1, 5, 6, 24]), (3, [0, 1, 5, 6, 24, 25]), (4, [0, 1, 5, 6, 7, 24]), (5, [0, 1, 5, 6, 7, 8, 24]), (6, [0, 1, 5, 6, 7, 8, 24, 43]), (7, [0, 1, 5, 6, 7, 8, 24]), (8, [0, 1, 5, 6, 7, 8, 24, 66]), (9, [0, 1, 5, 6, 24]), (10, [0, 1, 5, 6, 24]), (11, [5, 6, 9, 10]), (12, [5, 6, 9, 10, 11, 12]), (13, [5, 6, 9, 10, 11, 12, 13, 14]), (14, [5, 6, 9, 118]), (15, [4]), (16, [5, 6, 9, 15]), (17, [6, 9, 15, 120, 121, 122]), (18, [6, 9, 15, 120, 121, 122, 123]), (19, [6, 9, 15, 17, 120, 121, 122]), (20, [6, 9, 15, 120, 121, 122]), (21, [6, 9, 15, 120, 121, 122]), (22, [6, 15, 132, 133, 134]), (23, [6, 15, 132, 133, 134, 135]), (24, [6, 15, 19, 132, 133, 134]), (25, [6, 15, 19, 132, 133, 134, 151]), (26, [4]), (27, [6, 15, 132, 133, 134]), (28, [6, 15, 132, 133, 134]), (29, [15, 158, 159, 160]), (30, [15, 158, 159, 160, 161]), (31, [15, 21, 158, 159, 160]), (32, [15, 21, 158, 159, 160, 170]), (33, [4]), (34, [15, 158, 159, 160]), (35, [15, 158, 159, 160]), (36, [176]), (37, [176, 178]), (38, [23, 176]), (39, [176, 182]), (40, [4]), (41, [4])]⟩
theorem hk4 : comp Try.prog ha4 Try.f4.ntmps Try.f4.code = some hc4 := by kernel_rfl
def w4 (p1 : List (Int)) (p2 : List (Int)) (Q : Bool → Prop) : Prop :=
  ∃ (I28 : (List GSolve_Pick) → (List GSolve_Pick) → Int → Prop) (M29 : (List GSolve_Pick) → (List GSolve_Pick) → Int → Nat), I28 ([] : List GSolve_Pick) ([] : List GSolve_Pick) (0 : Int) ∧ ∀ (v3 : List GSolve_Pick) (v4 : List GSolve_Pick) (v5 : Int), I28 v3 v4 v5 → ∀ v30 : Bool, v30 = decide (v5 < (8 : Int)) → ((v30 = true → (-9223372036854775808 ≤ (97 : Int) + v5 ∧ (97 : Int) + v5 ≤ 9223372036854775807) ∧ ∀ v31 : Int, v31 = (97 : Int) + v5 → ∀ v32 : Int, v32 = IntKind.wrap .u8 v31 → (∀ m ∈ ([v32] : List Int), 0 ≤ m ∧ m < 256) ∧ ∃ J36 : (List GSolve_Pick) → Int → Int → Prop, (((v5 < (p1.length : Int) → (0 ≤ v5 ∧ v5 < (p1.length : Int)) ∧ ∀ a37 : Int, p1[(v5 : Int).toNat]? = some a37 → ((3 : Int) ≠ 0) ∧ ∀ v38 : Int, v38 = (a37).tmod (3 : Int) → ((v38 ≠ (0 : Int) → (0 ≤ v5 ∧ v5 < (p1.length : Int)) ∧ ∀ a39 : Int, p1[(v5 : Int).toNat]? = some a39 → ∃ r40 : Int, sp17 a39 (4 : Int) r40 ∧ (-9223372036854775808 ≤ (1 : Int) + r40 ∧ (1 : Int) + r40 ≤ 9223372036854775807) ∧ ∀ v41 : Int, v41 = (1 : Int) + r40 → ((v3.length + ([(GSolve_Pick.mk ([v32].map (fun m : Int => UInt8.ofNat m.toNat)) v41)] : List GSolve_Pick).length) * 24 ≤ 140737488355328) ∧ ∀ v42 : List GSolve_Pick, v42 = v3 ++ ([(GSolve_Pick.mk ([v32].map (fun m : Int => UInt8.ofNat m.toNat)) v41)] : List GSolve_Pick) → J36 v42 v5 v5) ∧ (v38 = (0 : Int) → J36 v3 v5 v5))) ∧ ((p1.length : Int) ≤ v5 → J36 v3 v5 v5))) ∧ ∀ (v33 : List GSolve_Pick) (v34 : Int) (v35 : Int), J36 v33 v34 v35 → ((v34 < (p2.length : Int) → (0 ≤ v34 ∧ v34 < (p2.length : Int)) ∧ ∀ a43 : Int, p2[(v34 : Int).toNat]? = some a43 → ((3 : Int) ≠ 0) ∧ ∀ v44 : Int, v44 = (a43).tmod (3 : Int) → ((v44 ≠ (0 : Int) → (0 ≤ v34 ∧ v34 < (p2.length : Int)) ∧ ∀ a45 : Int, p2[(v34 : Int).toNat]? = some a45 → ∃ r46 : Int, sp17 a45 (4 : Int) r46 ∧ (-9223372036854775808 ≤ (1 : Int) + r46 ∧ (1 : Int) + r46 ≤ 9223372036854775807) ∧ ∀ v47 : Int, v47 = (1 : Int) + r46 → ((v4.length + ([(GSolve_Pick.mk ([v32].map (fun m : Int => UInt8.ofNat m.toNat)) v47)] : List GSolve_Pick).length) * 24 ≤ 140737488355328) ∧ ∀ v48 : List GSolve_Pick, v48 = v4 ++ ([(GSolve_Pick.mk ([v32].map (fun m : Int => UInt8.ofNat m.toNat)) v47)] : List GSolve_Pick) → (-9223372036854775808 ≤ v35 + (1 : Int) ∧ v35 + (1 : Int) ≤ 9223372036854775807) ∧ ∀ v49 : Int, v49 = v35 + (1 : Int) → (I28 v33 v48 v49 ∧ M29 v33 v48 v49 < M29 v3 v4 v5)) ∧ (v44 = (0 : Int) → (-9223372036854775808 ≤ v35 + (1 : Int) ∧ v35 + (1 : Int) ≤ 9223372036854775807) ∧ ∀ v50 : Int, v50 = v35 + (1 : Int) → (I28 v33 v4 v50 ∧ M29 v33 v4 v50 < M29 v3 v4 v5)))) ∧ ((p2.length : Int) ≤ v34 → (-9223372036854775808 ≤ v35 + (1 : Int) ∧ v35 + (1 : Int) ≤ 9223372036854775807) ∧ ∀ v51 : Int, v51 = v35 + (1 : Int) → (I28 v33 v4 v51 ∧ M29 v33 v4 v51 < M29 v3 v4 v5)))) ∧ (v30 = false → ∃ r52 : List (GLock_Turn) × Int, sp18 v3 v4 r52 ∧ ∃ r53 : List (GLock_Turn) × Int, sp18 v3 v3 r53 ∧ ∃ r54 : List (GLock_Turn) × Int, sp18 ([] : List GSolve_Pick) ([(GSolve_Pick.mk [97] (2 : Int))] : List GSolve_Pick) r54 ∧ ((r52.2 ≠ (0 : Int) → Q false) ∧ (r52.2 = (0 : Int) → ((r53.2 ≠ (0 : Int) → Q false) ∧ (r53.2 = (0 : Int) → ((r54.2 ≠ (0 : Int) → Q false) ∧ (r54.2 = (0 : Int) → (((r53.1.length : Int) ≠ (0 : Int) → Q false) ∧ ((r53.1.length : Int) = (0 : Int) → ∃ r55 : Bool, sp19 r54.1 ([(GLock_Turn.mk [97] (0 : Int) (2 : Int))] : List GLock_Turn) r55 ∧ (((!r55) = true → Q false) ∧ ((!r55) = false → ∃ (I63 : (GM (List UInt8) Int) → Int → Int → Prop) (M64 : (GM (List UInt8) Int) → Int → Int → Nat), I63 GM.nil (v3.length : Int) (0 : Int) ∧ ∀ (v56 : GM (List UInt8) Int) (v57 : Int) (v58 : Int), I63 v56 v57 v58 → ∀ v65 : Bool, v65 = decide (v58 < v57) → ((v65 = true → (0 ≤ v58 ∧ v58 < (v3.length : Int)) ∧ ∀ a66 : GSolve_Pick, v3[(v58 : Int).toNat]? = some a66 → ∀ m67 : GM (List UInt8) Int, m67 = v56.put a66.Name a66.Version → (-9223372036854775808 ≤ v58 + (1 : Int) ∧ v58 + (1 : Int) ≤ 9223372036854775807) ∧ ∀ v68 : Int, v68 = v58 + (1 : Int) → (I63 m67 v57 v68 ∧ M64 m67 v57 v68 < M64 v56 v57 v58)) ∧ (v65 = false → ∃ (I76 : (GM (List UInt8) Int) → Int → Prop) (M77 : (GM (List UInt8) Int) → Int → Nat), I76 v56 (0 : Int) ∧ ∀ (v69 : GM (List UInt8) Int) (v70 : Int), I76 v69 v70 → ∀ v78 : Bool, v78 = decide (v70 < (r52.1.length : Int)) → ((v78 = true → (0 ≤ v70 ∧ v70 < (r52.1.length : Int)) ∧ ∀ a79 : GLock_Turn, r52.1[(v70 : Int).toNat]? = some a79 → ∀ v80 : Int, v80 = (v69.get a79.Name).getD (0 : Int) → ((v80 ≠ a79.Old → Q false) ∧ (v80 = a79.Old → ((a79.Old = a79.New → Q false) ∧ (a79.Old ≠ a79.New → ∀ m81 : GM (List UInt8) Int, m81 = v69.put a79.Name a79.New → (-9223372036854775808 ≤ v70 + (1 : Int) ∧ v70 + (1 : Int) ≤ 9223372036854775807) ∧ ∀ v82 : Int, v82 = v70 + (1 : Int) → (I76 m81 v82 ∧ M77 m81 v82 < M77 v69 v70)))))) ∧ (v78 = false → ∃ (I90 : (GM (List UInt8) Int) → Int → Prop) (M91 : (GM (List UInt8) Int) → Int → Nat), I90 v69 (0 : Int) ∧ ∀ (v83 : GM (List UInt8) Int) (v84 : Int), I90 v83 v84 → ∀ v92 : Bool, v92 = decide (v84 < (v4.length : Int)) → ((v92 = true → (0 ≤ v84 ∧ v84 < (v4.length : Int)) ∧ ∀ a93 : GSolve_Pick, v4[(v84 : Int).toNat]? = some a93 → ∀ v94 : Int, v94 = (v83.get a93.Name).getD (0 : Int) → ((v94 ≠ a93.Version → Q false) ∧ (v94 = a93.Version → ∀ m95 : GM (List UInt8) Int, m95 = v83.del a93.Name → (-9223372036854775808 ≤ v84 + (1 : Int) ∧ v84 + (1 : Int) ≤ 9223372036854775807) ∧ ∀ v96 : Int, v96 = v84 + (1 : Int) → (I90 m95 v96 ∧ M91 m95 v96 < M91 v83 v84)))) ∧ (v92 = false → ∃ (I106 : (List Nat) → Prop) (M107 : (List Nat) → Nat), I106 ([] : List Nat) ∧ ∀ (v97 : List Nat), I106 v97 → ∃ J110 : (List Nat) → Bool → Prop, (((v97 = [] ∨ v83.es = [] ∨ ∃ p ∈ v83.es, p.1 < v83.c) ∧ (∀ (n111 : Nat) (k112 : List UInt8) (v113 : Int), (n111, k112, v113) ∈ v83.es → n111 ∉ v97 → J110 (v97 ++ [n111]) true) ∧ ((∀ p ∈ v83.es, p.1 ∉ v97 → v83.c ≤ p.1) → J110 v97 false))) ∧ ∀ (v108 : List Nat) (v109 : Bool), J110 v108 v109 → ((v109 = true → ∃ n, (v108).getLast? = some n ∧ v83.c = v83.c ∧ (∃ p : Nat × (List UInt8) × Int, v83.es.find? (fun p => p.1 == n) = some p) ∧ ∀ (n' : Nat) (k114 : List UInt8) (v115 : Int), v83.es.find? (fun p => p.1 == n) = some (n', k114, v115) → ((v115 ≠ (0 : Int) → Q false) ∧ (v115 = (0 : Int) → (I106 v108 ∧ M107 v108 < M107 v97)))) ∧ (v109 = false → Q true))))))))))))))))))))
theorem ok4 (p1 : List (Int)) (p2 : List (Int)) (r : Bool) (hw : w4 p1 p2 fun r' => r' = r) : sp4 p1 p2 r := by
  refine p_func (rs := [.t 4]) (g := fun r : Bool => .bool r) Try.func4 rfl (by decide) (by kernel_rfl) (Nat.le_of_ble_eq_true rfl) hk4 (pvc ((enc_lst (enc_int .i64)).all _) (pvc ((enc_lst (enc_int .i64)).all _) pvn)) (.bool _) ?_
  unfold w4 at hw
  show SC Try.prog Try.f4.ntmps 0 hc4 _ [(0, .list (List.map (eInt .i64) p1) .none), (1, .list (List.map (eInt .i64) p2) .none)] []
  unfold hc4
  refine sc_seq ?_
  refine s_reg (st_mv rfl (g_end [(0, .list (List.map (eInt .i64) p1) .none), (1, .list (List.map (eInt .i64) p2) .none)] rfl ?_))
  refine sq_n ?_
  refine sc_seq ?_
  refine s_reg (st_mv rfl (st_mv rfl (g_end [(0, .list (List.map (eInt .i64) p1) .none), (1, .list (List.map (eInt .i64) p2) .none), (5, .list (List.map eGSolve_Pick ([] : List GSolve_Pick)) .full), (6, .list (List.map eGSolve_Pick ([] : List GSolve_Pick)) .full)] rfl ?_)))
  refine sq_n ?_
  refine sc_seq ?_
  refine sc_seq ?_
  refine s_reg (st_mv rfl (g_end [(0, .list (List.map (eInt .i64) p1) .none), (1, .list (List.map (eInt .i64) p2) .none), (5, .list (List.map eGSolve_Pick ([] : List GSolve_Pick)) .full), (6, .list (List.map eGSolve_Pick ([] : List GSolve_Pick)) .full), (24, .int .i64 (0 : Int))] rfl ?_))
  refine sq_n ?_
  refine sc_block ?_
  obtain ⟨I28, M29, hi, hw⟩ := hw
  refine sc_loop (X := { x : List GSolve_Pick × List GSolve_Pick × Int // I28 x.1 x.2.1 x.2.2 }) (fun x => ([(0, .list (List.map (eInt .i64) p1) .none), (1, .list (List.map (eInt .i64) p2) .none), (5, .list (List.map eGSolve_Pick x.1.1) (.own 0 1 2)), (6, .list (List.map eGSolve_Pick x.1.2.1) (.own 1 1 2)), (24, .int .i64 x.1.2.2)], [.tok (1 + x.1.1.length), .tok (1 + x.1.2.1.length)])) (fun x => M29 x.1.1 x.1.2.1 x.1.2.2) ⟨(([] : List GSolve_Pick), ([] : List GSolve_Pick), (0 : Int)), hi⟩ ((w_acc (l := ([] : List GSolve_Pick)) 5 2 (n := 0) rfl enc_GSolve_Pick rfl).trans ((w_acc (l := ([] : List GSolve_Pick)) 6 2 (n := 1) rfl enc_GSolve_Pick rfl).trans (WeakF.of (Weak.sub (sub_cons rfl (.inl rfl) (sub_cons rfl (.inl rfl) (sub_cons rfl (.inl rfl) (sub_cons rfl (.inl rfl) (sub_cons rfl (.inl rfl) sub_nil))))))))) ?_
  rintro ⟨⟨v3, v4, v5⟩, hi2⟩
  have hw := hw v3 v4 v5 hi2
  clear hi
  refine sc_seq ?_
  refine s_reg (gb_cmp rfl rfl trivial rfl hw fun v30 hw => g_end [(0, .list (List.map (eInt .i64) p1) .none), (1, .list (List.map (eInt .i64) p2) .none), (5, .list (List.map eGSolve_Pick v3) (.own 0 1 2)), (6, .list (List.map eGSolve_Pick v4) (.own 1 1 2)), (24, .int .i64 v5), (25, .bool v30)] rfl ?_)
  refine sq_n ?_
  refine sc_seq ?_
  refine s_cond rfl hw (fun hw => ?_) (fun hw => ?_)
  · refine sc_skip ?_
    refine sq_n ?_
    refine sc_seq ?_
    refine sc_block ?_
    refine sc_seq ?_
    refine s_reg (st_mv rfl (st_mv rfl (g_end [(0, .list (List.map (eInt .i64) p1) .none), (1, .list (List.map (eInt .i64) p2) .none), (5, .list (List.map eGSolve_Pick v3) (.own 0 1 2)), (6, .list (List.map eGSolve_Pick v4) (.own 1 1 2)), (7, .int .i64 v5), (24, .int .i64 v5)] rfl ?_)))
    refine sq_n ?_
    refine sc_seq ?_
    refine s_reg (st_mv rfl (g_add rfl rfl hw fun v31 hw => g_conv rfl hw fun v32 hw => g_mkb (ms := [v32]) (ev_cons rfl ev_nil) hw fun hw => st_ofbytes rfl (st_mv rfl (g_end [(0, .list (List.map (eInt .i64) p1) .none), (1, .list (List.map (eInt .i64) p2) .none), (5, .list (List.map eGSolve_Pick v3) (.own 0 1 2)), (6, .list (List.map eGSolve_Pick v4) (.own 1 1 2)), (7, .int .i64 v5), (8, .str ([v32].map (fun m : Int => UInt8.ofNat m.toNat))), (24, .int .i64 v5)] rfl ?_))))
    refine sq_n ?_
    obtain ⟨J36, hw, hk⟩ := hw
    refine sc_join (A := List GSolve_Pick × Int × Int) (fun x => J36 x.1 x.2.1 x.2.2) (fun x => ([(0, .list (List.map (eInt .i64) p1) .none), (1, .list (List.map (eInt .i64) p2) .none), (5, .list (List.map eGSolve_Pick x.1) (.own 0 1 2)), (6, .list (List.map eGSolve_Pick v4) (.own 1 1 2)), (7, .int .i64 x.2.1), (8, .str ([v32].map (fun m : Int => UInt8.ofNat m.toNat))), (24, .int .i64 x.2.2)], [.tok (1 + x.1.length), .tok (1 + v4.length)])) ?_ ?_
    · rintro ⟨v33, v34, v35⟩ hj
      have hw := hk v33 v34 v35 hj
      clear hk hj
      refine sc_seq ?_
      refine s_reg (st_mv rfl (st_mv rfl (g_len rfl (g_lss rfl rfl hw (fun hw => st_mv rfl (st_g rfl (st_mv rfl (st_g rfl (st_mv rfl (st_g rfl (g_iaddr (enc_int .i64) rfl rfl hw fun a43 hw => st_g rfl (st_load_r (v := .int .i64 a43) rfl rfl (st_g rfl (g_rem rfl rfl hw fun v44 hw => st_g rfl (g_nei rfl rfl hw (fun hw => st_pick_t rfl rfl rfl (g_end [(0, .list (List.map (eInt .i64) p1) .none), (1, .list (List.map (eInt .i64) p2) .none), (5, .list (List.map eGSolve_Pick v33) (.own 0 1 2)), (6, .list (List.map eGSolve_Pick v4) (.own 1 1 2)), (7, .int .i64 v34), (8, .str ([v32].map (fun m : Int => UInt8.ofNat m.toNat))), (24, .int .i64 v35), (66, .bool true)] rfl ?_)) (fun hw => st_pick_t rfl rfl rfl (g_end [(0, .list (List.map (eInt .i64) p1) .none), (1, .list (List.map (eInt .i64) p2) .none), (5, .list (List.map eGSolve_Pick v33) (.own 0 1 2)), (6, .list (List.map eGSolve_Pick v4) (.own 1 1 2)), (7, .int .i64 v34), (8, .str ([v32].map (fun m : Int => UInt8.ofNat m.toNat))), (24, .int .i64 v35), (66, .bool false)] rfl ?_))))))))))))) (fun hw => st_mv rfl (st_gft rfl (st_gft rfl (st_gft rfl (st_gft rfl (st_gft rfl (st_gft rfl (st_pick_f rfl rfl rfl (g_end [(0, .list (List.map (eInt .i64) p1) .none), (1, .list (List.map (eInt .i64) p2) .none), (5, .list (List.map eGSolve_Pick v33) (.own 0 1 2)), (6, .list (List.map eGSolve_Pick v4) (.own 1 1 2)), (7, .int .i64 v34), (8, .str ([v32].map (fun m : Int => UInt8.ofNat m.toNat))), (24, .int .i64 v35), (66, .bool false)] rfl ?_)))))))))))))
      · refine sq_n ?_
        refine s_cond_t rfl ?_
        refine s_reg (st_mv rfl (st_mv rfl (st_mv rfl (st_mv rfl (g_iaddr (enc_int .i64) rfl rfl hw fun a45 hw => st_load_r (v := .int .i64 a45) rfl rfl (g_call (ev_cons rfl (ev_cons rfl ev_nil)) rfl hw fun r46 hw => g_add rfl rfl hw fun v47 hw => g_build (cs := [.str ([v32].map (fun m : Int => UInt8.ofNat m.toNat)), .int .i64 v47]) (ep_cons rfl (ep_cons rfl ep_nil)) rfl (g_mkl enc_GSolve_Pick [(GSolve_Pick.mk ([v32].map (fun m : Int => UInt8.ofNat m.toNat)) v47)] (ev_cons rfl ev_nil) rfl (mkc ⟨rfl, rfl⟩ mkn) (g_appo enc_GSolve_Pick rfl rfl rfl hw (fun z => [.tok (1 + v33.length), .tok (1 + z.length)]) (fun _ => rfl) fun v48 hw => st_mv rfl (g_end [(0, .list (List.map (eInt .i64) p1) .none), (1, .list (List.map (eInt .i64) p2) .none), (5, .list (List.map eGSolve_Pick v33) (.own 0 1 2)), (6, .list (List.map eGSolve_Pick v48) (.own 1 1 2)), (24, .int .i64 v35)] rfl ?_)))))))))
        refine bl_n ?_
        refine sq_n ?_
        refine s_reg (g_add rfl rfl hw fun v49 hw => st_mv rfl (g_end [(0, .list (List.map (eInt .i64) p1) .none), (1, .list (List.map (eInt .i64) p2) .none), (5, .list (List.map eGSolve_Pick v33) (.own 0 1 2)), (6, .list (List.map eGSolve_Pick v48) (.own 1 1 2)), (24, .int .i64 v49)] rfl ?_))
        exact lo_n ⟨(v33, v48, v49), hw.1⟩ hw.2 (WeakF.of (Weak.sub (sub_cons rfl (.inl rfl) (sub_cons rfl (.inl rfl) (sub_cons rfl (.inl rfl) (sub_cons rfl (.inl rfl) (sub_cons rfl (.inl rfl) sub_nil)))))))
      · refine sq_n ?_
        refine s_cond_f rfl ?_
        refine sc_skip ?_
        refine bl_n ?_
        refine sq_n ?_
        refine s_reg (g_add rfl rfl hw fun v50 hw => st_mv rfl (g_end [(0, .list (List.map (eInt .i64) p1) .none), (1, .list (List.map (eInt .i64) p2) .none), (5, .list (List.map eGSolve_Pick v33) (.own 0 1 2)), (6, .list (List.map eGSolve_Pick v4) (.own 1 1 2)), (24, .int .i64 v50)] rfl ?_))
        exact lo_n ⟨(v33, v4, v50), hw.1⟩ hw.2 (WeakF.of (Weak.sub (sub_cons rfl (.inl rfl) (sub_cons rfl (.inl rfl) (sub_cons rfl (.inl rfl) (sub_cons rfl (.inl rfl) (sub_cons rfl (.inl rfl) sub_nil)))))))
      · refine sq_n ?_
        refine s_cond_f rfl ?_
        refine sc_skip ?_
        refine bl_n ?_
        refine sq_n ?_
        refine s_reg (g_add rfl rfl hw fun v51 hw => st_mv rfl (g_end [(0, .list (List.map (eInt .i64) p1) .none), (1, .list (List.map (eInt .i64) p2) .none), (5, .list (List.map eGSolve_Pick v33) (.own 0 1 2)), (6, .list (List.map eGSolve_Pick v4) (.own 1 1 2)), (24, .int .i64 v51)] rfl ?_))
        exact lo_n ⟨(v33, v4, v51), hw.1⟩ hw.2 (WeakF.of (Weak.sub (sub_cons rfl (.inl rfl) (sub_cons rfl (.inl rfl) (sub_cons rfl (.inl rfl) (sub_cons rfl (.inl rfl) (sub_cons rfl (.inl rfl) sub_nil)))))))
    · clear hk
      refine sc_seq ?_
      refine s_reg (st_mv rfl (st_mv rfl (g_len rfl (g_lss rfl rfl hw (fun hw => st_mv rfl (st_g rfl (st_mv rfl (st_g rfl (st_mv rfl (st_g rfl (g_iaddr (enc_int .i64) rfl rfl hw fun a37 hw => st_g rfl (st_load_r (v := .int .i64 a37) rfl rfl (st_g rfl (g_rem rfl rfl hw fun v38 hw => st_g rfl (g_nei rfl rfl hw (fun hw => st_pick_t rfl rfl rfl (g_end [(0, .list (List.map (eInt .i64) p1) .none), (1, .list (List.map (eInt .i64) p2) .none), (5, .list (List.map eGSolve_Pick v3) (.own 0 1 2)), (6, .list (List.map eGSolve_Pick v4) (.own 1 1 2)), (7, .int .i64 v5), (8, .str ([v32].map (fun m : Int => UInt8.ofNat m.toNat))), (24, .int .i64 v5), (43, .bool true)] rfl ?_)) (fun hw => st_pick_t rfl rfl rfl (g_end [(0, .list (List.map (eInt .i64) p1) .none), (1, .list (List.map (eInt .i64) p2) .none), (5, .list (List.map eGSolve_Pick v3) (.own 0 1 2)), (6, .list (List.map eGSolve_Pick v4) (.own 1 1 2)), (7, .int .i64 v5), (8, .str ([v32].map (fun m : Int => UInt8.ofNat m.toNat))), (24, .int .i64 v5), (43, .bool false)] rfl ?_))))))))))))) (fun hw => st_mv rfl (st_gft rfl (st_gft rfl (st_gft rfl (st_gft rfl (st_gft rfl (st_gft rfl (st_pick_f rfl rfl rfl (g_end [(0, .list (List.map (eInt .i64) p1) .none), (1, .list (List.map (eInt .i64) p2) .none), (5, .list (List.map eGSolve_Pick v3) (.own 0 1 2)), (6, .list (List.map eGSolve_Pick v4) (.own 1 1 2)), (7, .int .i64 v5), (8, .str ([v32].map (fun m : Int => UInt8.ofNat m.toNat))), (24, .int .i64 v5), (43, .bool false)] rfl ?_)))))))))))))
      · refine sq_n ?_
        refine s_cond_t rfl ?_
        refine s_reg (st_mv rfl (st_mv rfl (st_mv rfl (st_mv rfl (g_iaddr (enc_int .i64) rfl rfl hw fun a39 hw => st_load_r (v := .int .i64 a39) rfl rfl (g_call (ev_cons rfl (ev_cons rfl ev_nil)) rfl hw fun r40 hw => g_add rfl rfl hw fun v41 hw => g_build (cs := [.str ([v32].map (fun m : Int => UInt8.ofNat m.toNat)), .int .i64 v41]) (ep_cons rfl (ep_cons rfl ep_nil)) rfl (g_mkl enc_GSolve_Pick [(GSolve_Pick.mk ([v32].map (fun m : Int => UInt8.ofNat m.toNat)) v41)] (ev_cons rfl ev_nil) rfl (mkc ⟨rfl, rfl⟩ mkn) (g_appo enc_GSolve_Pick rfl rfl rfl hw (fun z => [.tok (1 + z.length), .tok (1 + v4.length)]) (fun _ => rfl) fun v42 hw => st_mv rfl (g_end [(0, .list (List.map (eInt .i64) p1) .none), (1, .list (List.map (eInt .i64) p2) .none), (5, .list (List.map eGSolve_Pick v42) (.own 0 1 2)), (6, .list (List.map eGSolve_Pick v4) (.own 1 1 2)), (7, .int .i64 v5), (8, .str ([v32].map (fun m : Int => UInt8.ofNat m.toNat))), (24, .int .i64 v5)] rfl ?_)))))))))
        exact jo_n (v42, v5, v5) hw (WeakF.of (Weak.sub (sub_cons rfl (.inl rfl) (sub_cons rfl (.inl rfl) (sub_cons rfl (.inl rfl) (sub_cons rfl (.inl rfl) (sub_cons rfl (.inl rfl) (sub_cons rfl (.inl rfl) (sub_cons rfl (.inl rfl) sub_nil)))))))))
      · refine sq_n ?_
        refine s_cond_f rfl ?_
        refine sc_skip ?_
        exact jo_n (v3, v5, v5) hw (WeakF.of (Weak.sub (sub_cons rfl (.inl rfl) (sub_cons rfl (.inl rfl) (sub_cons rfl (.inl rfl) (sub_cons rfl (.inl rfl) (sub_cons rfl (.inl rfl) (sub_cons rfl (.inl rfl) (sub_cons rfl (.inl rfl) sub_nil)))))))))
      · refine sq_n ?_
        refine s_cond_f rfl ?_
        refine sc_skip ?_
        exact jo_n (v3, v5, v5) hw (WeakF.of (Weak.sub (sub_cons rfl (.inl rfl) (sub_cons rfl (.inl rfl) (sub_cons rfl (.inl rfl) (sub_cons rfl (.inl rfl) (sub_cons rfl (.inl rfl) (sub_cons rfl (.inl rfl) (sub_cons rfl (.inl rfl) sub_nil)))))))))
  · refine sc_exit ?_
    refine sq_x ?_
    refine lo_x ?_
    refine bl_x ?_
    refine sq_n ?_
    refine sc_seq ?_
    refine s_reg (st_mv rfl (st_mv rfl (g_call (ev_cons rfl (ev_cons rfl ev_nil)) rfl hw fun r52 hw => st_mv rfl (st_extract rfl rfl (st_extract rfl rfl (st_mv rfl (st_mv rfl (g_end [(5, .list (List.map eGSolve_Pick v3) (.own 0 1 2)), (6, .list (List.map eGSolve_Pick v4) (.own 1 1 2)), (9, .list (List.map eGLock_Turn r52.1) .none), (10, .int .i64 r52.2)] rfl ?_))))))))
    refine sq_n ?_
    refine sc_seq ?_
    refine s_reg (st_mv rfl (st_mv rfl (g_call (ev_cons rfl (ev_cons rfl ev_nil)) rfl hw fun r53 hw => st_mv rfl (st_extract rfl rfl (st_extract rfl rfl (st_mv rfl (st_mv rfl (g_end [(5, .list (List.map eGSolve_Pick v3) (.own 0 1 2)), (6, .list (List.map eGSolve_Pick v4) (.own 1 1 2)), (9, .list (List.map eGLock_Turn r52.1) .none), (10, .int .i64 r52.2), (11, .list (List.map eGLock_Turn r53.1) .none), (12, .int .i64 r53.2)] rfl ?_))))))))
    refine sq_n ?_
    refine sc_seq ?_
    refine s_reg (g_build (cs := [.str [97], .int .i64 (2 : Int)]) (ep_cons rfl (ep_cons rfl ep_nil)) rfl (g_mkl enc_GSolve_Pick [(GSolve_Pick.mk [97] (2 : Int))] (ev_cons rfl ev_nil) rfl (mkc ⟨rfl, rfl⟩ mkn) (g_call (ev_cons rfl (ev_cons rfl ev_nil)) rfl hw fun r54 hw => st_mv rfl (st_extract rfl rfl (st_extract rfl rfl (st_mv rfl (st_mv rfl (g_end [(5, .list (List.map eGSolve_Pick v3) (.own 0 1 2)), (6, .list (List.map eGSolve_Pick v4) (.own 1 1 2)), (9, .list (List.map eGLock_Turn r52.1) .none), (10, .int .i64 r52.2), (11, .list (List.map eGLock_Turn r53.1) .none), (12, .int .i64 r53.2), (13, .list (List.map eGLock_Turn r54.1) .none), (14, .int .i64 r54.2)] rfl ?_))))))))
    refine sq_n ?_
    refine sc_seq ?_
    refine sc_seq ?_
    refine s_reg (st_mv rfl (g_nei rfl rfl hw (fun hw => st_mv rfl (st_gtf rfl (st_gtf rfl (st_pick_t rfl rfl rfl (st_mv rfl (st_gtf rfl (st_gtf rfl (st_pick_t rfl rfl rfl (st_mv rfl (st_gtf rfl (st_gtf rfl (st_gtf rfl (st_pick_t rfl rfl rfl (st_mv rfl (st_gtf rfl (st_gtf rfl (st_gtf rfl (st_gtf rfl (st_gtf rfl (st_pick_t rfl rfl rfl (g_end [(5, .list (List.map eGSolve_Pick v3) (.own 0 1 2)), (6, .list (List.map eGSolve_Pick v4) (.own 1 1 2)), (9, .list (List.map eGLock_Turn r52.1) .none), (118, .bool true)] rfl ?_))))))))))))))))))))) (fun hw => st_mv rfl (st_g rfl (st_mv rfl (st_g rfl (g_nei rfl rfl hw (fun hw => st_pick_f rfl rfl rfl (st_mv rfl (st_gtf rfl (st_gtf rfl (st_pick_t rfl rfl rfl (st_mv rfl (st_gtf rfl (st_gtf rfl (st_gtf rfl (st_pick_t rfl rfl rfl (st_mv rfl (st_gtf rfl (st_gtf rfl (st_gtf rfl (st_gtf rfl (st_gtf rfl (st_pick_t rfl rfl rfl (g_end [(5, .list (List.map eGSolve_Pick v3) (.own 0 1 2)), (6, .list (List.map eGSolve_Pick v4) (.own 1 1 2)), (9, .list (List.map eGLock_Turn r52.1) .none), (118, .bool true)] rfl ?_)))))))))))))))))) (fun hw => st_pick_f rfl rfl rfl (st_mv rfl (st_g rfl (st_mv rfl (st_g rfl (g_nei rfl rfl hw (fun hw => st_pick_f rfl rfl rfl (st_mv rfl (st_gtf rfl (st_gtf rfl (st_gtf rfl (st_pick_t rfl rfl rfl (st_mv rfl (st_gtf rfl (st_gtf rfl (st_gtf rfl (st_gtf rfl (st_gtf rfl (st_pick_t rfl rfl rfl (g_end [(5, .list (List.map eGSolve_Pick v3) (.own 0 1 2)), (6, .list (List.map eGSolve_Pick v4) (.own 1 1 2)), (9, .list (List.map eGLock_Turn r52.1) .none), (118, .bool true)] rfl ?_)))))))))))))) (fun hw => st_pick_f rfl rfl rfl (st_mv rfl (st_g rfl (st_mv rfl (st_g rfl (g_len rfl (st_g rfl (g_nei rfl rfl hw (fun hw => st_pick_f rfl rfl rfl (st_mv rfl (st_gtf rfl (st_gtf rfl (st_gtf rfl (st_gtf rfl (st_gtf rfl (st_pick_t rfl rfl rfl (g_end [(5, .list (List.map eGSolve_Pick v3) (.own 0 1 2)), (6, .list (List.map eGSolve_Pick v4) (.own 1 1 2)), (9, .list (List.map eGLock_Turn r52.1) .none), (118, .bool true)] rfl ?_))))))))) (fun hw => st_pick_f rfl rfl rfl (st_mv rfl (st_g rfl (st_mv rfl (st_g rfl (g_build (cs := [.str [97], .int .i64 (0 : Int), .int .i64 (2 : Int)]) (ep_cons rfl (ep_cons rfl ep_nil)) rfl (st_g rfl (g_mkl enc_GLock_Turn [(GLock_Turn.mk [97] (0 : Int) (2 : Int))] (ev_cons rfl ev_nil) rfl (mkc ⟨rfl, rfl⟩ mkn) (st_g rfl (g_call (ev_cons rfl (ev_cons rfl ev_nil)) rfl hw fun r55 hw => st_g rfl (st_not rfl (st_pick_f rfl rfl rfl (g_end [(5, .list (List.map eGSolve_Pick v3) (.own 0 1 2)), (6, .list (List.map eGSolve_Pick v4) (.own 1 1 2)), (9, .list (List.map eGLock_Turn r52.1) .none), (118, .bool (!r55))] rfl ?_))))))))))))))))))))))))))))))))))
    · refine sq_n ?_
      refine s_cond_t rfl ?_
      refine sc_seq ?_
      refine s_reg (st_mv rfl (g_end [(4, .bool false)] rfl ?_))
      refine sq_n ?_
      refine sc_ret ?_
      refine sq_r ?_
      exact g_ret (.inr rfl) rfl false hw rfl
    · refine sq_n ?_
      refine s_cond_t rfl ?_
      refine sc_seq ?_
      refine s_reg (st_mv rfl (g_end [(4, .bool false)] rfl ?_))
      refine sq_n ?_
      refine sc_ret ?_
      refine sq_r ?_
      exact g_ret (.inr rfl) rfl false hw rfl
    · refine sq_n ?_
      refine s_cond_t rfl ?_
      refine sc_seq ?_
      refine s_reg (st_mv rfl (g_end [(4, .bool false)] rfl ?_))
      refine sq_n ?_
      refine sc_ret ?_
      refine sq_r ?_
      exact g_ret (.inr rfl) rfl false hw rfl
    · refine sq_n ?_
      refine s_cond_t rfl ?_
      refine sc_seq ?_
      refine s_reg (st_mv rfl (g_end [(4, .bool false)] rfl ?_))
      refine sq_n ?_
      refine sc_ret ?_
      refine sq_r ?_
      exact g_ret (.inr rfl) rfl false hw rfl
    · refine sq_n ?_
      refine s_cond rfl hw (fun hw => ?_) (fun hw => ?_)
      · refine sc_seq ?_
        refine s_reg (st_mv rfl (g_end [(4, .bool false)] rfl ?_))
        refine sq_n ?_
        refine sc_ret ?_
        refine sq_r ?_
        exact g_ret (.inr rfl) rfl false hw rfl
      · refine sc_skip ?_
        refine sq_n ?_
        refine sc_seq ?_
        refine s_reg (g_mkmap (fk := eStr) (fv := (eInt .i64)) (n := 2) rfl rfl (st_mv rfl (g_end [(5, .list (List.map eGSolve_Pick v3) (.own 0 1 2)), (6, .list (List.map eGSolve_Pick v4) (.own 1 1 2)), (9, .list (List.map eGLock_Turn r52.1) .none), (15, .map 2)] rfl ?_)))
        refine sq_n ?_
        refine sc_seq ?_
        refine sc_seq ?_
        refine s_reg (st_mv rfl (g_len rfl (st_mv rfl (g_end [(6, .list (List.map eGSolve_Pick v4) (.own 1 1 2)), (9, .list (List.map eGLock_Turn r52.1) .none), (15, .map 2), (120, .list (List.map eGSolve_Pick v3) (.own 0 1 2)), (121, .int .i64 (v3.length : Int)), (122, .int .i64 (0 : Int))] rfl ?_))))
        refine sq_n ?_
        refine sc_block ?_
        obtain ⟨I63, M64, hi, hw⟩ := hw
        refine sc_loop (X := { x : GM (List UInt8) Int × Int × Int // I63 x.1 x.2.1 x.2.2 }) (fun x => ([(6, .list (List.map eGSolve_Pick v4) (.own 0 1 2)), (9, .list (List.map eGLock_Turn r52.1) .none), (15, .map 1), (120, .list (List.map eGSolve_Pick v3) (.own 2 1 2)), (121, .int .i64 x.1.2.1), (122, .int .i64 x.1.2.2)], [.tok (1 + v4.length), GM.obj eStr (eInt .i64) x.1.1, .tok (1 + v3.length)])) (fun x => M64 x.1.1 x.1.2.1 x.1.2.2) ⟨(GM.nil, (v3.length : Int), (0 : Int)), hi⟩ (weak_ren [1, 2, 0] (by simp) (by decide) (ro_tok rfl (ro_map enc_str (enc_int .i64) rfl (ro_tok rfl ro_nil))) (re_cons rfl (.own _ _ _ _ _ rfl (pv_flat enc_GSolve_Pick _)) (re_cons rfl (.pv _ (pv_lst enc_GLock_Turn _ _ (by simp))) (re_cons rfl (.map _ _ rfl) (re_cons rfl (.own _ _ _ _ _ rfl (pv_flat enc_GSolve_Pick _)) (re_cons rfl (.pv _ (.int _ _)) (re_cons rfl (.pv _ (.int _ _)) re_nil))))))) ?_
        rintro ⟨⟨v56, v57, v58⟩, hi2⟩
        have hw := hw v56 v57 v58 hi2
        clear hi
        refine sc_seq ?_
        refine s_reg (gb_cmp rfl rfl trivial rfl hw fun v65 hw => g_end [(6, .list (List.map eGSolve_Pick v4) (.own 0 1 2)), (9, .list (List.map eGLock_Turn r52.1) .none), (15, .map 1), (120, .list (List.map eGSolve_Pick v3) (.own 2 1 2)), (121, .int .i64 v57), (122, .int .i64 v58), (123, .bool v65)] rfl ?_)
        refine sq_n ?_
        refine sc_seq ?_
        refine s_cond rfl hw (fun hw => ?_) (fun hw => ?_)
        · refine sc_skip ?_
          refine sq_n ?_
          refine sc_seq ?_
          refine sc_block ?_
          refine sc_seq ?_
          refine s_reg (g_iaddr enc_GSolve_Pick rfl rfl hw fun a66 hw => st_load_r (v := .agg [.str a66.Name, .int .i64 a66.Version]) rfl rfl (g_alloc (n := 3) rfl rfl (g_store_p (v := .agg [.str a66.Name, .int .i64 a66.Version]) (h' := [.tok (1 + v4.length), GM.obj eStr (eInt .i64) v56, .tok (1 + v3.length), .cells [.str a66.Name, .int .i64 a66.Version]]) rfl rfl rfl ⟨rfl, Nat.le_of_ble_eq_true rfl, rfl⟩ rfl (g_end [(6, .list (List.map eGSolve_Pick v4) (.own 0 1 2)), (9, .list (List.map eGLock_Turn r52.1) .none), (15, .map 1), (17, .ptr 3 0), (120, .list (List.map eGSolve_Pick v3) (.own 2 1 2)), (121, .int .i64 v57), (122, .int .i64 v58)] rfl ?_))))
          refine sq_n ?_
          refine s_reg (st_mv rfl (g_faddr_p rfl (g_load_p (v := .str a66.Name) rfl rfl rfl (g_faddr_p rfl (g_load_p (v := .int .i64 a66.Version) rfl rfl rfl (g_mapset (fk := eStr) (fv := (eInt .i64)) (m := v56) (q := a66.Name) (v := a66.Version) enck_str rfl rfl rfl rfl rfl hw (fun z => [.tok (1 + v4.length), GM.obj eStr (eInt .i64) z, .tok (1 + v3.length), .cells [.str a66.Name, .int .i64 a66.Version]]) (fun _ => rfl) fun m67 hw => g_end [(6, .list (List.map eGSolve_Pick v4) (.own 0 1 2)), (9, .list (List.map eGLock_Turn r52.1) .none), (15, .map 1), (120, .list (List.map eGSolve_Pick v3) (.own 2 1 2)), (121, .int .i64 v57), (122, .int .i64 v58)] rfl ?_))))))
          refine bl_n ?_
          refine sq_n ?_
          refine s_reg (g_add rfl rfl hw fun v68 hw => st_mv rfl (g_end [(6, .list (List.map eGSolve_Pick v4) (.own 0 1 2)), (9, .list (List.map eGLock_Turn r52.1) .none), (15, .map 1), (120, .list (List.map eGSolve_Pick v3) (.own 2 1 2)), (121, .int .i64 v57), (122, .int .i64 v68)] rfl ?_))
          exact lo_n ⟨(m67, v57, v68), hw.1⟩ hw.2 (weak_ren [0, 1, 2] (by simp) (by decide) (ro_tok rfl (ro_map enc_str (enc_int .i64) rfl (ro_tok rfl ro_nil))) (re_cons rfl (.own _ _ _ _ _ rfl (pv_flat enc_GSolve_Pick _)) (re_cons rfl (.pv _ (pv_lst enc_GLock_Turn _ _ (by simp))) (re_cons rfl (.map _ _ rfl) (re_cons rfl (.own _ _ _ _ _ rfl (pv_flat enc_GSolve_Pick _)) (re_cons rfl (.pv _ (.int _ _)) (re_cons rfl (.pv _ (.int _ _)) re_nil)))))))
        · refine sc_exit ?_
          refine sq_x ?_
          refine lo_x ?_
          refine bl_x ?_
          refine sq_n ?_
          refine sc_seq ?_
          refine sc_seq ?_
          refine s_reg (st_mv rfl (g_len rfl (st_mv rfl (g_end [(6, .list (List.map eGSolve_Pick v4) (.own 0 1 2)), (15, .map 1), (132, .list (List.map eGLock_Turn r52.1) .none), (133, .int .i64 (r52.1.length : Int)), (134, .int .i64 (0 : Int))] rfl ?_))))
          refine sq_n ?_
          refine sc_block ?_
          obtain ⟨I76, M77, hi, hw⟩ := hw
          refine sc_loop (X := { x : GM (List UInt8) Int × Int // I76 x.1 x.2 }) (fun x => ([(6, .list (List.map eGSolve_Pick v4) (.own 0 1 2)), (15, .map 1), (132, .list (List.map eGLock_Turn r52.1) .none), (133, .int .i64 (r52.1.length : Int)), (134, .int .i64 x.1.2)], [.tok (1 + v4.length), GM.obj eStr (eInt .i64) x.1.1])) (fun x => M77 x.1.1 x.1.2) ⟨(v56, (0 : Int)), hi⟩ (weak_ren [0, 1] (by simp) (by decide) (ro_tok rfl (ro_map enc_str (enc_int .i64) rfl ro_nil)) (re_cons rfl (.own _ _ _ _ _ rfl (pv_flat enc_GSolve_Pick _)) (re_cons rfl (.map _ _ rfl) (re_cons rfl (.pv _ (pv_lst enc_GLock_Turn _ _ (by simp))) (re_cons rfl (.pv _ (.int _ _)) (re_cons rfl (.pv _ (.int _ _)) re_nil)))))) ?_
          rintro ⟨⟨v69, v70⟩, hi2⟩
          have hw := hw v69 v70 hi2
          clear hi
          refine sc_seq ?_
          refine s_reg (gb_cmp rfl rfl trivial rfl hw fun v78 hw => g_end [(6, .list (List.map eGSolve_Pick v4) (.own 0 1 2)), (15, .map 1), (132, .list (List.map eGLock_Turn r52.1) .none), (133, .int .i64 (r52.1.length : Int)), (134, .int .i64 v70), (135, .bool v78)] rfl ?_)
          refine sq_n ?_
          refine sc_seq ?_
          refine s_cond rfl hw (fun hw => ?_) (fun hw => ?_)
          · refine sc_skip ?_
            refine sq_n ?_
            refine sc_seq ?_
            refine sc_block ?_
            refine sc_seq ?_
            refine s_reg (g_iaddr enc_GLock_Turn rfl rfl hw fun a79 hw => st_load_r (v := .agg [.str a79.Name, .int .i64 a79.Old, .int .i64 a79.New]) rfl rfl (g_alloc (n := 2) rfl rfl (g_store_p (v := .agg [.str a79.Name, .int .i64 a79.Old, .int .i64 a79.New]) (h' := [.tok (1 + v4.length), GM.obj eStr (eInt .i64) v69, .cells [.str a79.Name, .int .i64 a79.Old, .int .i64 a79.New]]) rfl rfl rfl ⟨rfl, Nat.le_of_ble_eq_true rfl, rfl⟩ rfl (g_end [(6, .list (List.map eGSolve_Pick v4) (.own 0 1 2)), (15, .map 1), (19, .ptr 2 0), (132, .list (List.map eGLock_Turn r52.1) .none), (133, .int .i64 (r52.1.length : Int)), (134, .int .i64 v70)] rfl ?_))))
            refine sq_n ?_
            refine sc_seq ?_
            refine sc_seq ?_
            refine s_reg (st_mv rfl (g_faddr_p rfl (g_load_p (v := .str a79.Name) rfl rfl rfl (g_lookup (fk := eStr) (fv := (eInt .i64)) (m := v69) (q := a79.Name) (z0 := (0 : Int)) enck_str rfl rfl rfl rfl hw fun v80 hw => g_faddr_p rfl (g_load_p (v := .int .i64 a79.Old) rfl rfl rfl (g_nei rfl rfl hw (fun hw => st_mv rfl (st_gtf rfl (st_gtf rfl (st_gtf rfl (st_gtf rfl (st_gtf rfl (st_pick_t rfl rfl rfl (g_end [(6, .list (List.map eGSolve_Pick v4) (.own 0 1 2)), (15, .map 1), (19, .ptr 2 0), (132, .list (List.map eGLock_Turn r52.1) .none), (133, .int .i64 (r52.1.length : Int)), (134, .int .i64 v70), (151, .bool true)] rfl ?_)))))))) (fun hw => st_mv rfl (st_g rfl (g_faddr_p rfl (st_g rfl (g_load_p (v := .int .i64 a79.Old) rfl rfl rfl (st_g rfl (g_faddr_p rfl (st_g rfl (g_load_p (v := .int .i64 a79.New) rfl rfl rfl (st_g rfl (g_eqi rfl rfl hw (fun hw => st_pick_f rfl rfl rfl (g_end [(6, .list (List.map eGSolve_Pick v4) (.own 0 1 2)), (15, .map 1), (19, .ptr 2 0), (132, .list (List.map eGLock_Turn r52.1) .none), (133, .int .i64 (r52.1.length : Int)), (134, .int .i64 v70), (151, .bool true)] rfl ?_)) (fun hw => st_pick_f rfl rfl rfl (g_end [(6, .list (List.map eGSolve_Pick v4) (.own 0 1 2)), (15, .map 1), (19, .ptr 2 0), (132, .list (List.map eGLock_Turn r52.1) .none), (133, .int .i64 (r52.1.length : Int)), (134, .int .i64 v70), (151, .bool false)] rfl ?_)))))))))))))))))))
            · refine sq_n ?_
              refine s_cond_t rfl ?_
              refine sc_seq ?_
              refine s_reg (st_mv rfl (g_end [(4, .bool false)] rfl ?_))
              refine sq_n ?_
              refine sc_ret ?_
              refine sq_r ?_
              refine bl_r ?_
              refine sq_r ?_
              refine lo_r ?_
              refine bl_r ?_
              refine sq_r ?_
              exact g_ret (.inr rfl) rfl false hw rfl
            · refine sq_n ?_
              refine s_cond_t rfl ?_
              refine sc_seq ?_
              refine s_reg (st_mv rfl (g_end [(4, .bool false)] rfl ?_))
              refine sq_n ?_
              refine sc_ret ?_
              refine sq_r ?_
              refine bl_r ?_
              refine sq_r ?_
              refine lo_r ?_
              refine bl_r ?_
              refine sq_r ?_
              exact g_ret (.inr rfl) rfl false hw rfl
            · refine sq_n ?_
              refine s_cond_f rfl ?_
              refine sc_skip ?_
              refine sq_n ?_
              refine s_reg (st_mv rfl (g_faddr_p rfl (g_load_p (v := .str a79.Name) rfl rfl rfl (g_faddr_p rfl (g_load_p (v := .int .i64 a79.New) rfl rfl rfl (g_mapset (fk := eStr) (fv := (eInt .i64)) (m := v69) (q := a79.Name) (v := a79.New) enck_str rfl rfl rfl rfl rfl hw (fun z => [.tok (1 + v4.length), GM.obj eStr (eInt .i64) z, .cells [.str a79.Name, .int .i64 a79.Old, .int .i64 a79.New]]) (fun _ => rfl) fun m81 hw => g_end [(6, .list (List.map eGSolve_Pick v4) (.own 0 1 2)), (15, .map 1), (132, .list (List.map eGLock_Turn r52.1) .none), (133, .int .i64 (r52.1.length : Int)), (134, .int .i64 v70)] rfl ?_))))))
              refine bl_n ?_
              refine sq_n ?_
              refine s_reg (g_add rfl rfl hw fun v82 hw => st_mv rfl (g_end [(6, .list (List.map eGSolve_Pick v4) (.own 0 1 2)), (15, .map 1), (132, .list (List.map eGLock_Turn r52.1) .none), (133, .int .i64 (r52.1.length : Int)), (134, .int .i64 v82)] rfl ?_))
              exact lo_n ⟨(m81, v82), hw.1⟩ hw.2 (weak_ren [0, 1] (by simp) (by decide) (ro_tok rfl (ro_map enc_str (enc_int .i64) rfl ro_nil)) (re_cons rfl (.own _ _ _ _ _ rfl (pv_flat enc_GSolve_Pick _)) (re_cons rfl (.map _ _ rfl) (re_cons rfl (.pv _ (pv_lst enc_GLock_Turn _ _ (by simp))) (re_cons rfl (.pv _ (.int _ _)) (re_cons rfl (.pv _ (.int _ _)) re_nil))))))
          · refine sc_exit ?_
            refine sq_x ?_
            refine lo_x ?_
            refine bl_x ?_
            refine sq_n ?_
            refine sc_seq ?_
            refine sc_seq ?_
            refine s_reg (st_mv rfl (g_len rfl (st_mv rfl (g_end [(15, .map 1), (158, .list (List.map eGSolve_Pick v4) (.own 0 1 2)), (159, .int .i64 (v4.length : Int)), (160, .int .i64 (0 : Int))] rfl ?_))))
            refine sq_n ?_
            refine sc_block ?_
            obtain ⟨I90, M91, hi, hw⟩ := hw
            refine sc_loop (X := { x : GM (List UInt8) Int × Int // I90 x.1 x.2 }) (fun x => ([(15, .map 0), (158, .list (List.map eGSolve_Pick v4) (.own 1 1 2)), (159, .int .i64 (v4.length : Int)), (160, .int .i64 x.1.2)], [GM.obj eStr (eInt .i64) x.1.1, .tok (1 + v4.length)])) (fun x => M91 x.1.1 x.1.2) ⟨(v69, (0 : Int)), hi⟩ (weak_ren [1, 0] (by simp) (by decide) (ro_map enc_str (enc_int .i64) rfl (ro_tok rfl ro_nil)) (re_cons rfl (.map _ _ rfl) (re_cons rfl (.own _ _ _ _ _ rfl (pv_flat enc_GSolve_Pick _)) (re_cons rfl (.pv _ (.int _ _)) (re_cons rfl (.pv _ (.int _ _)) re_nil))))) ?_
            rintro ⟨⟨v83, v84⟩, hi2⟩
            have hw := hw v83 v84 hi2
            clear hi
            refine sc_seq ?_
            refine s_reg (gb_cmp rfl rfl trivial rfl hw fun v92 hw => g_end [(15, .map 0), (158, .list (List.map eGSolve_Pick v4) (.own 1 1 2)), (159, .int .i64 (v4.length : Int)), (160, .int .i64 v84), (161, .bool v92)] rfl ?_)
            refine sq_n ?_
            refine sc_seq ?_
            refine s_cond rfl hw (fun hw => ?_) (fun hw => ?_)
            · refine sc_skip ?_
              refine sq_n ?_
              refine sc_seq ?_
              refine sc_block ?_
              refine sc_seq ?_
              refine s_reg (g_iaddr enc_GSolve_Pick rfl rfl hw fun a93 hw => st_load_r (v := .agg [.str a93.Name, .int .i64 a93.Version]) rfl rfl (g_alloc (n := 2) rfl rfl (g_store_p (v := .agg [.str a93.Name, .int .i64 a93.Version]) (h' := [GM.obj eStr (eInt .i64) v83, .tok (1 + v4.length), .cells [.str a93.Name, .int .i64 a93.Version]]) rfl rfl rfl ⟨rfl, Nat.le_of_ble_eq_true rfl, rfl⟩ rfl (g_end [(15, .map 0), (21, .ptr 2 0), (158, .list (List.map eGSolve_Pick v4) (.own 1 1 2)), (159, .int .i64 (v4.length : Int)), (160, .int .i64 v84)] rfl ?_))))
              refine sq_n ?_
              refine sc_seq ?_
              refine sc_seq ?_
              refine s_reg (st_mv rfl (g_faddr_p rfl (g_load_p (v := .str a93.Name) rfl rfl rfl (g_lookup (fk := eStr) (fv := (eInt .i64)) (m := v83) (q := a93.Name) (z0 := (0 : Int)) enck_str rfl rfl rfl rfl hw fun v94 hw => g_faddr_p rfl (g_load_p (v := .int .i64 a93.Version) rfl rfl rfl (g_nei rfl rfl hw (fun hw => g_end [(15, .map 0), (21, .ptr 2 0), (158, .list (List.map eGSolve_Pick v4) (.own 1 1 2)), (159, .int .i64 (v4.length : Int)), (160, .int .i64 v84), (170, .bool true)] rfl ?_) (fun hw => g_end [(15, .map 0), (21, .ptr 2 0), (158, .list (List.map eGSolve_Pick v4) (.own 1 1 2)), (159, .int .i64 (v4.length : Int)), (160, .int .i64 v84), (170, .bool false)] rfl ?_)))))))
              · refine sq_n ?_
                refine s_cond_t rfl ?_
                refine sc_seq ?_
                refine s_reg (st_mv rfl (g_end [(4, .bool false)] rfl ?_))
                refine sq_n ?_
                refine sc_ret ?_
                refine sq_r ?_
                refine bl_r ?_
                refine sq_r ?_
                refine lo_r ?_
                refine bl_r ?_
                refine sq_r ?_
                exact g_ret (.inr rfl) rfl false hw rfl
              · refine sq_n ?_
                refine s_cond_f rfl ?_
                refine sc_skip ?_
                refine sq_n ?_
                refine s_reg (st_mv rfl (g_faddr_p rfl (g_load_p (v := .str a93.Name) rfl rfl rfl (g_mapdel (fk := eStr) (fv := (eInt .i64)) (m := v83) (q := a93.Name) enck_str rfl rfl rfl hw (fun z => [GM.obj eStr (eInt .i64) z, .tok (1 + v4.length), .cells [.str a93.Name, .int .i64 a93.Version]]) (fun _ => rfl) fun m95 hw => g_end [(15, .map 0), (158, .list (List.map eGSolve_Pick v4) (.own 1 1 2)), (159, .int .i64 (v4.length : Int)), (160, .int .i64 v84)] rfl ?_))))
                refine bl_n ?_
                refine sq_n ?_
                refine s_reg (g_add rfl rfl hw fun v96 hw => st_mv rfl (g_end [(15, .map 0), (158, .list (List.map eGSolve_Pick v4) (.own 1 1 2)), (159, .int .i64 (v4.length : Int)), (160, .int .i64 v96)] rfl ?_))
                exact lo_n ⟨(m95, v96), hw.1⟩ hw.2 (weak_ren [0, 1] (by simp) (by decide) (ro_map enc_str (enc_int .i64) rfl (ro_tok rfl ro_nil)) (re_cons rfl (.map _ _ rfl) (re_cons rfl (.own _ _ _ _ _ rfl (pv_flat enc_GSolve_Pick _)) (re_cons rfl (.pv _ (.int _ _)) (re_cons rfl (.pv _ (.int _ _)) re_nil)))))
            · refine sc_exit ?_
              refine sq_x ?_
              refine lo_x ?_
              refine bl_x ?_
              refine sq_n ?_
              refine sc_seq ?_
              refine sc_seq ?_
              refine s_reg (st_mv rfl (g_range (fk := eStr) (fv := (eInt .i64)) (mm := v83) (n := 2) rfl rfl rfl rfl (g_end [(176, .ptr 2 0)] rfl ?_)))
              refine sq_n ?_
              refine sc_block ?_
              obtain ⟨I106, M107, hi, hw⟩ := hw
              refine sc_loop (X := { x : List Nat // I106 x }) (fun x => ([(176, .ptr 0 0)], [.iter (some 1) v83.c x.1 v83.c, GM.obj eStr (eInt .i64) v83])) (fun x => M107 x.1) ⟨([] : List Nat), hi⟩ (weak_ren [2, 0] (by simp) (by decide) (ro_iter rfl rfl (ro_map enc_str (enc_int .i64) rfl ro_nil)) (re_cons rfl (.ptr _ _ _ rfl) re_nil)) ?_
              rintro ⟨v97, hi2⟩
              have hw := hw v97 hi2
              clear hi
              obtain ⟨J110, hw, hk⟩ := hw
              refine sc_join (A := List Nat × Bool) (fun x => J110 x.1 x.2) (fun x => ([(176, .ptr 0 0), (178, .bool x.2)], [.iter (some 1) v83.c x.1 v83.c, GM.obj eStr (eInt .i64) v83])) ?_ ?_
              · rintro ⟨v108, v109⟩ hj
                have hw := hk v108 v109 hj
                clear hk hj
                refine sc_seq ?_
                refine s_cond rfl hw (fun hw => ?_) (fun hw => ?_)
                · refine sc_skip ?_
                  refine sq_n ?_
                  refine sc_block ?_
                  refine sc_seq ?_
                  refine s_reg (g_entry (fk := eStr) (fv := (eInt .i64)) (mm := v83) (id := 1) rfl rfl rfl hw fun k114 v115 hw => st_extract rfl rfl (st_mv rfl (g_end [(23, .int .i64 v115), (176, .ptr 0 0)] rfl ?_)))
                  refine sq_n ?_
                  refine sc_seq ?_
                  refine s_reg (st_mv rfl (g_nei rfl rfl hw (fun hw => g_end [(176, .ptr 0 0), (182, .bool true)] rfl ?_) (fun hw => g_end [(176, .ptr 0 0), (182, .bool false)] rfl ?_)))
                  · refine sq_n ?_
                    refine s_cond_t rfl ?_
                    refine sc_seq ?_
                    refine s_reg (st_mv rfl (g_end [(4, .bool false)] rfl ?_))
                    refine sq_n ?_
                    refine sc_ret ?_
                    refine bl_r ?_
                    refine lo_r ?_
                    refine bl_r ?_
                    refine sq_r ?_
                    exact g_ret (.inr rfl) rfl false hw rfl
                  · refine sq_n ?_
                    refine s_cond_f rfl ?_
                    refine sc_skip ?_
                    refine bl_n ?_
                    exact lo_n ⟨v108, hw.1⟩ hw.2 (WeakF.of (Weak.sub (sub_cons rfl (.inl rfl) sub_nil)))
                · refine sc_exit ?_
                  refine sq_x ?_
                  refine lo_x ?_
                  refine bl_x ?_
                  refine sq_n ?_
                  refine sc_seq ?_
                  refine s_reg (st_mv rfl (g_end [(4, .bool true)] rfl ?_))
                  refine sq_n ?_
                  refine sc_ret ?_
                  exact g_ret (.inr rfl) rfl true hw rfl
              · clear hk
                refine s_reg (g_next (fk := eStr) (fv := (eInt .i64)) (mm := v83) (id := 1) rfl rfl rfl hw (fun z => [.iter (some 1) v83.c (v97 ++ [z]) v83.c, GM.obj eStr (eInt .i64) v83]) (fun _ => rfl) (fun n111 k112 v113 hw => st_extract rfl rfl (g_end [(176, .ptr 0 0), (178, .bool true)] rfl ?_)) (fun hw => st_extract rfl rfl (g_end [(176, .ptr 0 0), (178, .bool false)] rfl ?_)))
                · exact jo_n (v97 ++ [n111], true) hw (WeakF.of (Weak.sub (sub_cons rfl (.inl rfl) (sub_cons rfl (.inl rfl) sub_nil))))
                · exact jo_n (v97, false) hw (WeakF.of (Weak.sub (sub_cons rfl (.inl rfl) (sub_cons rfl (.inl rfl) sub_nil))))
end Go.Hw.G4
