import Derived.Test.YthogcmalebekkaaHwR1b
set_option linter.unusedVariables false
set_option linter.unusedSimpArgs false
namespace Go.Hw.VR
open Go Go.Proofs
def hc67 : C := (.seq (.reg [oo 4 (.mv (.c (.int .i64 0)))] [0, 1]) (.seq (.seq (.reg [mo 6 0, oo 7 (.len false 6), oo 8 (.mv (.c (.int .i64 0)))] [0, 1, 7, 8]) (.block 0 (.loop (.seq (.reg [oo 9 (.bin .lss 8 7)] [0, 1, 7, 8, 9]) (.seq (.cond 9 .skip (.exit 0)) (.seq (.block 1 (.seq (.reg [mo 10 8, mo 5 10] [0, 1, 5, 7, 8]) (.seq (.reg [mo 11 1, mo 12 0, mo 13 5, oo 14 (.iaddr 3 12 13), oo 15 (.load (some 3) 14), co 16 (.callv 11 [15])] [0, 1, 5, 7, 8, 16]) (.cond 16 (.seq (.reg [mo 17 5, mo 4 17] [4]) .ret) .skip)))) (.reg [oo 18 (.bin .add 8 (.c (.int .i64 1))), mo 8 18] [0, 1, 7, 8]))))))) (.seq (.reg [oo 4 (.mv (.c (.int .i64 (-1))))] [4]) .ret)))
def ha67 : Ann := ⟨[], [16, 48, 54, 57, 59, 66, 68, 71, 77, 78, 80, 83, 999999], [(0, [0, 1]), (1, [0, 1, 7, 8]), (2, [0, 1, 7, 8, 9]), (3, [0, 1, 5, 7, 8]), (4, [0, 1, 5, 7, 8, 16]), (5, [4]), (6, [0, 1, 7, 8]), (7, [4])], []⟩
theorem hk67 : comp Try.prog ha67 Try.f67.ntmps Try.f67.code = some hc67 := by kernel_rfl
def w67_68 (p1 : List (GaData)) (p2 : List UInt8) (Q : Int × List UInt8 → Prop) : Prop :=
  ∃ (I9 : (List UInt8) → Int → Prop) (M10 : (List UInt8) → Int → Nat), I9 p2 (0 : Int) ∧ ∀ (v3 : List UInt8) (v4 : Int), I9 v3 v4 → ∀ v11 : Bool, v11 = decide (v4 < (p1.length : Int)) → ((v11 = true → (0 ≤ v4 ∧ v4 < (p1.length : Int)) ∧ ∀ a12 : GaData, p1[(v4 : Int).toNat]? = some a12 → ∃ r13 : Bool × List UInt8, sp68 a12 v3 r13 ∧ ((r13.1 = true → Q (v4, r13.2)) ∧ (r13.1 = false → (R64 (v4 + (1 : Int))) ∧ ∀ v14 : Int, v14 = v4 + (1 : Int) → (I9 r13.2 v14 ∧ M10 r13.2 v14 < M10 v3 v4)))) ∧ (v11 = false → Q ((-1 : Int), v3)))
theorem ok67_68 (p1 : List (GaData)) (p2 : List UInt8) (r : Int × List UInt8) (hw : w67_68 p1 p2 fun r' => r' = r) : sp67_68 p1 p2 r := by
  refine zh (rs := [.t 4]) Try.func67 hk67 ?_
  unfold w67_68 at hw
  show SC Try.prog Try.f67.ntmps 1 hc67 _ [(0, ln eGaData p1), (1, .func 68 [.ptr 0 0])] [.cells [.str p2]]
  unfold hc67
  refine q_reg (st_mv rfl (g_endq [(0, ln eGaData p1), (1, .func 68 [.ptr 0 0])] rfl ?_))
  refine sc_seq (q_reg (st_mv rfl (g_len rfl (st_mv rfl (g_endq [(0, ln eGaData p1), (1, .func 68 [.ptr 0 0]), (7, ii (p1.length : Int)), (8, ii 0)] rfl ?_)))))
  refine sc_block ?_
  obtain ⟨I9, M10, hi, hw⟩ := hw
  refine sc_loop (X := { x : List UInt8 × Int // I9 x.1 x.2 }) (fun x => ([(0, ln eGaData p1), (1, .func 68 [.ptr 0 0]), (7, ii (p1.length : Int)), (8, ii x.1.2)], [.cells [.str x.1.1]])) (fun x => M10 x.1.1 x.1.2) ⟨(p2, (0 : Int)), hi⟩ ws ?_
  rintro ⟨⟨v3, v4⟩, hi2⟩
  have hw := hw v3 v4 hi2
  clear hi
  refine q_reg (gb_cmp rfl rfl trivial rfl hw fun v11 hw => g_endq [(0, ln eGaData p1), (1, .func 68 [.ptr 0 0]), (7, ii (p1.length : Int)), (8, ii v4), (9, .bool v11)] rfl ?_)
  refine sc_seq (s_cond rfl hw (fun hw => ?_) (fun hw => ?_))
  · refine sc_skip (sq_n (sc_seq (sc_block (q_reg (st_mv rfl (st_mv rfl (g_endq [(0, ln eGaData p1), (1, .func 68 [.ptr 0 0]), (5, ii v4), (7, ii (p1.length : Int)), (8, ii v4)] rfl ?_)))))))
    refine q_reg (st_mv rfl (st_mv rfl (st_mv rfl (g_iaddr enc_GaData rfl rfl hw fun a12 hw => st_load_r (v := eGaData a12) rfl rfl (khv hh rfl (g2 := fun r13 : Bool × List UInt8 => .bool r13.1) (H2 := fun r13 : Bool × List UInt8 => [.cells [.str r13.2]]) [0] [0] 1 0 (ec rfl en) hw fun r13 hw => g_endq [(0, ln eGaData p1), (1, .func 68 [.ptr 0 0]), (5, ii v4), (7, ii (p1.length : Int)), (8, ii v4), (16, .bool r13.1)] rfl ?_)))))
    refine s_cond rfl hw (fun hw => ?_) (fun hw => ?_)
    · refine q_reg (st_mv rfl (st_mv rfl (g_endq [(4, ii v4)] rfl ?_)))
      exact sc_ret (bl_r (sq_r (lo_r (bl_r (sq_r (gr1 (g := zg67_68) (ho := zo67_68) [ii v4] hw (.inr rfl) ws))))))
    · refine sc_skip (bl_n (sq_n (s_reg (g_add rfl rfl hw fun v14 hw => st_mv rfl (g_end [(0, ln eGaData p1), (1, .func 68 [.ptr 0 0]), (7, ii (p1.length : Int)), (8, ii v14)] rfl ?_)))))
      exact lo_n ⟨(r13.2, v14), hw.1⟩ hw.2 ws
  · refine sc_exit (sq_x (lo_x (bl_x (sq_n (q_reg (st_mv rfl (g_endq [(4, ii (-1 : Int))] rfl ?_)))))))
    exact sc_ret (gr1 (g := zg67_68) (ho := zo67_68) [ii (-1 : Int)] hw (.inr rfl) ws)
end Go.Hw.VR

