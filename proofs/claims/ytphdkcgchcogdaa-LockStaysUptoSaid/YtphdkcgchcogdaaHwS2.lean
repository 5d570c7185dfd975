import Derived.Test.YtphdkcgchcogdaaHwS1
import Derived.Test.YtphdkcgchcogdaaHwF3
set_option linter.unusedVariables false
set_option linter.unusedSimpArgs false
namespace Go.Hw.VE
open Go Go.Proofs

@[reducible] def zg19 (r : List (GSolve_Pick) × Int) : HV := .tuple [ln eGSolve_Pick r.1, ii r.2]
abbrev sp19 (p12 : List (GSolve_Module)) (p13 : List (GaUse)) (p14 : List (GSolve_Pick)) (p15 : List (List UInt8)) (r : List (GSolve_Pick) × Int) : Prop := PCall Try.prog 19 [ln eGSolve_Module p12, ln eGaUse p13, ln eGSolve_Pick p14, ln eStr p15] (zg19 r)
@[reducible] def zg36 (r : Int) : HV := ii r
abbrev sp36 (p16 : List (GSolve_Pick)) (r : Int) : Prop := PCall Try.prog 36 [ln eGSolve_Pick p16] (zg36 r)
@[reducible] def zg37 (r : Bool) : HV := .bool r
abbrev sp37 (p17 : List (List UInt8)) (p18 : List UInt8) (r : Bool) : Prop := PCall Try.prog 37 [ln eStr p17, .str p18] (zg37 r)
@[reducible] def zg58 (r : Int) : HV := ii r
abbrev sp58 (p19 : List (List UInt8)) (p20 : List UInt8) (r : Int) : Prop := PCall Try.prog 58 [ln eStr p19, .str p20] (zg58 r)
@[reducible] def zg7 (r : Bool) : HV := .bool r
abbrev sp7 (p21 : List (Int)) (p22 : List (Int)) (p23 : Int) (r : Bool) : Prop := PCall Try.prog 7 [ln (eInt .i64) p21, ln (eInt .i64) p22, ii p23] (zg7 r)
def hc7 : C := (.seq (.reg [oo 6 (.mv (.c (.bool false)))] [0, 1, 2]) (.seq (.reg [mo 18 0, co 19 (.call 8 [18]), mo 20 1, co 21 (.call 9 [20]), mo 7 19, mo 8 21] [2, 7, 8]) (.seq (.reg [mo 22 2, co 23 (.call 12 [22, (.c (.int .i64 4))]), oo 24 (.bin .add (.c (.int .i64 1)) 23), oo 25 (.build [(.str []), (.int .i64 0)] [(0, 1, (.c (.str [97]))), (1, 1, 24)]), mo 26 2, oo 27 (.bin .quo 26 (.c (.int .i64 4))), co 28 (.call 12 [27, (.c (.int .i64 4))]), oo 29 (.bin .add (.c (.int .i64 1)) 28), oo 30 (.build [(.str []), (.int .i64 0)] [(0, 1, (.c (.str [98]))), (1, 1, 29)]), mo 31 2, oo 32 (.bin .quo 31 (.c (.int .i64 16))), co 33 (.call 12 [32, (.c (.int .i64 4))]), oo 34 (.bin .add (.c (.int .i64 1)) 33), oo 35 (.build [(.str []), (.int .i64 0)] [(0, 1, (.c (.str [99]))), (1, 1, 34)]), oo 36 (.mklist 2 [25, 30, 35]), mo 9 36] [7, 8, 9]) (.seq (.reg [mo 38 7, mo 39 8, mo 40 9, co 41 (.call 10 [38, 39, 40]), mo 37 41, oo 42 (.extract 37 0), oo 43 (.extract 37 1), mo 10 42, mo 11 43] [7, 8, 10, 11]) (.seq (.seq (.reg [co 44 (.call 13 []), oo 45 (.un .not 44)] [7, 8, 10, 11, 45]) (.cond 45 (.seq (.reg [oo 6 (.mv (.c (.bool false)))] [6]) .ret) .skip)) (.seq (.seq (.reg [mo 46 11, oo 47 (.eqv true .int 46 (.c (.int .i64 0)))] [7, 8, 10, 11, 47]) (.cond 47 (.seq (.reg [mo 48 11, oo 49 (.eqv false .int 48 (.c (.int .i64 22))), mo 6 49] [6]) .ret) .skip)) (.seq (.reg [mo 51 7, mo 52 8, mo 53 10, co 54 (.call 19 [51, 52, 53, (.c (.list [] .full))]), mo 50 54, oo 55 (.extract 50 0), oo 56 (.extract 50 1), mo 12 55, mo 13 56] [7, 8, 10, 12, 13]) (.seq (.reg [mo 58 7, mo 59 8, mo 60 10, oo 61 (.mklist 1 [(.c (.str [97])), (.c (.str [98])), (.c (.str [99])), (.c (.str [100])), (.c (.str [101]))]), co 62 (.call 19 [58, 59, 60, 61]), mo 57 62, oo 63 (.extract 57 0), oo 64 (.extract 57 1), mo 14 63, mo 15 64] [7, 8, 10, 12, 13, 14, 15]) (.seq (.reg [mo 66 7, mo 67 8, co 68 (.call 10 [66, 67, (.c (.list [] .full))]), mo 65 68, oo 69 (.extract 65 0), oo 70 (.extract 65 1), mo 16 69, mo 17 70] [10, 12, 13, 14, 15, 16, 17]) (.seq (.reg [mo 71 13, oo 72 (.eqv false .int 71 (.c (.int .i64 0))), mo 73 72, og 74 (.mv 15) 73 true, og 75 (.eqv false .int 74 (.c (.int .i64 0))) 73 true, oo 76 (.pick 73 75 (.c (.bool false))), mo 77 76, og 78 (.mv 17) 77 true, og 79 (.eqv false .int 78 (.c (.int .i64 0))) 77 true, oo 80 (.pick 77 79 (.c (.bool false))), mo 81 80, og 82 (.mv 10) 81 true, og 83 (.mv 12) 81 true, cg 84 (.call 14 [82, 83]) 81 true, oo 85 (.pick 81 84 (.c (.bool false))), mo 86 85, og 87 (.mv 14) 86 true, og 88 (.mv 16) 86 true, cg 89 (.call 14 [87, 88]) 86 true, oo 90 (.pick 86 89 (.c (.bool false))), mo 6 90] [6]) .ret))))))))))
def ha7 : Ann := ⟨[], [], [(0, [0, 1, 2]), (1, [2, 7, 8]), (2, [7, 8, 9]), (3, [7, 8, 10, 11]), (4, [7, 8, 10, 11, 45]), (5, [6]), (6, [7, 8, 10, 11, 47]), (7, [6]), (8, [7, 8, 10, 12, 13]), (9, [7, 8, 10, 12, 13, 14, 15]), (10, [10, 12, 13, 14, 15, 16, 17]), (11, [6])], []⟩
theorem hk7 : comp Try.prog ha7 Try.f7.ntmps Try.f7.code = some hc7 := by kernel_rfl
def w7 (p1 : List (Int)) (p2 : List (Int)) (p3 : Int) (Q : Bool → Prop) : Prop :=
  ∃ r4 : List (GSolve_Module), sp8 p1 r4 ∧ ∃ r5 : List (GaUse), sp9 p2 r5 ∧ ∃ r6 : Int, sp12 p3 (4 : Int) r6 ∧ (R64 ((1 : Int) + r6)) ∧ ∀ v7 : Int, v7 = (1 : Int) + r6 → ((4 : Int) ≠ 0 ∧ R64 ((p3).tdiv (4 : Int))) ∧ ∀ v8 : Int, v8 = (p3).tdiv (4 : Int) → ∃ r9 : Int, sp12 v8 (4 : Int) r9 ∧ (R64 ((1 : Int) + r9)) ∧ ∀ v10 : Int, v10 = (1 : Int) + r9 → ((16 : Int) ≠ 0 ∧ R64 ((p3).tdiv (16 : Int))) ∧ ∀ v11 : Int, v11 = (p3).tdiv (16 : Int) → ∃ r12 : Int, sp12 v11 (4 : Int) r12 ∧ (R64 ((1 : Int) + r12)) ∧ ∀ v13 : Int, v13 = (1 : Int) + r12 → ∃ r14 : List (GSolve_Pick) × Int, sp10 r4 r5 ([(GSolve_Pick.mk [97] v7), (GSolve_Pick.mk [98] v10), (GSolve_Pick.mk [99] v13)] : List GSolve_Pick) r14 ∧ ∃ r15 : Bool, sp13 r15 ∧ (((!r15) = true → Q false) ∧ ((!r15) = false → ((r14.2 ≠ (0 : Int) → ∀ v16 : Bool, v16 = (if false then !(r14.2 == (22 : Int)) else (r14.2 == (22 : Int))) → Q v16) ∧ (r14.2 = (0 : Int) → ∃ r17 : List (GSolve_Pick) × Int, sp19 r4 r5 r14.1 ([] : List (List UInt8)) r17 ∧ ∃ r18 : List (GSolve_Pick) × Int, sp19 r4 r5 r14.1 ([[97], [98], [99], [100], [101]] : List (List UInt8)) r18 ∧ ∃ r19 : List (GSolve_Pick) × Int, sp10 r4 r5 ([] : List GSolve_Pick) r19 ∧ ((r17.2 = (0 : Int) → ((r18.2 = (0 : Int) → ((r19.2 = (0 : Int) → ∃ r20 : Bool, sp14 r14.1 r17.1 r20 ∧ ((r20 = true → ∃ r21 : Bool, sp14 r18.1 r19.1 r21 ∧ Q r21) ∧ (r20 = false → Q false))) ∧ (r19.2 ≠ (0 : Int) → Q false))) ∧ (r18.2 ≠ (0 : Int) → Q false))) ∧ (r17.2 ≠ (0 : Int) → Q false))))))
theorem ok7 (p1 : List (Int)) (p2 : List (Int)) (p3 : Int) (r : Bool) (hw : w7 p1 p2 p3 fun r' => r' = r) : sp7 p1 p2 p3 r := by
  refine zf (rs := [.t 6]) (g := zg7) Try.func7 hk7 ?_
  unfold w7 at hw
  show SC Try.prog Try.f7.ntmps 0 hc7 _ [(0, ln (eInt .i64) p1), (1, ln (eInt .i64) p2), (2, ii p3)] []
  unfold hc7
  refine q_reg (st_mv rfl (g_endq [(0, ln (eInt .i64) p1), (1, ln (eInt .i64) p2), (2, ii p3)] rfl ?_))
  refine q_reg (st_mv rfl (k_call dh (ec rfl en) rfl hw fun r4 hw => st_mv rfl (k_call dh (ec rfl en) rfl hw fun r5 hw => st_mv rfl (st_mv rfl (g_endq [(2, ii p3), (7, ln eGSolve_Module r4), (8, ln eGaUse r5)] rfl ?_)))))
  refine q_reg (st_mv rfl (k_call dh (ec rfl (ec rfl en)) rfl hw fun r6 hw => g_add rfl rfl hw fun v7 hw => g_build (cs := [.str [97], ii v7]) (ep_cons rfl (ep_cons rfl ep_nil)) rfl (st_mv rfl (g_quo rfl rfl hw fun v8 hw => k_call dh (ec rfl (ec rfl en)) rfl hw fun r9 hw => g_add rfl rfl hw fun v10 hw => g_build (cs := [.str [98], ii v10]) (ep_cons rfl (ep_cons rfl ep_nil)) rfl (st_mv rfl (g_quo rfl rfl hw fun v11 hw => k_call dh (ec rfl (ec rfl en)) rfl hw fun r12 hw => g_add rfl rfl hw fun v13 hw => g_build (cs := [.str [99], ii v13]) (ep_cons rfl (ep_cons rfl ep_nil)) rfl (g_mkl enc_GSolve_Pick [(GSolve_Pick.mk [97] v7), (GSolve_Pick.mk [98] v10), (GSolve_Pick.mk [99] v13)] (ec rfl (ec rfl (ec rfl en))) rfl (mz (mz (mz mkn))) (st_mv rfl (g_endq [(7, ln eGSolve_Module r4), (8, ln eGaUse r5), (9, lf eGSolve_Pick ([(GSolve_Pick.mk [97] v7), (GSolve_Pick.mk [98] v10), (GSolve_Pick.mk [99] v13)] : List GSolve_Pick))] rfl ?_)))))))))
  refine q_reg (st_mv rfl (st_mv rfl (st_mv rfl (k_call dh (ec rfl (ec rfl (ec rfl en))) rfl hw fun r14 hw => st_mv rfl (st_extract rfl rfl (st_extract rfl rfl (st_mv rfl (st_mv rfl (g_endq [(7, ln eGSolve_Module r4), (8, ln eGaUse r5), (10, ln eGSolve_Pick r14.1), (11, ii r14.2)] rfl ?_)))))))))
  refine sc_seq (q_reg (k_call dh en rfl hw fun r15 hw => st_not rfl (g_endq [(7, ln eGSolve_Module r4), (8, ln eGaUse r5), (10, ln eGSolve_Pick r14.1), (11, ii r14.2), (45, .bool (!r15))] rfl ?_)))
  refine s_cond rfl hw (fun hw => ?_) (fun hw => ?_)
  · refine q_reg (st_mv rfl (g_endq [(6, .bool false)] rfl ?_))
    exact sc_ret (sq_r (gr1 (g := zg7) (ho := fun _ => []) [.bool false] hw (.inr rfl) ws))
  · refine sc_skip (sq_n (sc_seq (q_reg (st_mv rfl (g_nei rfl rfl hw (fun hw => g_endq [(7, ln eGSolve_Module r4), (8, ln eGaUse r5), (10, ln eGSolve_Pick r14.1), (11, ii r14.2), (47, .bool true)] rfl ?_) (fun hw => g_endq [(7, ln eGSolve_Module r4), (8, ln eGaUse r5), (10, ln eGSolve_Pick r14.1), (11, ii r14.2), (47, .bool false)] rfl ?_))))))
    · refine s_cond_t rfl (q_reg (st_mv rfl (gb_eqi rfl rfl hw fun v16 hw => st_mv rfl (g_endq [(6, .bool v16)] rfl ?_))))
      exact sc_ret (sq_r (gr1 (g := zg7) (ho := fun _ => []) [.bool v16] hw (.inr rfl) ws))
    · refine s_cond_f rfl (sc_skip (sq_n (q_reg (st_mv rfl (st_mv rfl (st_mv rfl (k_call dh (ec rfl (ec rfl (ec rfl (ec rfl en)))) rfl hw fun r17 hw => st_mv rfl (st_extract rfl rfl (st_extract rfl rfl (st_mv rfl (st_mv rfl (g_endq [(7, ln eGSolve_Module r4), (8, ln eGaUse r5), (10, ln eGSolve_Pick r14.1), (12, ln eGSolve_Pick r17.1), (13, ii r17.2)] rfl ?_))))))))))))
      refine q_reg (st_mv rfl (st_mv rfl (st_mv rfl (g_mkl enc_str [[97], [98], [99], [100], [101]] (ec rfl (ec rfl (ec rfl (ec rfl (ec rfl en))))) rfl (mz (mz (mz (mz (mz mkn))))) (k_call dh (ec rfl (ec rfl (ec rfl (ec rfl en)))) rfl hw fun r18 hw => st_mv rfl (st_extract rfl rfl (st_extract rfl rfl (st_mv rfl (st_mv rfl (g_endq [(7, ln eGSolve_Module r4), (8, ln eGaUse r5), (10, ln eGSolve_Pick r14.1), (12, ln eGSolve_Pick r17.1), (13, ii r17.2), (14, ln eGSolve_Pick r18.1), (15, ii r18.2)] rfl ?_))))))))))
      refine q_reg (st_mv rfl (st_mv rfl (k_call dh (ec rfl (ec rfl (ec rfl en))) rfl hw fun r19 hw => st_mv rfl (st_extract rfl rfl (st_extract rfl rfl (st_mv rfl (st_mv rfl (g_endq [(10, ln eGSolve_Pick r14.1), (12, ln eGSolve_Pick r17.1), (13, ii r17.2), (14, ln eGSolve_Pick r18.1), (15, ii r18.2), (16, ln eGSolve_Pick r19.1), (17, ii r19.2)] rfl ?_))))))))
      refine q_reg (st_mv rfl (g_eqi rfl rfl hw (fun hw => st_mv rfl (st_g rfl (st_mv rfl (st_g rfl (g_eqi rfl rfl hw (fun hw => st_pick_t rfl rfl rfl (st_mv rfl (st_g rfl (st_mv rfl (st_g rfl (g_eqi rfl rfl hw (fun hw => st_pick_t rfl rfl rfl (st_mv rfl (st_g rfl (st_mv rfl (st_g rfl (st_mv rfl (st_g rfl (k_call dh (ec rfl (ec rfl en)) rfl hw fun r20 hw => st_pick_t rfl rfl rfl (st_mv rfl (g_split rfl hw ?_ ?_)))))))))) (fun hw => st_pick_t rfl rfl rfl (st_mv rfl (st_gft rfl (st_gft rfl (st_gft rfl (st_pick_f rfl rfl rfl (st_mv rfl (st_gft rfl (st_gft rfl (st_gft rfl (st_pick_f rfl rfl rfl (st_mv rfl (g_endq [(6, .bool false)] rfl ?_))))))))))))))))))) (fun hw => st_pick_t rfl rfl rfl (st_mv rfl (st_gft rfl (st_gft rfl (st_pick_f rfl rfl rfl (st_mv rfl (st_gft rfl (st_gft rfl (st_gft rfl (st_pick_f rfl rfl rfl (st_mv rfl (st_gft rfl (st_gft rfl (st_gft rfl (st_pick_f rfl rfl rfl (st_mv rfl (g_endq [(6, .bool false)] rfl ?_)))))))))))))))))))))) (fun hw => st_mv rfl (st_gft rfl (st_gft rfl (st_pick_f rfl rfl rfl (st_mv rfl (st_gft rfl (st_gft rfl (st_pick_f rfl rfl rfl (st_mv rfl (st_gft rfl (st_gft rfl (st_gft rfl (st_pick_f rfl rfl rfl (st_mv rfl (st_gft rfl (st_gft rfl (st_gft rfl (st_pick_f rfl rfl rfl (st_mv rfl (g_endq [(6, .bool false)] rfl ?_))))))))))))))))))))))
      · intro c hw
        rw [c]
        refine st_g rfl (st_mv rfl (st_g rfl (st_mv rfl (st_g rfl (k_call dh (ec rfl (ec rfl en)) rfl hw fun r21 hw => st_pick_t rfl rfl rfl (st_mv rfl (g_endq [(6, .bool r21)] rfl ?_)))))))
        exact sc_ret (gr1 (g := zg7) (ho := fun _ => []) [.bool r21] hw (.inr rfl) ws)
      · intro c hw
        rw [c]
        refine st_gft rfl (st_gft rfl (st_gft rfl (st_pick_f rfl rfl rfl (st_mv rfl (g_endq [(6, .bool false)] rfl ?_)))))
        exact sc_ret (gr1 (g := zg7) (ho := fun _ => []) [.bool false] hw (.inr rfl) ws)
      · exact sc_ret (gr1 (g := zg7) (ho := fun _ => []) [.bool false] hw (.inr rfl) ws)
      · exact sc_ret (gr1 (g := zg7) (ho := fun _ => []) [.bool false] hw (.inr rfl) ws)
      · exact sc_ret (gr1 (g := zg7) (ho := fun _ => []) [.bool false] hw (.inr rfl) ws)
def hc19 : C := (.seq (.reg [oo 8 (.mv (.c (.list [] .full))), oo 9 (.mv (.c (.int .i64 0)))] [0, 1, 2, 3]) (.seq (.seq (.reg [mo 14 2, co 15 (.call 36 [14]), mo 10 15] [0, 1, 2, 3, 10]) (.seq (.reg [mo 16 10, oo 17 (.eqv true .int 16 (.c (.int .i64 0)))] [0, 1, 2, 3, 10, 17]) (.cond 17 (.seq (.reg [mo 18 10, oo 8 (.mv (.c (.list [] .full))), mo 9 18] [8, 9]) .ret) .skip))) (.seq (.reg [oo 11 (.mv (.c (.list [] .full)))] [0, 1, 2, 3, 11]) (.seq (.seq (.reg [mo 19 2, oo 20 (.len false 19), oo 21 (.mv (.c (.int .i64 0)))] [0, 1, 3, 11, 19, 20, 21]) (.block 0 (.loop (.seq (.reg [oo 22 (.bin .lss 21 20)] [0, 1, 3, 11, 19, 20, 21, 22]) (.seq (.cond 22 .skip (.exit 0)) (.seq (.block 1 (.seq (.reg [oo 23 (.iaddr 2 19 21), oo 24 (.load (some 2) 23), oo 13 (.alloc none [(.str []), (.int .i64 0)]), os (.store 2 13 24)] [0, 1, 3, 11, 13, 19, 20, 21]) (.seq (.reg [mo 25 3, oo 26 (.faddr 0 1 13), oo 27 (.load none 26), co 28 (.call 37 [25, 27]), oo 29 (.un .not 28)] [0, 1, 3, 11, 13, 19, 20, 21, 29]) (.cond 29 (.reg [mo 30 11, oo 31 (.load (some 2) 13), oo 32 (.mklist 2 [31]), oo 33 (.append 2 24 30 32), mo 11 33] [0, 1, 3, 11, 19, 20, 21]) .skip)))) (.reg [oo 34 (.bin .add 21 (.c (.int .i64 1))), mo 21 34] [0, 1, 3, 11, 19, 20, 21]))))))) (.seq (.reg [mo 35 0, mo 36 1, mo 37 11, co 38 (.call 10 [35, 36, 37]), oo 39 (.extract 38 0), oo 40 (.extract 38 1), mo 8 39, mo 9 40] [8, 9]) .ret)))))
def ha19 : Ann := ⟨[], [], [(0, [0, 1, 2, 3]), (1, [0, 1, 2, 3, 10]), (2, [0, 1, 2, 3, 10, 17]), (3, [8, 9]), (4, [0, 1, 2, 3, 11]), (5, [0, 1, 3, 11, 19, 20, 21]), (6, [0, 1, 3, 11, 19, 20, 21, 22]), (7, [0, 1, 3, 11, 13, 19, 20, 21]), (8, [0, 1, 3, 11, 13, 19, 20, 21, 29]), (9, [0, 1, 3, 11, 19, 20, 21]), (10, [0, 1, 3, 11, 19, 20, 21]), (11, [8, 9])], []⟩
theorem hk19 : comp Try.prog ha19 Try.f19.ntmps Try.f19.code = some hc19 := by kernel_rfl
def w19 (p1 : List (GSolve_Module)) (p2 : List (GaUse)) (p3 : List (GSolve_Pick)) (p4 : List (List UInt8)) (Q : List (GSolve_Pick) × Int → Prop) : Prop :=
  ∃ r5 : Int, sp36 p3 r5 ∧ ((r5 ≠ (0 : Int) → Q (([] : List GSolve_Pick), r5)) ∧ (r5 = (0 : Int) → ∃ (I14 : (List GSolve_Pick) → Int → Prop) (M15 : (List GSolve_Pick) → Int → Nat), I14 ([] : List GSolve_Pick) (0 : Int) ∧ ∀ (v6 : List GSolve_Pick) (v7 : Int), I14 v6 v7 → ∀ v16 : Bool, v16 = decide (v7 < (p3.length : Int)) → ((v16 = true → (0 ≤ v7 ∧ v7 < (p3.length : Int)) ∧ ∀ a17 : GSolve_Pick, p3[(v7 : Int).toNat]? = some a17 → ∃ r18 : Bool, sp37 p4 a17.Name r18 ∧ (((!r18) = true → ((v6.length + ([(GSolve_Pick.mk a17.Name a17.Version)] : List GSolve_Pick).length) * 24 ≤ 140737488355328) ∧ ∀ v19 : List GSolve_Pick, v19 = v6 ++ ([(GSolve_Pick.mk a17.Name a17.Version)] : List GSolve_Pick) → (R64 (v7 + (1 : Int))) ∧ ∀ v20 : Int, v20 = v7 + (1 : Int) → (I14 v19 v20 ∧ M15 v19 v20 < M15 v6 v7)) ∧ ((!r18) = false → (R64 (v7 + (1 : Int))) ∧ ∀ v21 : Int, v21 = v7 + (1 : Int) → (I14 v6 v21 ∧ M15 v6 v21 < M15 v6 v7)))) ∧ (v16 = false → ∃ r22 : List (GSolve_Pick) × Int, sp10 p1 p2 v6 r22 ∧ Q (r22.1, r22.2)))))
theorem ok19 (p1 : List (GSolve_Module)) (p2 : List (GaUse)) (p3 : List (GSolve_Pick)) (p4 : List (List UInt8)) (r : List (GSolve_Pick) × Int) (hw : w19 p1 p2 p3 p4 fun r' => r' = r) : sp19 p1 p2 p3 p4 r := by
  refine zf (rs := [.t 8, .t 9]) (g := zg19) Try.func19 hk19 ?_
  unfold w19 at hw
  show SC Try.prog Try.f19.ntmps 0 hc19 _ [(0, ln eGSolve_Module p1), (1, ln eGaUse p2), (2, ln eGSolve_Pick p3), (3, ln eStr p4)] []
  unfold hc19
  refine q_reg (st_mv rfl (st_mv rfl (g_endq [(0, ln eGSolve_Module p1), (1, ln eGaUse p2), (2, ln eGSolve_Pick p3), (3, ln eStr p4)] rfl ?_)))
  refine sc_seq (q_reg (st_mv rfl (k_call dh (ec rfl en) rfl hw fun r5 hw => st_mv rfl (g_endq [(0, ln eGSolve_Module p1), (1, ln eGaUse p2), (2, ln eGSolve_Pick p3), (3, ln eStr p4), (10, ii r5)] rfl ?_))))
  refine q_reg (st_mv rfl (g_nei rfl rfl hw (fun hw => g_endq [(0, ln eGSolve_Module p1), (1, ln eGaUse p2), (2, ln eGSolve_Pick p3), (3, ln eStr p4), (10, ii r5), (17, .bool true)] rfl ?_) (fun hw => g_endq [(0, ln eGSolve_Module p1), (1, ln eGaUse p2), (2, ln eGSolve_Pick p3), (3, ln eStr p4), (10, ii r5), (17, .bool false)] rfl ?_)))
  · refine s_cond_t rfl (q_reg (st_mv rfl (st_mv rfl (st_mv rfl (g_endq [(8, nl eGSolve_Pick), (9, ii r5)] rfl ?_)))))
    exact sc_ret (sq_r (gr (g := zg19) (ho := fun _ => []) [nl eGSolve_Pick, ii r5] [ln eGSolve_Pick ([] : List GSolve_Pick), ii r5] hw (.inr rfl) ws))
  · refine s_cond_f rfl (sc_skip (sq_n (q_reg (st_mv rfl (g_endq [(0, ln eGSolve_Module p1), (1, ln eGaUse p2), (2, ln eGSolve_Pick p3), (3, ln eStr p4), (11, nl eGSolve_Pick)] rfl ?_)))))
    refine sc_seq (q_reg (st_mv rfl (g_len rfl (st_mv rfl (g_endq [(0, ln eGSolve_Module p1), (1, ln eGaUse p2), (3, ln eStr p4), (11, nl eGSolve_Pick), (19, ln eGSolve_Pick p3), (20, ii (p3.length : Int)), (21, ii 0)] rfl ?_)))))
    refine sc_block ?_
    obtain ⟨I14, M15, hi, hw⟩ := hw
    refine sc_loop (X := { x : List GSolve_Pick × Int // I14 x.1 x.2 }) (fun x => ([(0, ln eGSolve_Module p1), (1, ln eGaUse p2), (3, ln eStr p4), (11, .list (List.map eGSolve_Pick x.1.1) (.own 0 1 2)), (19, ln eGSolve_Pick p3), (20, ii (p3.length : Int)), (21, ii x.1.2)], [.tok (1 + x.1.1.length)])) (fun x => M15 x.1.1 x.1.2) ⟨(([] : List GSolve_Pick), (0 : Int)), hi⟩ ((w_acc (l := ([] : List GSolve_Pick)) 11 2 (n := 0) rfl enc_GSolve_Pick rfl).trans ws) ?_
    rintro ⟨⟨v6, v7⟩, hi2⟩
    have hw := hw v6 v7 hi2
    clear hi
    refine q_reg (gb_cmp rfl rfl trivial rfl hw fun v16 hw => g_endq [(0, ln eGSolve_Module p1), (1, ln eGaUse p2), (3, ln eStr p4), (11, .list (List.map eGSolve_Pick v6) (.own 0 1 2)), (19, ln eGSolve_Pick p3), (20, ii (p3.length : Int)), (21, ii v7), (22, .bool v16)] rfl ?_)
    refine sc_seq (s_cond rfl hw (fun hw => ?_) (fun hw => ?_))
    · refine sc_skip (sq_n (sc_seq (sc_block (q_reg (g_iaddr enc_GSolve_Pick rfl rfl hw fun a17 hw => st_load_r (v := eGSolve_Pick a17) rfl rfl (g_alloc (n := 1) rfl rfl (g_sp (v := eGSolve_Pick a17) (h' := [.tok (1 + v6.length), .cells [.str a17.Name, ii a17.Version]]) rfl rfl rfl (g_endq [(0, ln eGSolve_Module p1), (1, ln eGaUse p2), (3, ln eStr p4), (11, .list (List.map eGSolve_Pick v6) (.own 0 1 2)), (13, .ptr 1 0), (19, ln eGSolve_Pick p3), (20, ii (p3.length : Int)), (21, ii v7)] rfl ?_))))))))
      refine q_reg (st_mv rfl (g_faddr_p rfl (g_load_p rfl rfl rfl (k_call dh (ec rfl (ec rfl en)) rfl hw fun r18 hw => st_not rfl (g_endq [(0, ln eGSolve_Module p1), (1, ln eGaUse p2), (3, ln eStr p4), (11, .list (List.map eGSolve_Pick v6) (.own 0 1 2)), (13, .ptr 1 0), (19, ln eGSolve_Pick p3), (20, ii (p3.length : Int)), (21, ii v7), (29, .bool (!r18))] rfl ?_)))))
      refine s_cond rfl hw (fun hw => ?_) (fun hw => ?_)
      · refine s_reg (st_mv rfl (g_load_p (v := .agg [.str a17.Name, ii a17.Version]) rfl rfl rfl (g_mkl enc_GSolve_Pick [(GSolve_Pick.mk a17.Name a17.Version)] (ec rfl en) rfl (mz mkn) (g_appo enc_GSolve_Pick rfl rfl rfl hw (fun z => [.tok (1 + z.length), .cells [.str a17.Name, ii a17.Version]]) (fun _ => rfl) fun v19 hw => st_mv rfl (g_end [(0, ln eGSolve_Module p1), (1, ln eGaUse p2), (3, ln eStr p4), (11, .list (List.map eGSolve_Pick v19) (.own 0 1 2)), (19, ln eGSolve_Pick p3), (20, ii (p3.length : Int)), (21, ii v7)] rfl ?_)))))
        refine bl_n (sq_n (s_reg (g_add rfl rfl hw fun v20 hw => st_mv rfl (g_end [(0, ln eGSolve_Module p1), (1, ln eGaUse p2), (3, ln eStr p4), (11, .list (List.map eGSolve_Pick v19) (.own 0 1 2)), (19, ln eGSolve_Pick p3), (20, ii (p3.length : Int)), (21, ii v20)] rfl ?_))))
        exact lo_n ⟨(v19, v20), hw.1⟩ hw.2 (wr [0])
      · refine sc_skip (bl_n (sq_n (s_reg (g_add rfl rfl hw fun v21 hw => st_mv rfl (g_end [(0, ln eGSolve_Module p1), (1, ln eGaUse p2), (3, ln eStr p4), (11, .list (List.map eGSolve_Pick v6) (.own 0 1 2)), (19, ln eGSolve_Pick p3), (20, ii (p3.length : Int)), (21, ii v21)] rfl ?_)))))
        exact lo_n ⟨(v6, v21), hw.1⟩ hw.2 (wr [0])
    · refine sc_exit (sq_x (lo_x (bl_x (sq_n (q_reg (st_mv rfl (st_mv rfl (st_mv rfl (k_call dh (ec rfl (ec rfl (ec rfl en))) rfl hw fun r22 hw => st_extract rfl rfl (st_extract rfl rfl (st_mv rfl (st_mv rfl (g_endq [(8, ln eGSolve_Pick r22.1), (9, ii r22.2)] rfl ?_)))))))))))))
      exact sc_ret (gr1 (g := zg19) (ho := fun _ => []) [ln eGSolve_Pick r22.1, ii r22.2] hw (.inr rfl) (wr []))
def hc36 : C := (.seq (.reg [oo 2 (.mv (.c (.int .i64 0)))] [0]) (.seq (.seq (.reg [mo 5 0, oo 6 (.len false 5), oo 7 (.bin .gtr 6 (.c (.int .i64 30)))] [0, 7]) (.cond 7 (.seq (.reg [oo 2 (.mv (.c (.int .i64 2)))] [2]) .ret) .skip)) (.seq (.seq (.reg [mo 8 0, oo 9 (.len false 8), oo 10 (.mv (.c (.int .i64 0)))] [0, 8, 9, 10]) (.block 0 (.loop (.seq (.reg [oo 11 (.bin .lss 10 9)] [0, 8, 9, 10, 11]) (.seq (.cond 11 .skip (.exit 0)) (.seq (.block 1 (.seq (.reg [mo 12 10, oo 13 (.iaddr 2 8 10), oo 14 (.load (some 2) 13), oo 4 (.alloc none [(.str []), (.int .i64 0)]), mo 3 12, os (.store 2 4 14)] [0, 3, 4, 8, 9, 10]) (.seq (.seq (.reg [oo 15 (.faddr 0 1 4), oo 16 (.load none 15), co 17 (.call 27 [16]), oo 18 (.un .not 17)] [0, 3, 4, 8, 9, 10, 18]) (.cond 18 (.seq (.reg [oo 2 (.mv (.c (.int .i64 11)))] [2]) .ret) .skip)) (.seq (.seq (.reg [oo 19 (.faddr 1 1 4), oo 20 (.load none 19), oo 21 (.bin .lss 20 (.c (.int .i64 1))), mo 22 21, og 23 (.faddr 1 1 4) 22 false, og 24 (.load none 23) 22 false, og 25 (.bin .gtr 24 (.c (.int .i64 9999))) 22 false, oo 26 (.pick 22 (.c (.bool true)) 25)] [0, 3, 4, 8, 9, 10, 26]) (.cond 26 (.seq (.reg [oo 2 (.mv (.c (.int .i64 1)))] [2]) .ret) .skip)) (.seq (.dreg [mo 27 3, oo 28 (.bin .gtr 27 (.c (.int .i64 0))), mo 29 28, og 30 (.mv 0) 29 true, og 31 (.mv 3) 29 true, og 32 (.bin .sub 31 (.c (.int .i64 1))) 29 true, og 33 (.iaddr 2 30 32) 29 true, og 34 (.faddr 0 1 33) 29 true, og 35 (.load none 34) 29 true, og 36 (.faddr 0 1 4) 29 true, og 37 (.load none 36) 29 true, og 38 (.bin .geq 35 37) 29 true, oo 39 (.pick 29 38 (.c (.bool false)))] [] 0 [0, 8, 9, 10, 39]) (.cond 39 (.seq (.reg [oo 2 (.mv (.c (.int .i64 21)))] [2]) .ret) .skip)))))) (.reg [oo 40 (.bin .add 10 (.c (.int .i64 1))), mo 10 40] [0, 8, 9, 10]))))))) (.seq (.reg [oo 2 (.mv (.c (.int .i64 0)))] [2]) .ret))))
def ha36 : Ann := ⟨[], [], [(0, [0]), (1, [0, 7]), (2, [2]), (3, [0, 8, 9, 10]), (4, [0, 8, 9, 10, 11]), (5, [0, 3, 4, 8, 9, 10]), (6, [0, 3, 4, 8, 9, 10, 18]), (7, [2]), (8, [0, 3, 4, 8, 9, 10, 26]), (9, [2]), (10, [0, 8, 9, 10, 39]), (11, [2]), (12, [0, 8, 9, 10]), (13, [2])], []⟩
theorem hk36 : comp Try.prog ha36 Try.f36.ntmps Try.f36.code = some hc36 := by kernel_rfl
def w36 (p1 : List (GSolve_Pick)) (Q : Int → Prop) : Prop :=
  (((30 : Int) < (p1.length : Int) → Q (2 : Int)) ∧ ((p1.length : Int) ≤ (30 : Int) → ∃ (I11 : Int → Prop) (M12 : Int → Nat), I11 (0 : Int) ∧ ∀ (v2 : Int), I11 v2 → ∀ v13 : Bool, v13 = decide (v2 < (p1.length : Int)) → ((v13 = true → (0 ≤ v2 ∧ v2 < (p1.length : Int)) ∧ ∀ a14 : GSolve_Pick, p1[(v2 : Int).toNat]? = some a14 → ∃ r15 : Bool, sp27 a14.Name r15 ∧ (((!r15) = true → Q (11 : Int)) ∧ ((!r15) = false → ((a14.Version < (1 : Int) → Q (1 : Int)) ∧ ((1 : Int) ≤ a14.Version → (((9999 : Int) < a14.Version → Q (1 : Int)) ∧ (a14.Version ≤ (9999 : Int) → (((0 : Int) < v2 → (R64 (v2 - (1 : Int))) ∧ ∀ v16 : Int, v16 = v2 - (1 : Int) → (0 ≤ v16 ∧ v16 < (p1.length : Int)) ∧ ∀ a17 : GSolve_Pick, p1[(v16 : Int).toNat]? = some a17 → ∀ v18 : Bool, v18 = (!bytesLess a17.Name a14.Name) → ((v18 = true → Q (21 : Int)) ∧ (v18 = false → (R64 (v2 + (1 : Int))) ∧ ∀ v19 : Int, v19 = v2 + (1 : Int) → (I11 v19 ∧ M12 v19 < M12 v2)))) ∧ (v2 ≤ (0 : Int) → (R64 (v2 + (1 : Int))) ∧ ∀ v20 : Int, v20 = v2 + (1 : Int) → (I11 v20 ∧ M12 v20 < M12 v2)))))))))) ∧ (v13 = false → Q (0 : Int)))))
theorem ok36 (p1 : List (GSolve_Pick)) (r : Int) (hw : w36 p1 fun r' => r' = r) : sp36 p1 r := by
  refine zf (rs := [.t 2]) (g := zg36) Try.func36 hk36 ?_
  unfold w36 at hw
  show SC Try.prog Try.f36.ntmps 0 hc36 _ [(0, ln eGSolve_Pick p1)] []
  unfold hc36
  refine q_reg (st_mv rfl (g_endq [(0, ln eGSolve_Pick p1)] rfl ?_))
  refine sc_seq (q_reg (st_mv rfl (g_len rfl (g_gtr rfl rfl hw (fun hw => g_endq [(0, ln eGSolve_Pick p1), (7, .bool true)] rfl ?_) (fun hw => g_endq [(0, ln eGSolve_Pick p1), (7, .bool false)] rfl ?_)))))
  · refine s_cond_t rfl (q_reg (st_mv rfl (g_endq [(2, ii 2)] rfl ?_)))
    exact sc_ret (sq_r (gr1 (g := zg36) (ho := fun _ => []) [ii 2] hw (.inr rfl) ws))
  · refine s_cond_f rfl (sc_skip (sq_n (sc_seq (q_reg (st_mv rfl (g_len rfl (st_mv rfl (g_endq [(0, ln eGSolve_Pick p1), (8, ln eGSolve_Pick p1), (9, ii (p1.length : Int)), (10, ii 0)] rfl ?_))))))))
    refine sc_block ?_
    obtain ⟨I11, M12, hi, hw⟩ := hw
    refine sc_loop (X := { x : Int // I11 x }) (fun x => ([(0, ln eGSolve_Pick p1), (8, ln eGSolve_Pick p1), (9, ii (p1.length : Int)), (10, ii x.1)], [])) (fun x => M12 x.1) ⟨(0 : Int), hi⟩ ws ?_
    rintro ⟨v2, hi2⟩
    have hw := hw v2 hi2
    clear hi
    refine q_reg (gb_cmp rfl rfl trivial rfl hw fun v13 hw => g_endq [(0, ln eGSolve_Pick p1), (8, ln eGSolve_Pick p1), (9, ii (p1.length : Int)), (10, ii v2), (11, .bool v13)] rfl ?_)
    refine sc_seq (s_cond rfl hw (fun hw => ?_) (fun hw => ?_))
    · refine sc_skip (sq_n (sc_seq (sc_block (q_reg (st_mv rfl (g_iaddr enc_GSolve_Pick rfl rfl hw fun a14 hw => st_load_r (v := eGSolve_Pick a14) rfl rfl (g_alloc (n := 0) rfl rfl (st_mv rfl (g_sp (v := eGSolve_Pick a14) (h' := [.cells [.str a14.Name, ii a14.Version]]) rfl rfl rfl (g_endq [(0, ln eGSolve_Pick p1), (3, ii v2), (4, .ptr 0 0), (8, ln eGSolve_Pick p1), (9, ii (p1.length : Int)), (10, ii v2)] rfl ?_))))))))))
      refine sc_seq (q_reg (g_faddr_p rfl (g_load_p rfl rfl rfl (k_call dh (ec rfl en) rfl hw fun r15 hw => st_not rfl (g_endq [(0, ln eGSolve_Pick p1), (3, ii v2), (4, .ptr 0 0), (8, ln eGSolve_Pick p1), (9, ii (p1.length : Int)), (10, ii v2), (18, .bool (!r15))] rfl ?_)))))
      refine s_cond rfl hw (fun hw => ?_) (fun hw => ?_)
      · refine q_reg (st_mv rfl (g_endq [(2, ii 11)] rfl ?_))
        exact sc_ret (sq_r (bl_r (sq_r (lo_r (bl_r (sq_r (gr1 (g := zg36) (ho := fun _ => []) [ii 11] hw (.inr rfl) (wr []))))))))
      · refine sc_skip (sq_n (sc_seq (q_reg (g_faddr_p rfl (g_load_p rfl rfl rfl (g_lss rfl rfl hw (fun hw => st_mv rfl (st_gtf rfl (st_gtf rfl (st_gtf rfl (st_pick_t rfl rfl rfl (g_endq [(0, ln eGSolve_Pick p1), (3, ii v2), (4, .ptr 0 0), (8, ln eGSolve_Pick p1), (9, ii (p1.length : Int)), (10, ii v2), (26, .bool true)] rfl ?_)))))) (fun hw => st_mv rfl (st_g rfl (g_faddr_p rfl (st_g rfl (g_load_p rfl rfl rfl (st_g rfl (g_gtr rfl rfl hw (fun hw => st_pick_f rfl rfl rfl (g_endq [(0, ln eGSolve_Pick p1), (3, ii v2), (4, .ptr 0 0), (8, ln eGSolve_Pick p1), (9, ii (p1.length : Int)), (10, ii v2), (26, .bool true)] rfl ?_)) (fun hw => st_pick_f rfl rfl rfl (g_endq [(0, ln eGSolve_Pick p1), (3, ii v2), (4, .ptr 0 0), (8, ln eGSolve_Pick p1), (9, ii (p1.length : Int)), (10, ii v2), (26, .bool false)] rfl ?_)))))))))))))))
        · refine s_cond_t rfl (q_reg (st_mv rfl (g_endq [(2, ii 1)] rfl ?_)))
          exact sc_ret (sq_r (bl_r (sq_r (lo_r (bl_r (sq_r (gr1 (g := zg36) (ho := fun _ => []) [ii 1] hw (.inr rfl) (wr []))))))))
        · refine s_cond_t rfl (q_reg (st_mv rfl (g_endq [(2, ii 1)] rfl ?_)))
          exact sc_ret (sq_r (bl_r (sq_r (lo_r (bl_r (sq_r (gr1 (g := zg36) (ho := fun _ => []) [ii 1] hw (.inr rfl) (wr []))))))))
        · refine s_cond_f rfl (sc_skip (sq_n (sc_seq (s_dreg Try.mixed rfl (st_mv rfl (g_gtr rfl rfl hw (fun hw => st_mv rfl (st_g rfl (st_mv rfl (st_g rfl (st_mv rfl (st_g rfl (g_sub rfl rfl hw fun v16 hw => st_g rfl (g_iaddr enc_GSolve_Pick rfl rfl hw fun a17 hw => st_g rfl (g_faddr_r (cs := [.str a17.Name, ii a17.Version]) rfl (lt_of_blt rfl) (st_g rfl (st_load_r rfl rfl (st_g rfl (g_faddr_p rfl (st_g rfl (g_load_p rfl rfl rfl (st_g rfl (gb_s rfl rfl trivial rfl hw fun v18 hw => st_pick_t rfl rfl rfl (st_mid (g_end [(0, ln eGSolve_Pick p1), (8, ln eGSolve_Pick p1), (9, ii (p1.length : Int)), (10, ii v2), (39, .bool v18)] rfl ?_))))))))))))))))))) (fun hw => st_mv rfl (st_gft rfl (st_gft rfl (st_gft rfl (st_gft rfl (st_gft rfl (st_gft rfl (st_gft rfl (st_gft rfl (st_gft rfl (st_pick_f rfl rfl rfl (st_mid (g_end [(0, ln eGSolve_Pick p1), (8, ln eGSolve_Pick p1), (9, ii (p1.length : Int)), (10, ii v2), (39, .bool false)] rfl ?_)))))))))))))))))))
          · refine sq_n (s_cond rfl hw (fun hw => ?_) (fun hw => ?_))
            · refine q_reg (st_mv rfl (g_endq [(2, ii 21)] rfl ?_))
              exact sc_ret (bl_r (sq_r (lo_r (bl_r (sq_r (gr1 (g := zg36) (ho := fun _ => []) [ii 21] hw (.inr rfl) (wr [])))))))
            · refine sc_skip (bl_n (sq_n (s_reg (g_add rfl rfl hw fun v19 hw => st_mv rfl (g_end [(0, ln eGSolve_Pick p1), (8, ln eGSolve_Pick p1), (9, ii (p1.length : Int)), (10, ii v19)] rfl ?_)))))
              exact lo_n ⟨v19, hw.1⟩ hw.2 (wr [])
          · refine sq_n (s_cond_f rfl (sc_skip (bl_n (sq_n (s_reg (g_add rfl rfl hw fun v20 hw => st_mv rfl (g_end [(0, ln eGSolve_Pick p1), (8, ln eGSolve_Pick p1), (9, ii (p1.length : Int)), (10, ii v20)] rfl ?_)))))))
            exact lo_n ⟨v20, hw.1⟩ hw.2 (wr [])
    · refine sc_exit (sq_x (lo_x (bl_x (sq_n (q_reg (st_mv rfl (g_endq [(2, ii 0)] rfl ?_)))))))
      exact sc_ret (gr1 (g := zg36) (ho := fun _ => []) [ii 0] hw (.inr rfl) ws)
def hc37 : C := (.seq (.reg [oo 4 (.mv (.c (.bool false)))] [0, 1]) (.seq (.reg [mo 5 0, mo 6 1, co 7 (.call 58 [5, 6]), oo 8 (.bin .geq 7 (.c (.int .i64 0))), mo 4 8] [4]) .ret))
def ha37 : Ann := ⟨[], [], [(0, [0, 1]), (1, [4])], []⟩
theorem hk37 : comp Try.prog ha37 Try.f37.ntmps Try.f37.code = some hc37 := by kernel_rfl
def w37 (p1 : List (List UInt8)) (p2 : List UInt8) (Q : Bool → Prop) : Prop :=
  ∃ r3 : Int, sp58 p1 p2 r3 ∧ ∀ v4 : Bool, v4 = decide (r3 ≥ (0 : Int)) → Q v4
theorem ok37 (p1 : List (List UInt8)) (p2 : List UInt8) (r : Bool) (hw : w37 p1 p2 fun r' => r' = r) : sp37 p1 p2 r := by
  refine zf (rs := [.t 4]) (g := zg37) Try.func37 hk37 ?_
  unfold w37 at hw
  show SC Try.prog Try.f37.ntmps 0 hc37 _ [(0, ln eStr p1), (1, .str p2)] []
  unfold hc37
  refine q_reg (st_mv rfl (g_endq [(0, ln eStr p1), (1, .str p2)] rfl ?_))
  refine q_reg (st_mv rfl (st_mv rfl (k_call dh (ec rfl (ec rfl en)) rfl hw fun r3 hw => gb_cmp rfl rfl trivial rfl hw fun v4 hw => st_mv rfl (g_endq [(4, .bool v4)] rfl ?_))))
  exact sc_ret (gr1 (g := zg37) (ho := fun _ => []) [.bool v4] hw (.inr rfl) ws)
def hc58 : C := (.seq (.reg [oo 4 (.mv (.c (.int .i64 0)))] [0, 1]) (.seq (.seq (.reg [mo 6 0, oo 7 (.len false 6), oo 8 (.mv (.c (.int .i64 0)))] [0, 1, 7, 8]) (.block 0 (.loop (.seq (.reg [oo 9 (.bin .lss 8 7)] [0, 1, 7, 8, 9]) (.seq (.cond 9 .skip (.exit 0)) (.seq (.block 1 (.seq (.reg [mo 10 8, mo 5 10] [0, 1, 5, 7, 8]) (.seq (.reg [mo 11 1, mo 12 0, mo 13 5, oo 14 (.iaddr 1 12 13), oo 15 (.load none 14), oo 16 (.eqv false .str 11 15)] [0, 1, 5, 7, 8, 16]) (.cond 16 (.seq (.reg [mo 17 5, mo 4 17] [4]) .ret) .skip)))) (.reg [oo 18 (.bin .add 8 (.c (.int .i64 1))), mo 8 18] [0, 1, 7, 8]))))))) (.seq (.reg [oo 4 (.mv (.c (.int .i64 (-1))))] [4]) .ret)))
def ha58 : Ann := ⟨[], [], [(0, [0, 1]), (1, [0, 1, 7, 8]), (2, [0, 1, 7, 8, 9]), (3, [0, 1, 5, 7, 8]), (4, [0, 1, 5, 7, 8, 16]), (5, [4]), (6, [0, 1, 7, 8]), (7, [4])], []⟩
theorem hk58 : comp Try.prog ha58 Try.f58.ntmps Try.f58.code = some hc58 := by kernel_rfl
def w58 (p1 : List (List UInt8)) (p2 : List UInt8) (Q : Int → Prop) : Prop :=
  ∃ (I7 : Int → Prop) (M8 : Int → Nat), I7 (0 : Int) ∧ ∀ (v3 : Int), I7 v3 → ∀ v9 : Bool, v9 = decide (v3 < (p1.length : Int)) → ((v9 = true → (0 ≤ v3 ∧ v3 < (p1.length : Int)) ∧ ∀ a10 : List UInt8, p1[(v3 : Int).toNat]? = some a10 → ((p2 = a10 → Q v3) ∧ (p2 ≠ a10 → (R64 (v3 + (1 : Int))) ∧ ∀ v11 : Int, v11 = v3 + (1 : Int) → (I7 v11 ∧ M8 v11 < M8 v3)))) ∧ (v9 = false → Q (-1 : Int)))
theorem ok58 (p1 : List (List UInt8)) (p2 : List UInt8) (r : Int) (hw : w58 p1 p2 fun r' => r' = r) : sp58 p1 p2 r := by
  refine zf (rs := [.t 4]) (g := zg58) Try.func58 hk58 ?_
  unfold w58 at hw
  show SC Try.prog Try.f58.ntmps 0 hc58 _ [(0, ln eStr p1), (1, .str p2)] []
  unfold hc58
  refine q_reg (st_mv rfl (g_endq [(0, ln eStr p1), (1, .str p2)] rfl ?_))
  refine sc_seq (q_reg (st_mv rfl (g_len rfl (st_mv rfl (g_endq [(0, ln eStr p1), (1, .str p2), (7, ii (p1.length : Int)), (8, ii 0)] rfl ?_)))))
  refine sc_block ?_
  obtain ⟨I7, M8, hi, hw⟩ := hw
  refine sc_loop (X := { x : Int // I7 x }) (fun x => ([(0, ln eStr p1), (1, .str p2), (7, ii (p1.length : Int)), (8, ii x.1)], [])) (fun x => M8 x.1) ⟨(0 : Int), hi⟩ ws ?_
  rintro ⟨v3, hi2⟩
  have hw := hw v3 hi2
  clear hi
  refine q_reg (gb_cmp rfl rfl trivial rfl hw fun v9 hw => g_endq [(0, ln eStr p1), (1, .str p2), (7, ii (p1.length : Int)), (8, ii v3), (9, .bool v9)] rfl ?_)
  refine sc_seq (s_cond rfl hw (fun hw => ?_) (fun hw => ?_))
  · refine sc_skip (sq_n (sc_seq (sc_block (q_reg (st_mv rfl (st_mv rfl (g_endq [(0, ln eStr p1), (1, .str p2), (5, ii v3), (7, ii (p1.length : Int)), (8, ii v3)] rfl ?_)))))))
    refine q_reg (st_mv rfl (st_mv rfl (st_mv rfl (g_iaddr enc_str rfl rfl hw fun a10 hw => st_load_r rfl rfl (g_eqs rfl rfl hw (fun hw => g_endq [(0, ln eStr p1), (1, .str p2), (5, ii v3), (7, ii (p1.length : Int)), (8, ii v3), (16, .bool true)] rfl ?_) (fun hw => g_endq [(0, ln eStr p1), (1, .str p2), (5, ii v3), (7, ii (p1.length : Int)), (8, ii v3), (16, .bool false)] rfl ?_))))))
    · refine s_cond_t rfl (q_reg (st_mv rfl (st_mv rfl (g_endq [(4, ii v3)] rfl ?_))))
      exact sc_ret (bl_r (sq_r (lo_r (bl_r (sq_r (gr1 (g := zg58) (ho := fun _ => []) [ii v3] hw (.inr rfl) ws))))))
    · refine s_cond_f rfl (sc_skip (bl_n (sq_n (s_reg (g_add rfl rfl hw fun v11 hw => st_mv rfl (g_end [(0, ln eStr p1), (1, .str p2), (7, ii (p1.length : Int)), (8, ii v11)] rfl ?_))))))
      exact lo_n ⟨v11, hw.1⟩ hw.2 ws
  · refine sc_exit (sq_x (lo_x (bl_x (sq_n (q_reg (st_mv rfl (g_endq [(4, ii (-1 : Int))] rfl ?_)))))))
    exact sc_ret (gr1 (g := zg58) (ho := fun _ => []) [ii (-1 : Int)] hw (.inr rfl) ws)
end Go.Hw.VE

