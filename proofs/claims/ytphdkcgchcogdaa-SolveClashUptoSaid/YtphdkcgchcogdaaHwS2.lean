import Derived.Test.YtphdkcgchcogdaaHwS1
import Derived.Test.YtphdkcgchcogdaaHwF3
import Derived.Test.YtphdkcgchcogdaaHwTokO
set_option linter.unusedVariables false
set_option linter.unusedSimpArgs false
namespace Go.Hw.VE
open Go Go.Proofs

@[reducible] def zg16 (r : Bool) : HV := .bool r
abbrev sp16 (p16 : List (GSolve_Module)) (p17 : List (GaUse)) (p18 : List (GSolve_Pick)) (r : Bool) : Prop := PCall Try.prog 16 [ln eGSolve_Module p16, ln eGaUse p17, ln eGSolve_Pick p18] (zg16 r)
@[reducible] def zg29_30 (r : Int × GaUse) : HV := ii r.1
@[reducible] def zo29_30 (r : Int × GaUse) : Heap := [.cells [.str r.2.Name, ii r.2.Low, ii r.2.High]]
abbrev sp29_30 (p23 : List (GSolve_Pick)) (p24 : GaUse) (r : Int × GaUse) : Prop := MC Try.prog 29 [ln eGSolve_Pick p23, .func 30 [.ptr 0 0]] [.cells [.str p24.Name, ii p24.Low, ii p24.High]] (zg29_30 r) (zo29_30 r)
@[reducible] def zg30 (r : Bool × GaUse) : HV := .bool r.1
@[reducible] def zo30 (r : Bool × GaUse) : Heap := [.cells [.str r.2.Name, ii r.2.Low, ii r.2.High]]
abbrev sp30 (p25 : GSolve_Pick) (p26 : GaUse) (r : Bool × GaUse) : Prop := MC Try.prog 30 [eGSolve_Pick p25, .ptr 0 0] [.cells [.str p26.Name, ii p26.Low, ii p26.High]] (zg30 r) (zo30 r)
@[reducible] def zg31 (r : GSolve_Module × Bool) : HV := .tuple [eGSolve_Module r.1, .bool r.2]
abbrev sp31 (p27 : List (GSolve_Module)) (p28 : GSolve_Pick) (r : GSolve_Module × Bool) : Prop := PCall Try.prog 31 [ln eGSolve_Module p27, eGSolve_Pick p28] (zg31 r)
@[reducible] def zg32_33 (r : Bool) : HV := .bool r
abbrev sp32_33 (p29 : List (GSolve_Pick)) (r : Bool) : Prop := PCall Try.prog 32 [ln eGSolve_Pick p29, .func 33 []] (zg32_33 r)
@[reducible] def zg33 (r : Int) : HV := ii r
abbrev sp33 (p30 : GSolve_Pick) (p31 : GSolve_Pick) (r : Int) : Prop := PCall Try.prog 33 [eGSolve_Pick p30, eGSolve_Pick p31] (zg33 r)
@[reducible] def zg45_46 (r : Int × GSolve_Pick) : HV := ii r.1
@[reducible] def zo45_46 (r : Int × GSolve_Pick) : Heap := [.cells [.str r.2.Name, ii r.2.Version]]
abbrev sp45_46 (p37 : List (GSolve_Module)) (p38 : GSolve_Pick) (r : Int × GSolve_Pick) : Prop := MC Try.prog 45 [ln eGSolve_Module p37, .func 46 [.ptr 0 0]] [.cells [.str p38.Name, ii p38.Version]] (zg45_46 r) (zo45_46 r)
@[reducible] def zg46 (r : Bool × GSolve_Pick) : HV := .bool r.1
@[reducible] def zo46 (r : Bool × GSolve_Pick) : Heap := [.cells [.str r.2.Name, ii r.2.Version]]
abbrev sp46 (p39 : GSolve_Module) (p40 : GSolve_Pick) (r : Bool × GSolve_Pick) : Prop := MC Try.prog 46 [eGSolve_Module p39, .ptr 0 0] [.cells [.str p40.Name, ii p40.Version]] (zg46 r) (zo46 r)
@[reducible] def zg5 (r : Bool) : HV := .bool r
abbrev sp5 (p41 : List (Int)) (p42 : List (Int)) (p43 : Int) (r : Bool) : Prop := PCall Try.prog 5 [ln (eInt .i64) p41, ln (eInt .i64) p42, ii p43] (zg5 r)
def hc5 : C := (.seq (.reg [oo 6 (.mv (.c (.bool false)))] [0, 1, 2]) (.seq (.reg [mo 14 0, co 15 (.call 8 [14]), mo 16 1, co 17 (.call 9 [16]), mo 7 15, mo 8 17] [2, 7, 8]) (.seq (.reg [mo 19 7, mo 20 8, co 21 (.call 10 [19, 20, (.c (.list [] .full))]), mo 18 21, oo 22 (.extract 18 0), oo 23 (.extract 18 1), mo 9 22, mo 10 23] [2, 7, 8, 10]) (.seq (.reg [oo 11 (.mv (.c (.list [] .full)))] [2, 7, 8, 10, 11]) (.seq (.seq (.reg [oo 24 (.mv (.c (.int .i64 0)))] [2, 7, 8, 10, 11, 24]) (.block 0 (.loop (.seq (.reg [oo 25 (.bin .lss 24 (.c (.int .i64 5)))] [2, 7, 8, 10, 11, 24, 25]) (.seq (.cond 25 .skip (.exit 0)) (.seq (.block 1 (.seq (.reg [mo 26 24, mo 12 26] [2, 7, 8, 10, 11, 12, 24]) (.seq (.seq (.reg [mo 27 2, co 28 (.call 12 [27, (.c (.int .i64 5))]), mo 13 28] [2, 7, 8, 10, 11, 12, 13, 24]) (.seq (.reg [mo 29 13, oo 30 (.bin .gtr 29 (.c (.int .i64 0)))] [2, 7, 8, 10, 11, 12, 13, 24, 30]) (.cond 30 (.reg [mo 31 11, mo 32 12, oo 33 (.bin .add (.c (.int .i64 97)) 32), oo 34 (.conv (.int .u8) 33), oo 35 (.mklist 1 [34]), oo 36 (.conv .ofBytes 35), mo 37 13, oo 38 (.build [(.str []), (.int .i64 0)] [(0, 1, 36), (1, 1, 37)]), oo 39 (.mklist 2 [38]), oo 40 (.append 2 24 31 39), mo 11 40] [2, 7, 8, 10, 11, 24]) .skip))) (.reg [mo 41 2, co 42 (.call 12 [41, (.c (.int .i64 1099511627776))]), oo 43 (.bin .quo 42 (.c (.int .i64 5))), mo 2 43] [2, 7, 8, 10, 11, 24])))) (.reg [oo 44 (.bin .add 24 (.c (.int .i64 1))), mo 24 44] [2, 7, 8, 10, 11, 24]))))))) (.seq (.reg [co 45 (.call 13 []), mo 46 45, og 47 (.mv 10) 46 true, og 48 (.eqv false .int 47 (.c (.int .i64 0))) 46 true, og 49 (.mv 48) 46 true, og 50 (.mv 7) 49 false, og 51 (.mv 8) 49 false, og 52 (.mv 11) 49 false, cg 53 (.call 16 [50, 51, 52]) 49 false, og 54 (.un .not 53) 49 false, og 55 (.pick 49 (.c (.bool true)) 54) 46 true, oo 56 (.pick 46 55 (.c (.bool false))), mo 6 56] [6]) .ret))))))
def ha5 : Ann := ⟨[], [], [(0, [0, 1, 2]), (1, [2, 7, 8]), (2, [2, 7, 8, 10]), (3, [2, 7, 8, 10, 11]), (4, [2, 7, 8, 10, 11, 24]), (5, [2, 7, 8, 10, 11, 24, 25]), (6, [2, 7, 8, 10, 11, 12, 24]), (7, [2, 7, 8, 10, 11, 12, 13, 24]), (8, [2, 7, 8, 10, 11, 12, 13, 24, 30]), (9, [2, 7, 8, 10, 11, 24]), (10, [2, 7, 8, 10, 11, 24]), (11, [2, 7, 8, 10, 11, 24]), (12, [6])], []⟩
theorem hk5 : comp Try.prog ha5 Try.f5.ntmps Try.f5.code = some hc5 := by kernel_rfl
def w5 (p1 : List (Int)) (p2 : List (Int)) (p3 : Int) (Q : Bool → Prop) : Prop :=
  ∃ r4 : List (GSolve_Module), sp8 p1 r4 ∧ ∃ r5 : List (GaUse), sp9 p2 r5 ∧ ∃ r6 : List (GSolve_Pick) × Int, sp10 r4 r5 ([] : List GSolve_Pick) r6 ∧ ∃ (I20 : Int → (List GSolve_Pick) → Int → Prop) (M21 : Int → (List GSolve_Pick) → Int → Nat), I20 p3 ([] : List GSolve_Pick) (0 : Int) ∧ ∀ (v7 : Int) (v8 : List GSolve_Pick) (v9 : Int), I20 v7 v8 v9 → ∀ v22 : Bool, v22 = decide (v9 < (5 : Int)) → ((v22 = true → ∃ J24 : (List GSolve_Pick) → Prop, (∃ r25 : Int, sp12 v7 (5 : Int) r25 ∧ (((0 : Int) < r25 → (R64 ((97 : Int) + v9)) ∧ ∀ v26 : Int, v26 = (97 : Int) + v9 → ∀ v27 : Int, v27 = IntKind.wrap .u8 v26 → (∀ m ∈ ([v27] : List Int), 0 ≤ m ∧ m < 256) ∧ ((v8.length + ([(GSolve_Pick.mk ([v27].map (fun m : Int => UInt8.ofNat m.toNat)) r25)] : List GSolve_Pick).length) * 24 ≤ 140737488355328) ∧ ∀ v28 : List GSolve_Pick, v28 = v8 ++ ([(GSolve_Pick.mk ([v27].map (fun m : Int => UInt8.ofNat m.toNat)) r25)] : List GSolve_Pick) → J24 v28) ∧ (r25 ≤ (0 : Int) → J24 v8))) ∧ ∀ (v23 : List GSolve_Pick), J24 v23 → ∃ r29 : Int, sp12 v7 (1099511627776 : Int) r29 ∧ ((5 : Int) ≠ 0 ∧ R64 ((r29).tdiv (5 : Int))) ∧ ∀ v30 : Int, v30 = (r29).tdiv (5 : Int) → (R64 (v9 + (1 : Int))) ∧ ∀ v31 : Int, v31 = v9 + (1 : Int) → (I20 v30 v23 v31 ∧ M21 v30 v23 v31 < M21 v7 v8 v9)) ∧ (v22 = false → ∃ r32 : Bool, sp13 r32 ∧ ((r32 = true → ((r6.2 = (0 : Int) → Q true) ∧ (r6.2 ≠ (0 : Int) → ∃ r33 : Bool, sp16 r4 r5 v8 r33 ∧ Q (!r33)))) ∧ (r32 = false → Q false))))
theorem ok5 (p1 : List (Int)) (p2 : List (Int)) (p3 : Int) (r : Bool) (hw : w5 p1 p2 p3 fun r' => r' = r) : sp5 p1 p2 p3 r := by
  refine zf (rs := [.t 6]) (g := zg5) Try.func5 hk5 ?_
  unfold w5 at hw
  show SC Try.prog Try.f5.ntmps 0 hc5 _ [(0, ln (eInt .i64) p1), (1, ln (eInt .i64) p2), (2, ii p3)] []
  unfold hc5
  refine q_reg (st_mv rfl (g_endq [(0, ln (eInt .i64) p1), (1, ln (eInt .i64) p2), (2, ii p3)] rfl ?_))
  refine q_reg (st_mv rfl (k_call dh (ec rfl en) rfl hw fun r4 hw => st_mv rfl (k_call dh (ec rfl en) rfl hw fun r5 hw => st_mv rfl (st_mv rfl (g_endq [(2, ii p3), (7, ln eGSolve_Module r4), (8, ln eGaUse r5)] rfl ?_)))))
  refine q_reg (st_mv rfl (st_mv rfl (k_call dh (ec rfl (ec rfl (ec rfl en))) rfl hw fun r6 hw => st_mv rfl (st_extract rfl rfl (st_extract rfl rfl (st_mv rfl (st_mv rfl (g_endq [(2, ii p3), (7, ln eGSolve_Module r4), (8, ln eGaUse r5), (10, ii r6.2)] rfl ?_))))))))
  refine q_reg (st_mv rfl (g_endq [(2, ii p3), (7, ln eGSolve_Module r4), (8, ln eGaUse r5), (10, ii r6.2), (11, nl eGSolve_Pick)] rfl ?_))
  refine sc_seq (q_reg (st_mv rfl (g_endq [(2, ii p3), (7, ln eGSolve_Module r4), (8, ln eGaUse r5), (10, ii r6.2), (11, nl eGSolve_Pick), (24, ii 0)] rfl ?_)))
  refine sc_block ?_
  obtain ⟨I20, M21, hi, hw⟩ := hw
  refine sc_loop (X := { x : Int × List GSolve_Pick × Int // I20 x.1 x.2.1 x.2.2 }) (fun x => ([(2, ii x.1.1), (7, ln eGSolve_Module r4), (8, ln eGaUse r5), (10, ii r6.2), (11, .list (List.map eGSolve_Pick x.1.2.1) (.own 0 1 2)), (24, ii x.1.2.2)], [.tok (1 + x.1.2.1.length)])) (fun x => M21 x.1.1 x.1.2.1 x.1.2.2) ⟨(p3, ([] : List GSolve_Pick), (0 : Int)), hi⟩ ((w_acc (l := ([] : List GSolve_Pick)) 11 2 (n := 0) rfl enc_GSolve_Pick rfl).trans ws) ?_
  rintro ⟨⟨v7, v8, v9⟩, hi2⟩
  have hw := hw v7 v8 v9 hi2
  clear hi
  refine q_reg (gb_cmp rfl rfl trivial rfl hw fun v22 hw => g_endq [(2, ii v7), (7, ln eGSolve_Module r4), (8, ln eGaUse r5), (10, ii r6.2), (11, .list (List.map eGSolve_Pick v8) (.own 0 1 2)), (24, ii v9), (25, .bool v22)] rfl ?_)
  refine sc_seq (s_cond rfl hw (fun hw => ?_) (fun hw => ?_))
  · refine sc_skip (sq_n (sc_seq (sc_block (q_reg (st_mv rfl (st_mv rfl (g_endq [(2, ii v7), (7, ln eGSolve_Module r4), (8, ln eGaUse r5), (10, ii r6.2), (11, .list (List.map eGSolve_Pick v8) (.own 0 1 2)), (12, ii v9), (24, ii v9)] rfl ?_)))))))
    obtain ⟨J24, hw, hk⟩ := hw
    refine sc_join (A := List GSolve_Pick) (fun x => J24 x) (fun x => ([(2, ii v7), (7, ln eGSolve_Module r4), (8, ln eGaUse r5), (10, ii r6.2), (11, .list (List.map eGSolve_Pick x) (.own 0 1 2)), (24, ii v9)], [.tok (1 + x.length)])) ?_ ?_
    · rintro v23 hj
      have hw := hk v23 hj
      clear hk hj
      refine s_reg (st_mv rfl (k_call dh (ec rfl (ec rfl en)) rfl hw fun r29 hw => g_quo rfl rfl hw fun v30 hw => st_mv rfl (g_end [(2, ii v30), (7, ln eGSolve_Module r4), (8, ln eGaUse r5), (10, ii r6.2), (11, .list (List.map eGSolve_Pick v23) (.own 0 1 2)), (24, ii v9)] rfl ?_)))
      refine bl_n (sq_n (s_reg (g_add rfl rfl hw fun v31 hw => st_mv rfl (g_end [(2, ii v30), (7, ln eGSolve_Module r4), (8, ln eGaUse r5), (10, ii r6.2), (11, .list (List.map eGSolve_Pick v23) (.own 0 1 2)), (24, ii v31)] rfl ?_))))
      exact lo_n ⟨(v30, v23, v31), hw.1⟩ hw.2 ws
    · clear hk
      refine q_reg (st_mv rfl (k_call dh (ec rfl (ec rfl en)) rfl hw fun r25 hw => st_mv rfl (g_endq [(2, ii v7), (7, ln eGSolve_Module r4), (8, ln eGaUse r5), (10, ii r6.2), (11, .list (List.map eGSolve_Pick v8) (.own 0 1 2)), (12, ii v9), (13, ii r25), (24, ii v9)] rfl ?_)))
      refine q_reg (st_mv rfl (g_gtr rfl rfl hw (fun hw => g_endq [(2, ii v7), (7, ln eGSolve_Module r4), (8, ln eGaUse r5), (10, ii r6.2), (11, .list (List.map eGSolve_Pick v8) (.own 0 1 2)), (12, ii v9), (13, ii r25), (24, ii v9), (30, .bool true)] rfl ?_) (fun hw => g_endq [(2, ii v7), (7, ln eGSolve_Module r4), (8, ln eGaUse r5), (10, ii r6.2), (11, .list (List.map eGSolve_Pick v8) (.own 0 1 2)), (12, ii v9), (13, ii r25), (24, ii v9), (30, .bool false)] rfl ?_)))
      · refine s_cond_t rfl (s_reg (st_mv rfl (st_mv rfl (g_add rfl rfl hw fun v26 hw => g_conv rfl hw fun v27 hw => g_mkb (ms := [v27]) (ec rfl en) hw fun hw => st_ofbytes rfl (st_mv rfl (g_build (cs := [.str ([v27].map (fun m : Int => UInt8.ofNat m.toNat)), ii r25]) (ep_cons rfl (ep_cons rfl ep_nil)) rfl (g_mkl enc_GSolve_Pick [(GSolve_Pick.mk ([v27].map (fun m : Int => UInt8.ofNat m.toNat)) r25)] (ec rfl en) rfl (mz mkn) (g_appo enc_GSolve_Pick rfl rfl rfl hw (fun z => [.tok (1 + z.length)]) (fun _ => rfl) fun v28 hw => st_mv rfl (g_end [(2, ii v7), (7, ln eGSolve_Module r4), (8, ln eGaUse r5), (10, ii r6.2), (11, .list (List.map eGSolve_Pick v28) (.own 0 1 2)), (24, ii v9)] rfl ?_)))))))))
        exact jo_n v28 hw ws
      · exact s_cond_f rfl (sc_skip (jo_n v8 hw ws))
  · refine sc_exit (sq_x (lo_x (bl_x (sq_n (q_reg (k_call dh en rfl hw fun r32 hw => st_mv rfl (g_split rfl hw ?_ ?_)))))))
    · intro c hw
      rw [c]
      refine st_g rfl (st_mv rfl (st_g rfl (g_eqi rfl rfl hw (fun hw => st_g rfl (st_mv rfl (st_gtf rfl (st_gtf rfl (st_gtf rfl (st_gtf rfl (st_gtf rfl (st_g rfl (st_pick_t rfl rfl rfl (st_pick_t rfl rfl rfl (st_mv rfl (g_endq [(6, .bool true)] rfl ?_)))))))))))) (fun hw => st_g rfl (st_mv rfl (st_g rfl (st_mv rfl (st_g rfl (st_mv rfl (st_g rfl (st_mv rfl (st_g rfl (k_call dh (ec rfl (ec rfl (ec rfl en))) rfl hw fun r33 hw => st_g rfl (st_not rfl (st_g rfl (st_pick_f rfl rfl rfl (st_pick_t rfl rfl rfl (st_mv rfl (g_endq [(6, .bool (!r33))] rfl ?_)))))))))))))))))))
      · exact sc_ret (gr1 (g := zg5) (ho := fun _ => []) [.bool true] hw (.inr rfl) (wr []))
      · exact sc_ret (gr1 (g := zg5) (ho := fun _ => []) [.bool (!r33)] hw (.inr rfl) (wr []))
    · intro c hw
      rw [c]
      refine st_gft rfl (st_gft rfl (st_gft rfl (st_gu rfl (st_gu rfl (st_gu rfl (st_gu rfl (st_gu rfl (st_gft rfl (st_pick_f rfl rfl rfl (st_mv rfl (g_endq [(6, .bool false)] rfl ?_)))))))))))
      exact sc_ret (gr1 (g := zg5) (ho := fun _ => []) [.bool false] hw (.inr rfl) (wr []))
def hc16 : C := (.seq (.reg [oo 6 (.mv (.c (.bool false)))] [0, 1, 2]) (.seq (.seq (.reg [mo 14 0, co 15 (.call 15 [14]), oo 16 (.eqv true .int 15 (.c (.int .i64 0))), mo 17 16, og 18 (.mv 1) 17 false, cg 19 (.call 20 [18]) 17 false, og 20 (.eqv true .int 19 (.c (.int .i64 0))) 17 false, oo 21 (.pick 17 (.c (.bool true)) 20)] [0, 1, 2, 21]) (.cond 21 (.seq (.reg [oo 6 (.mv (.c (.bool false)))] [6]) .ret) .skip)) (.seq (.reg [oo 7 (.mv (.c (.int .i64 0)))] [0, 1, 2, 7]) (.seq (.reg [mo 22 1, co 23 (.call 21 [22]), mo 8 23] [0, 2, 7, 8]) (.seq (.reg [oo 24 (.mkmap none), mo 9 24] [0, 2, 7, 8, 9]) (.seq (.block 0 (.loop (.seq (.seq (.reg [mo 25 8, oo 26 (.len false 25), oo 27 (.bin .gtr 26 (.c (.int .i64 0)))] [0, 2, 7, 8, 9, 27]) (.cond 27 .skip (.exit 0))) (.block 1 (.seq (.reg [mo 28 8, oo 29 (.iaddr 3 28 (.c (.int .i64 0))), oo 30 (.load (some 3) 29), oo 10 (.alloc none [(.str []), (.int .i64 0), (.int .i64 0)]), os (.store 3 10 30)] [0, 2, 7, 8, 9, 10]) (.seq (.reg [mo 31 8, oo 32 (.slice 3 31 (some (.c (.int .i64 1))) none none), mo 8 32] [0, 2, 7, 8, 9, 10]) (.seq (.reg [mo 33 2, oo 34 (.mkfunc 30 [10]), co 35 (.call 29 [33, 34]), mo 11 35] [0, 2, 7, 8, 9, 10, 11]) (.seq (.seq (.dreg [mo 36 11, oo 37 (.bin .lss 36 (.c (.int .i64 0))), mo 38 37, og 39 (.mv 2) 38 false, og 40 (.mv 11) 38 false, og 41 (.iaddr 2 39 40) 38 false, og 42 (.faddr 1 1 41) 38 false, og 43 (.load none 42) 38 false, og 44 (.faddr 1 1 10) 38 false, og 45 (.load none 44) 38 false, og 46 (.bin .lss 43 45) 38 false, oo 47 (.pick 38 (.c (.bool true)) 46), mo 48 47, og 49 (.mv 2) 48 false, og 50 (.mv 11) 48 false, og 51 (.iaddr 2 49 50) 48 false, og 52 (.faddr 1 1 51) 48 false, og 53 (.load none 52) 48 false, og 54 (.faddr 2 1 10) 48 false, og 55 (.load none 54) 48 false, og 56 (.bin .gtr 53 55) 48 false, oo 57 (.pick 48 (.c (.bool true)) 56)] [] 0 [0, 2, 7, 8, 9, 10, 11, 57]) (.cond 57 (.seq (.reg [oo 6 (.mv (.c (.bool false)))] [6]) .ret) .skip)) (.seq (.seq (.reg [mo 58 9, oo 59 (.faddr 0 1 10), oo 60 (.load none 59), oo 61 (.lookup .str (.bool false) false 58 60)] [0, 2, 7, 8, 9, 10, 11, 61]) (.cond 61 (.exit 1) .skip)) (.seq (.reg [mo 63 0, mo 64 2, mo 65 11, oo 66 (.iaddr 2 64 65), oo 67 (.load (some 2) 66), co 68 (.call 31 [63, 67]), mo 62 68, oo 69 (.extract 62 0), oo 70 (.extract 62 1), oo 12 (.alloc none [(.str []), (.int .i64 0), (.list [] .full)]), os (.store 3 12 69), mo 13 70] [0, 2, 7, 8, 9, 10, 12, 13]) (.seq (.seq (.reg [mo 71 13, oo 72 (.un .not 71)] [0, 2, 7, 8, 9, 10, 12, 72]) (.cond 72 (.seq (.reg [oo 6 (.mv (.c (.bool false)))] [6]) .ret) .skip)) (.seq (.reg [mo 73 9, oo 74 (.faddr 0 1 10), oo 75 (.load none 74), os (.mapset .str 73 75 (.c (.bool true)))] [0, 2, 7, 8, 9, 12]) (.seq (.reg [mo 76 7, oo 77 (.bin .add 76 (.c (.int .i64 1))), mo 7 77] [0, 2, 7, 8, 9, 12]) (.reg [mo 78 8, oo 79 (.faddr 2 1 12), oo 80 (.load none 79), oo 81 (.append 3 32 78 80), mo 8 81] [0, 2, 7, 8, 9])))))))))))))) (.seq (.reg [mo 82 7, mo 83 2, oo 84 (.len false 83), oo 85 (.eqv false .int 82 84), mo 86 85, og 87 (.mv 2) 86 true, cg 88 (.call 32 [87, (.c (.func 33 []))]) 86 true, oo 89 (.pick 86 88 (.c (.bool false))), mo 6 89] [6]) .ret)))))))
def ha16 : Ann := ⟨[], [], [(0, [0, 1, 2]), (1, [0, 1, 2, 21]), (2, [6]), (3, [0, 1, 2, 7]), (4, [0, 2, 7, 8]), (5, [0, 2, 7, 8, 9]), (6, [0, 2, 7, 8, 9, 27]), (7, [0, 2, 7, 8, 9, 10]), (8, [0, 2, 7, 8, 9, 10]), (9, [0, 2, 7, 8, 9, 10, 11]), (10, [0, 2, 7, 8, 9, 10, 11, 57]), (11, [6]), (12, [0, 2, 7, 8, 9, 10, 11, 61]), (13, [0, 2, 7, 8, 9, 10, 12, 13]), (14, [0, 2, 7, 8, 9, 10, 12, 72]), (15, [6]), (16, [0, 2, 7, 8, 9, 12]), (17, [0, 2, 7, 8, 9, 12]), (18, [0, 2, 7, 8, 9]), (19, [6])], []⟩
theorem hk16 : comp Try.prog ha16 Try.f16.ntmps Try.f16.code = some hc16 := by kernel_rfl
def w16 (p1 : List (GSolve_Module)) (p2 : List (GaUse)) (p3 : List (GSolve_Pick)) (Q : Bool → Prop) : Prop :=
  ∃ r4 : Int, sp15 p1 r4 ∧ ((r4 ≠ (0 : Int) → Q false) ∧ (r4 = (0 : Int) → ∃ r5 : Int, sp20 p2 r5 ∧ ((r5 ≠ (0 : Int) → Q false) ∧ (r5 = (0 : Int) → ∃ r6 : List (GaUse), sp21m p2 r6 ∧ ∃ (I22 : Int → (List GaUse) → Nat → (GM (List UInt8) Bool) → Prop) (M23 : Int → (List GaUse) → Nat → (GM (List UInt8) Bool) → Nat), I22 (0 : Int) r6 0 GM.nil ∧ ∀ (v7 : Int) (v8 : List GaUse) (v9 : Nat) (v10 : GM (List UInt8) Bool), I22 v7 v8 v9 v10 → (((0 : Int) < (v8.length : Int) → (0 ≤ (0 : Int) ∧ (0 : Int) < (v8.length : Int)) ∧ ∀ a24 : GaUse, v8[((0 : Int) : Int).toNat]? = some a24 → (0 ≤ (1 : Int) ∧ (1 : Int) ≤ (v8.length : Int)) ∧ ∀ v25 : List GaUse, v25 = v8.drop ((1 : Int) : Int).toNat → ∃ r26 : Int × GaUse, sp29_30 p3 (GaUse.mk a24.Name a24.Low a24.High) r26 ∧ ((r26.1 < (0 : Int) → Q false) ∧ ((0 : Int) ≤ r26.1 → (0 ≤ r26.1 ∧ r26.1 < (p3.length : Int)) ∧ ∀ a27 : GSolve_Pick, p3[(r26.1 : Int).toNat]? = some a27 → ((a27.Version < r26.2.Low → Q false) ∧ (r26.2.Low ≤ a27.Version → (0 ≤ r26.1 ∧ r26.1 < (p3.length : Int)) ∧ ∀ a28 : GSolve_Pick, p3[(r26.1 : Int).toNat]? = some a28 → ((r26.2.High < a28.Version → Q false) ∧ (a28.Version ≤ r26.2.High → ∀ v29 : Bool, v29 = (v10.get r26.2.Name).getD false → ((v29 = true → (I22 v7 v25 (v9 + ((1 : Int) : Int).toNat) v10 ∧ M23 v7 v25 (v9 + ((1 : Int) : Int).toNat) v10 < M23 v7 v8 v9 v10)) ∧ (v29 = false → (0 ≤ r26.1 ∧ r26.1 < (p3.length : Int)) ∧ ∀ a30 : GSolve_Pick, p3[(r26.1 : Int).toNat]? = some a30 → ∃ r31 : GSolve_Module × Bool, sp31 p1 a30 r31 ∧ (((!r31.2) = true → Q false) ∧ ((!r31.2) = false → ∀ m32 : GM (List UInt8) Bool, m32 = v10.put r26.2.Name true → (R64 (v7 + (1 : Int))) ∧ ∀ v33 : Int, v33 = v7 + (1 : Int) → ((v25.length + r31.1.Uses.length) * 32 ≤ 140737488355328) ∧ ∀ v34 : List GaUse, v34 = v25 ++ r31.1.Uses → (I22 v33 v34 (v9 + ((1 : Int) : Int).toNat) m32 ∧ M23 v33 v34 (v9 + ((1 : Int) : Int).toNat) m32 < M23 v7 v8 v9 v10)))))))))))) ∧ ((v8.length : Int) ≤ (0 : Int) → ((v7 = (p3.length : Int) → ∃ r35 : Bool, sp32_33 p3 r35 ∧ Q r35) ∧ (v7 ≠ (p3.length : Int) → Q false))))))))
theorem ok16 (p1 : List (GSolve_Module)) (p2 : List (GaUse)) (p3 : List (GSolve_Pick)) (r : Bool) (hw : w16 p1 p2 p3 fun r' => r' = r) : sp16 p1 p2 p3 r := by
  refine zf (rs := [.t 6]) (g := zg16) Try.func16 hk16 ?_
  unfold w16 at hw
  show SC Try.prog Try.f16.ntmps 0 hc16 _ [(0, ln eGSolve_Module p1), (1, ln eGaUse p2), (2, ln eGSolve_Pick p3)] []
  unfold hc16
  refine q_reg (st_mv rfl (g_endq [(0, ln eGSolve_Module p1), (1, ln eGaUse p2), (2, ln eGSolve_Pick p3)] rfl ?_))
  refine sc_seq (q_reg (st_mv rfl (k_call dh (ec rfl en) rfl hw fun r4 hw => g_nei rfl rfl hw (fun hw => st_mv rfl (st_gtf rfl (st_gtf rfl (st_gtf rfl (st_pick_t rfl rfl rfl (g_endq [(0, ln eGSolve_Module p1), (1, ln eGaUse p2), (2, ln eGSolve_Pick p3), (21, .bool true)] rfl ?_)))))) (fun hw => st_mv rfl (st_g rfl (st_mv rfl (st_g rfl (k_call dh (ec rfl en) rfl hw fun r5 hw => st_g rfl (g_nei rfl rfl hw (fun hw => st_pick_f rfl rfl rfl (g_endq [(0, ln eGSolve_Module p1), (1, ln eGaUse p2), (2, ln eGSolve_Pick p3), (21, .bool true)] rfl ?_)) (fun hw => st_pick_f rfl rfl rfl (g_endq [(0, ln eGSolve_Module p1), (1, ln eGaUse p2), (2, ln eGSolve_Pick p3), (21, .bool false)] rfl ?_)))))))))))
  · refine s_cond_t rfl (q_reg (st_mv rfl (g_endq [(6, .bool false)] rfl ?_)))
    exact sc_ret (sq_r (gr1 (g := zg16) (ho := fun _ => []) [.bool false] hw (.inr rfl) ws))
  · refine s_cond_t rfl (q_reg (st_mv rfl (g_endq [(6, .bool false)] rfl ?_)))
    exact sc_ret (sq_r (gr1 (g := zg16) (ho := fun _ => []) [.bool false] hw (.inr rfl) ws))
  · refine s_cond_f rfl (sc_skip (sq_n (q_reg (st_mv rfl (g_endq [(0, ln eGSolve_Module p1), (1, ln eGaUse p2), (2, ln eGSolve_Pick p3), (7, ii 0)] rfl ?_)))))
    refine q_reg (st_mv rfl (kh (hback := fun _ => (ou_arr enc_GaUse (fun a => (lfc rfl (lfc rfl (lfc rfl lfn)))) rfl ou_nil)) (hres := fun _ => (rn_arr rfl)) hh (g2 := fun r6 : List (GaUse) => .arr 0 0 r6.length 3) (H2 := fun r6 : List (GaUse) => [GA eGaUse r6]) [] [0] 0 1 (ec rfl en) hw fun r6 hw => st_mv rfl (g_endq [(0, ln eGSolve_Module p1), (2, ln eGSolve_Pick p3), (7, ii 0), (8, .arr 0 0 r6.length 3)] rfl ?_)))
    refine q_reg (g_mkmap (fk := eStr) (fv := eBool) (n := 1) rfl rfl (st_mv rfl (g_endq [(0, ln eGSolve_Module p1), (2, ln eGSolve_Pick p3), (7, ii 0), (8, .arr 0 0 r6.length 3), (9, .map 1)] rfl ?_)))
    refine sc_seq (sc_block (SC.weak (w_arr_tok (l := r6) (h' := [.dead, GM.obj eStr eBool GM.nil, .tok (1 + r6.length)]) 8 enc_GaUse rfl rfl rfl (k := 2) rfl rfl) ?_))
    obtain ⟨I22, M23, hi, hw⟩ := hw
    refine sc_loop (X := { x : Int × List GaUse × Nat × GM (List UInt8) Bool // I22 x.1 x.2.1 x.2.2.1 x.2.2.2 }) (fun x => ([(0, ln eGSolve_Module p1), (2, ln eGSolve_Pick p3), (7, ii x.1.1), (8, .list (List.map eGaUse x.1.2.1) (.own 0 (1 + x.1.2.2.1) 3)), (9, .map 1)], [.tok (1 + (x.1.2.1.length + x.1.2.2.1)), GM.obj eStr eBool x.1.2.2.2])) (fun x => M23 x.1.1 x.1.2.1 x.1.2.2.1 x.1.2.2.2) ⟨((0 : Int), r6, 0, GM.nil), hi⟩ (weak_ren [2, 1] (by simp) (by decide) (ro_tok rfl (ro_map enc_str enc_bool rfl ro_nil)) (re_cons rfl (.pv _ (pv_lst enc_GSolve_Module _ _ (by simp))) (re_cons rfl (.pv _ (pv_lst enc_GSolve_Pick _ _ (by simp))) (re_cons rfl (.pv _ (.int _ _)) (re_cons rfl (.own _ _ _ _ _ rfl (pv_flat enc_GaUse _)) (re_cons rfl (.map _ _ rfl) re_nil)))))) ?_
    rintro ⟨⟨v7, v8, v9, v10⟩, hi2⟩
    have hw := hw v7 v8 v9 v10 hi2
    clear hi
    refine sc_seq (q_reg (st_mv rfl (g_len rfl (g_gtr rfl rfl hw (fun hw => g_endq [(0, ln eGSolve_Module p1), (2, ln eGSolve_Pick p3), (7, ii v7), (8, .list (List.map eGaUse v8) (.own 0 (1 + v9) 3)), (9, .map 1), (27, .bool true)] rfl ?_) (fun hw => g_endq [(0, ln eGSolve_Module p1), (2, ln eGSolve_Pick p3), (7, ii v7), (8, .list (List.map eGaUse v8) (.own 0 (1 + v9) 3)), (9, .map 1), (27, .bool false)] rfl ?_)))))
    · refine s_cond_t rfl (sc_skip (sq_n (sc_block (q_reg (st_mv rfl (g_iaddr enc_GaUse rfl rfl hw fun a24 hw => st_load_r (v := eGaUse a24) rfl rfl (g_alloc (n := 2) rfl rfl (g_sp (v := eGaUse a24) (h' := [.tok (1 + (v8.length + v9)), GM.obj eStr eBool v10, .cells (HV.cells (eGaUse a24))]) rfl rfl rfl (g_endq [(0, ln eGSolve_Module p1), (2, ln eGSolve_Pick p3), (7, ii v7), (8, .list (List.map eGaUse v8) (.own 0 (1 + v9) 3)), (9, .map 1), (10, .ptr 2 0)] rfl ?_)))))))))
      refine q_reg (st_mv rfl (g_sliceO enc_GaUse rfl (bnd_some rfl) rfl hw (fun z => [.tok (1 + (z.length + (v9 + ((1 : Int) : Int).toNat))), GM.obj eStr eBool v10, .cells (HV.cells (eGaUse a24))]) (fun _ => rfl) fun v25 hw => st_mv rfl (g_endq [(0, ln eGSolve_Module p1), (2, ln eGSolve_Pick p3), (7, ii v7), (8, .list (List.map eGaUse v25) (.own 0 (1 + (v9 + ((1 : Int) : Int).toNat)) 3)), (9, .map 1), (10, .ptr 2 0)] rfl ?_)))
      refine q_reg (st_mv rfl (g_mkfunc (ec rfl en) rfl (kh (hargs := (ra_cons (.pv _ (pv_lst enc_GSolve_Pick _ _ (by simp))) (ra_cons (Ren.fn (rf_cons (.ptr _ _ _ rfl) rf_nil)) ra_nil))) hh (g2 := fun r26 : Int × GaUse => ii r26.1) (H2 := fun r26 : Int × GaUse => [.tok (1 + (v25.length + (v9 + ((1 : Int) : Int).toNat))), GM.obj eStr eBool v10, .cells (HV.cells (eGaUse r26.2))]) [2] [2] 3 0 (ec rfl (ec rfl en)) hw fun r26 hw => st_mv rfl (g_endq [(0, ln eGSolve_Module p1), (2, ln eGSolve_Pick p3), (7, ii v7), (8, .list (List.map eGaUse v25) (.own 0 (1 + (v9 + ((1 : Int) : Int).toNat)) 3)), (9, .map 1), (10, .ptr 2 0), (11, ii r26.1)] rfl ?_))))
      refine sc_seq (sc_seq (s_dreg Try.mixed rfl (st_mv rfl (g_lss rfl rfl hw (fun hw => st_mv rfl (st_gtf rfl (st_gtf rfl (st_gtf rfl (st_gtf rfl (st_gtf rfl (st_gtf rfl (st_gtf rfl (st_gtf rfl (st_pick_t rfl rfl rfl (st_mv rfl (st_gtf rfl (st_gtf rfl (st_gtf rfl (st_gtf rfl (st_gtf rfl (st_gtf rfl (st_gtf rfl (st_gtf rfl (st_pick_t rfl rfl rfl (st_mid (g_end [(0, ln eGSolve_Module p1), (2, ln eGSolve_Pick p3), (7, ii v7), (8, .list (List.map eGaUse v25) (.own 0 (1 + (v9 + ((1 : Int) : Int).toNat)) 3)), (9, .map 1), (10, .ptr 2 0), (11, ii r26.1), (57, .bool true)] rfl ?_)))))))))))))))))))))) (fun hw => st_mv rfl (st_g rfl (st_mv rfl (st_g rfl (st_mv rfl (st_g rfl (g_iaddr enc_GSolve_Pick rfl rfl hw fun a27 hw => st_g rfl (g_faddr_r (cs := [.str a27.Name, ii a27.Version]) rfl (lt_of_blt rfl) (st_g rfl (st_load_r rfl rfl (st_g rfl (g_faddr_p rfl (st_g rfl (g_load_p rfl rfl rfl (st_g rfl (g_lss rfl rfl hw (fun hw => st_pick_f rfl rfl rfl (st_mv rfl (st_gtf rfl (st_gtf rfl (st_gtf rfl (st_gtf rfl (st_gtf rfl (st_gtf rfl (st_gtf rfl (st_gtf rfl (st_pick_t rfl rfl rfl (st_mid (g_end [(0, ln eGSolve_Module p1), (2, ln eGSolve_Pick p3), (7, ii v7), (8, .list (List.map eGaUse v25) (.own 0 (1 + (v9 + ((1 : Int) : Int).toNat)) 3)), (9, .map 1), (10, .ptr 2 0), (11, ii r26.1), (57, .bool true)] rfl ?_))))))))))))) (fun hw => st_pick_f rfl rfl rfl (st_mv rfl (st_g rfl (st_mv rfl (st_g rfl (st_mv rfl (st_g rfl (g_iaddr enc_GSolve_Pick rfl rfl hw fun a28 hw => st_g rfl (g_faddr_r (cs := [.str a28.Name, ii a28.Version]) rfl (lt_of_blt rfl) (st_g rfl (st_load_r rfl rfl (st_g rfl (g_faddr_p rfl (st_g rfl (g_load_p rfl rfl rfl (st_g rfl (g_gtr rfl rfl hw (fun hw => st_pick_f rfl rfl rfl (st_mid (g_end [(0, ln eGSolve_Module p1), (2, ln eGSolve_Pick p3), (7, ii v7), (8, .list (List.map eGaUse v25) (.own 0 (1 + (v9 + ((1 : Int) : Int).toNat)) 3)), (9, .map 1), (10, .ptr 2 0), (11, ii r26.1), (57, .bool true)] rfl ?_))) (fun hw => st_pick_f rfl rfl rfl (st_mid (g_end [(0, ln eGSolve_Module p1), (2, ln eGSolve_Pick p3), (7, ii v7), (8, .list (List.map eGaUse v25) (.own 0 (1 + (v9 + ((1 : Int) : Int).toNat)) 3)), (9, .map 1), (10, .ptr 2 0), (11, ii r26.1), (57, .bool false)] rfl ?_))))))))))))))))))))))))))))))))))))))))
      · refine sq_n (s_cond_t rfl (q_reg (st_mv rfl (g_endq [(6, .bool false)] rfl ?_))))
        exact sc_ret (sq_r (bl_r (lo_r (bl_r (sq_r (gr1 (g := zg16) (ho := fun _ => []) [.bool false] hw (.inr rfl) (wr [])))))))
      · refine sq_n (s_cond_t rfl (q_reg (st_mv rfl (g_endq [(6, .bool false)] rfl ?_))))
        exact sc_ret (sq_r (bl_r (lo_r (bl_r (sq_r (gr1 (g := zg16) (ho := fun _ => []) [.bool false] hw (.inr rfl) (wr [])))))))
      · refine sq_n (s_cond_t rfl (q_reg (st_mv rfl (g_endq [(6, .bool false)] rfl ?_))))
        exact sc_ret (sq_r (bl_r (lo_r (bl_r (sq_r (gr1 (g := zg16) (ho := fun _ => []) [.bool false] hw (.inr rfl) (wr [])))))))
      · refine sq_n (s_cond_f rfl (sc_skip (sq_n (sc_seq (q_reg (st_mv rfl (g_faddr_p rfl (g_load_p rfl rfl rfl (g_lookup (fk := eStr) (fv := eBool) (m := v10) (q := r26.2.Name) (z0 := false) enck_str rfl rfl rfl rfl hw fun v29 hw => g_endq [(0, ln eGSolve_Module p1), (2, ln eGSolve_Pick p3), (7, ii v7), (8, .list (List.map eGaUse v25) (.own 0 (1 + (v9 + ((1 : Int) : Int).toNat)) 3)), (9, .map 1), (10, .ptr 2 0), (11, ii r26.1), (61, .bool v29)] rfl ?_)))))))))
        refine s_cond rfl hw (fun hw => ?_) (fun hw => ?_)
        · exact sc_exit (sq_x (bl_x (lo_n ⟨(v7, v25, (v9 + ((1 : Int) : Int).toNat), v10), hw.1⟩ hw.2 (weak_ren [0, 1] (by simp) (by decide) (ro_tok rfl (ro_map enc_str enc_bool rfl ro_nil)) (re_cons rfl (.pv _ (pv_lst enc_GSolve_Module _ _ (by simp))) (re_cons rfl (.pv _ (pv_lst enc_GSolve_Pick _ _ (by simp))) (re_cons rfl (.pv _ (.int _ _)) (re_cons rfl (.own _ _ _ _ _ rfl (pv_flat enc_GaUse _)) (re_cons rfl (.map _ _ rfl) re_nil)))))))))
        · refine sc_skip (sq_n (q_reg (st_mv rfl (st_mv rfl (st_mv rfl (g_iaddr enc_GSolve_Pick rfl rfl hw fun a30 hw => st_load_r (v := eGSolve_Pick a30) rfl rfl (k_call dh (ec rfl (ec rfl en)) rfl hw fun r31 hw => st_mv rfl (st_extract rfl rfl (st_extract rfl rfl (g_alloc (n := 3) rfl rfl (g_sp (v := eGSolve_Module r31.1) (h' := [.tok (1 + (v25.length + (v9 + ((1 : Int) : Int).toNat))), GM.obj eStr eBool v10, .cells (HV.cells (eGaUse r26.2)), .cells (HV.cells (eGSolve_Module r31.1))]) rfl rfl rfl (st_mv rfl (g_endq [(0, ln eGSolve_Module p1), (2, ln eGSolve_Pick p3), (7, ii v7), (8, .list (List.map eGaUse v25) (.own 0 (1 + (v9 + ((1 : Int) : Int).toNat)) 3)), (9, .map 1), (10, .ptr 2 0), (12, .ptr 3 0), (13, .bool r31.2)] rfl ?_)))))))))))))
          refine sc_seq (q_reg (st_mv rfl (st_not rfl (g_endq [(0, ln eGSolve_Module p1), (2, ln eGSolve_Pick p3), (7, ii v7), (8, .list (List.map eGaUse v25) (.own 0 (1 + (v9 + ((1 : Int) : Int).toNat)) 3)), (9, .map 1), (10, .ptr 2 0), (12, .ptr 3 0), (72, .bool (!r31.2))] rfl ?_))))
          refine s_cond rfl hw (fun hw => ?_) (fun hw => ?_)
          · refine q_reg (st_mv rfl (g_endq [(6, .bool false)] rfl ?_))
            exact sc_ret (sq_r (bl_r (lo_r (bl_r (sq_r (gr1 (g := zg16) (ho := fun _ => []) [.bool false] hw (.inr rfl) (wr [])))))))
          · refine sc_skip (sq_n (q_reg (st_mv rfl (g_faddr_p rfl (g_load_p rfl rfl rfl (g_mapset (fk := eStr) (fv := eBool) (m := v10) (q := r26.2.Name) (v := true) enck_str rfl rfl rfl rfl rfl hw (fun z => [.tok (1 + (v25.length + (v9 + ((1 : Int) : Int).toNat))), GM.obj eStr eBool z, .cells (HV.cells (eGaUse r26.2)), .cells (HV.cells (eGSolve_Module r31.1))]) (fun _ => rfl) fun m32 hw => g_endq [(0, ln eGSolve_Module p1), (2, ln eGSolve_Pick p3), (7, ii v7), (8, .list (List.map eGaUse v25) (.own 0 (1 + (v9 + ((1 : Int) : Int).toNat)) 3)), (9, .map 1), (12, .ptr 3 0)] rfl ?_))))))
            refine q_reg (st_mv rfl (g_add rfl rfl hw fun v33 hw => st_mv rfl (g_endq [(0, ln eGSolve_Module p1), (2, ln eGSolve_Pick p3), (7, ii v33), (8, .list (List.map eGaUse v25) (.own 0 (1 + (v9 + ((1 : Int) : Int).toNat)) 3)), (9, .map 1), (12, .ptr 3 0)] rfl ?_)))
            refine s_reg (st_mv rfl (g_faddr_p rfl (g_load_p rfl rfl rfl (g_appO enc_GaUse rfl rfl rfl hw (fun z => [.tok (1 + (z.length + (v9 + ((1 : Int) : Int).toNat))), GM.obj eStr eBool m32, .cells (HV.cells (eGaUse r26.2)), .cells (HV.cells (eGSolve_Module r31.1))]) (fun _ => rfl) fun v34 hw => st_mv rfl (g_end [(0, ln eGSolve_Module p1), (2, ln eGSolve_Pick p3), (7, ii v33), (8, .list (List.map eGaUse v34) (.own 0 (1 + (v9 + ((1 : Int) : Int).toNat)) 3)), (9, .map 1)] rfl ?_)))))
            exact bl_n (lo_n ⟨(v33, v34, (v9 + ((1 : Int) : Int).toNat), m32), hw.1⟩ hw.2 (weak_ren [0, 1] (by simp) (by decide) (ro_tok rfl (ro_map enc_str enc_bool rfl ro_nil)) (re_cons rfl (.pv _ (pv_lst enc_GSolve_Module _ _ (by simp))) (re_cons rfl (.pv _ (pv_lst enc_GSolve_Pick _ _ (by simp))) (re_cons rfl (.pv _ (.int _ _)) (re_cons rfl (.own _ _ _ _ _ rfl (pv_flat enc_GaUse _)) (re_cons rfl (.map _ _ rfl) re_nil)))))))
    · refine s_cond_f rfl (sc_exit (sq_x (lo_x (bl_x (sq_n (q_reg (st_mv rfl (st_mv rfl (g_len rfl (g_eqi rfl rfl hw (fun hw => st_mv rfl (st_g rfl (st_mv rfl (st_g rfl (k_call dh (ec rfl (ec rfl en)) rfl hw fun r35 hw => st_pick_t rfl rfl rfl (st_mv rfl (g_endq [(6, .bool r35)] rfl ?_))))))) (fun hw => st_mv rfl (st_gft rfl (st_gft rfl (st_pick_f rfl rfl rfl (st_mv rfl (g_endq [(6, .bool false)] rfl ?_))))))))))))))))
      · exact sc_ret (gr1 (g := zg16) (ho := fun _ => []) [.bool r35] hw (.inr rfl) (wr []))
      · exact sc_ret (gr1 (g := zg16) (ho := fun _ => []) [.bool false] hw (.inr rfl) (wr []))
def hc30 : C := (.seq (.reg [oo 2 (.box none 2 0), oo 3 (.mv (.c (.bool false)))] [1, 2]) (.seq (.reg [oo 4 (.faddr 0 1 2), oo 5 (.load none 4), oo 6 (.faddr 0 1 1), oo 7 (.load none 6), oo 8 (.eqv false .str 5 7), mo 3 8] [3]) .ret))
def ha30 : Ann := ⟨[], [], [(0, [1, 2]), (1, [3])], []⟩
theorem hk30 : comp Try.prog ha30 Try.f30.ntmps Try.f30.code = some hc30 := by kernel_rfl
def w30 (p1 : GSolve_Pick) (p2 : GaUse) (Q : Bool × GaUse → Prop) : Prop :=
  ∀ v3 : Bool, v3 = (if false then !(p1.Name == p2.Name) else (p1.Name == p2.Name)) → Q (v3, (GaUse.mk p2.Name p2.Low p2.High))
theorem ok30 (p1 : GSolve_Pick) (p2 : GaUse) (r : Bool × GaUse) (hw : w30 p1 p2 fun r' => r' = r) : sp30 p1 p2 r := by
  refine zh (rs := [.t 3]) Try.func30 hk30 ?_
  unfold w30 at hw
  show SC Try.prog Try.f30.ntmps 1 hc30 _ [(0, eGSolve_Pick p1), (1, .ptr 0 0)] [.cells [.str p2.Name, ii p2.Low, ii p2.High]]
  unfold hc30
  refine q_reg (g_box (v := eGSolve_Pick p1) rfl rfl rfl (n := 1) rfl rfl (st_mv rfl (g_endq [(1, .ptr 0 0), (2, .ptr 1 0)] rfl ?_)))
  refine q_reg (g_faddr_p rfl (g_load_p rfl rfl rfl (g_faddr_p rfl (g_load_p rfl rfl rfl (gb_eqs rfl rfl hw fun v3 hw => st_mv rfl (g_endq [(3, .bool v3)] rfl ?_))))))
  exact sc_ret (gr1 (g := zg30) (ho := zo30) [.bool v3] hw (.inr rfl) (wrm 1 [0]))
def hc31 : C := (.seq (.reg [oo 3 (.box none 2 1), oo 4 (.alloc none [(.str []), (.int .i64 0), (.list [] .full)]), oo 5 (.mv (.c (.bool false)))] [0, 3, 4]) (.seq (.reg [mo 7 0, oo 8 (.mkfunc 46 [3]), co 9 (.call 45 [7, 8]), mo 6 9] [0, 4, 6]) (.seq (.seq (.reg [mo 10 6, oo 11 (.bin .lss 10 (.c (.int .i64 0)))] [0, 4, 6, 11]) (.cond 11 (.seq (.reg [oo 12 (.build [(.str []), (.int .i64 0), (.list [] .full)] []), os (.store 3 4 12), oo 5 (.mv (.c (.bool false)))] [4, 5]) .ret) .skip)) (.seq (.reg [mo 13 0, mo 14 6, oo 15 (.iaddr 3 13 14), oo 16 (.load (some 3) 15), os (.store 3 4 16), oo 5 (.mv (.c (.bool true)))] [4, 5]) .ret))))
def ha31 : Ann := ⟨[], [], [(0, [0, 3, 4]), (1, [0, 4, 6]), (2, [0, 4, 6, 11]), (3, [4, 5]), (4, [4, 5])], []⟩
theorem hk31 : comp Try.prog ha31 Try.f31.ntmps Try.f31.code = some hc31 := by kernel_rfl
def w31 (p1 : List (GSolve_Module)) (p2 : GSolve_Pick) (Q : GSolve_Module × Bool → Prop) : Prop :=
  ∃ r3 : Int × GSolve_Pick, sp45_46 p1 (GSolve_Pick.mk p2.Name p2.Version) r3 ∧ ((r3.1 < (0 : Int) → Q ((GSolve_Module.mk [] (0 : Int) ([] : List GaUse)), false)) ∧ ((0 : Int) ≤ r3.1 → (0 ≤ r3.1 ∧ r3.1 < (p1.length : Int)) ∧ ∀ a4 : GSolve_Module, p1[(r3.1 : Int).toNat]? = some a4 → Q ((GSolve_Module.mk a4.Name a4.Version a4.Uses), true)))
theorem ok31 (p1 : List (GSolve_Module)) (p2 : GSolve_Pick) (r : GSolve_Module × Bool) (hw : w31 p1 p2 fun r' => r' = r) : sp31 p1 p2 r := by
  refine zf (rs := [.c 4 (some 3), .t 5]) (g := zg31) Try.func31 hk31 ?_
  unfold w31 at hw
  show SC Try.prog Try.f31.ntmps 0 hc31 _ [(0, ln eGSolve_Module p1), (1, eGSolve_Pick p2)] []
  unfold hc31
  refine q_reg (g_box (v := eGSolve_Pick p2) rfl rfl rfl (n := 0) rfl rfl (g_alloc (n := 1) rfl rfl (st_mv rfl (g_endq [(0, ln eGSolve_Module p1), (3, .ptr 0 0), (4, .ptr 1 0)] rfl ?_))))
  refine q_reg (st_mv rfl (g_mkfunc (ec rfl en) rfl (kh (hargs := (ra_cons (.pv _ (pv_lst enc_GSolve_Module _ _ (by simp))) (ra_cons (Ren.fn (rf_cons (.ptr _ _ _ rfl) rf_nil)) ra_nil))) hh (g2 := fun r3 : Int × GSolve_Pick => ii r3.1) (H2 := fun r3 : Int × GSolve_Pick => [.cells [.str r3.2.Name, ii r3.2.Version], .cells [.str [], ii 0, nl eGaUse]]) [0] [0] 2 0 (ec rfl (ec rfl en)) hw fun r3 hw => st_mv rfl (g_endq [(0, ln eGSolve_Module p1), (4, .ptr 1 0), (6, ii r3.1)] rfl ?_))))
  refine sc_seq (q_reg (st_mv rfl (g_lss rfl rfl hw (fun hw => g_endq [(0, ln eGSolve_Module p1), (4, .ptr 1 0), (6, ii r3.1), (11, .bool true)] rfl ?_) (fun hw => g_endq [(0, ln eGSolve_Module p1), (4, .ptr 1 0), (6, ii r3.1), (11, .bool false)] rfl ?_))))
  · refine s_cond_t rfl (q_reg (g_build (cs := [.str [], ii 0, nl eGaUse]) ep_nil rfl (g_sp (v := .agg [.str [], ii 0, nl eGaUse]) (h' := [.cells [.str r3.2.Name, ii r3.2.Version], .cells [.str [], ii 0, nl eGaUse]]) rfl rfl rfl (st_mv rfl (g_endq [(4, .ptr 1 0), (5, .bool false)] rfl ?_)))))
    exact sc_ret (sq_r (gr (g := zg31) (ho := fun _ => []) [.agg [.str [], ii 0, nl eGaUse], .bool false] [.agg [.str [], ii 0, ln eGaUse ([] : List GaUse)], .bool false] hw (.inr rfl) (wr [])))
  · refine s_cond_f rfl (sc_skip (sq_n (q_reg (st_mv rfl (st_mv rfl (g_iaddr enc_GSolve_Module rfl rfl hw fun a4 hw => st_load_r (v := eGSolve_Module a4) rfl rfl (g_sp (v := eGSolve_Module a4) (h' := [.cells [.str r3.2.Name, ii r3.2.Version], .cells (HV.cells (eGSolve_Module a4))]) rfl rfl rfl (st_mv rfl (g_endq [(4, .ptr 1 0), (5, .bool true)] rfl ?_)))))))))
    exact sc_ret (gr1 (g := zg31) (ho := fun _ => []) [.agg [.str a4.Name, ii a4.Version, ln eGaUse a4.Uses], .bool true] hw (.inr rfl) (wr []))
def hc33 : C := (.seq (.reg [oo 2 (.box none 2 0), oo 3 (.box none 2 1), oo 4 (.mv (.c (.int .i64 0)))] [2, 3]) (.seq (.reg [oo 5 (.faddr 0 1 2), oo 6 (.load none 5), oo 7 (.faddr 0 1 3), oo 8 (.load none 7), co 9 (.call 25 [6, 8]), mo 4 9] [4]) .ret))
def ha33 : Ann := ⟨[], [], [(0, [2, 3]), (1, [4])], []⟩
theorem hk33 : comp Try.prog ha33 Try.f33.ntmps Try.f33.code = some hc33 := by kernel_rfl
def w33 (p1 : GSolve_Pick) (p2 : GSolve_Pick) (Q : Int → Prop) : Prop :=
  ∃ r3 : Int, sp25 p1.Name p2.Name r3 ∧ Q r3
theorem ok33 (p1 : GSolve_Pick) (p2 : GSolve_Pick) (r : Int) (hw : w33 p1 p2 fun r' => r' = r) : sp33 p1 p2 r := by
  refine zf (rs := [.t 4]) (g := zg33) Try.func33 hk33 ?_
  unfold w33 at hw
  show SC Try.prog Try.f33.ntmps 0 hc33 _ [(0, eGSolve_Pick p1), (1, eGSolve_Pick p2)] []
  unfold hc33
  refine q_reg (g_box (v := eGSolve_Pick p1) rfl rfl rfl (n := 0) rfl rfl (g_box (v := eGSolve_Pick p2) rfl rfl rfl (n := 1) rfl rfl (st_mv rfl (g_endq [(2, .ptr 0 0), (3, .ptr 1 0)] rfl ?_))))
  refine q_reg (g_faddr_p rfl (g_load_p rfl rfl rfl (g_faddr_p rfl (g_load_p rfl rfl rfl (k_call dh (ec rfl (ec rfl en)) rfl hw fun r3 hw => st_mv rfl (g_endq [(4, ii r3)] rfl ?_))))))
  exact sc_ret (gr1 (g := zg33) (ho := fun _ => []) [ii r3] hw (.inr rfl) (wr []))
def hc46 : C := (.seq (.reg [oo 2 (.box none 3 0), oo 3 (.mv (.c (.bool false)))] [1, 2]) (.seq (.reg [oo 4 (.faddr 0 1 2), oo 5 (.load none 4), oo 6 (.faddr 0 1 1), oo 7 (.load none 6), oo 8 (.eqv false .str 5 7), mo 9 8, og 10 (.faddr 1 1 2) 9 true, og 11 (.load none 10) 9 true, og 12 (.faddr 1 1 1) 9 true, og 13 (.load none 12) 9 true, og 14 (.eqv false .int 11 13) 9 true, oo 15 (.pick 9 14 (.c (.bool false))), mo 3 15] [3]) .ret))
def ha46 : Ann := ⟨[], [], [(0, [1, 2]), (1, [3])], []⟩
theorem hk46 : comp Try.prog ha46 Try.f46.ntmps Try.f46.code = some hc46 := by kernel_rfl
def w46 (p1 : GSolve_Module) (p2 : GSolve_Pick) (Q : Bool × GSolve_Pick → Prop) : Prop :=
  ((p1.Name = p2.Name → ∀ v3 : Bool, v3 = (if false then !(p1.Version == p2.Version) else (p1.Version == p2.Version)) → Q (v3, (GSolve_Pick.mk p2.Name p2.Version))) ∧ (p1.Name ≠ p2.Name → Q (false, (GSolve_Pick.mk p2.Name p2.Version))))
theorem ok46 (p1 : GSolve_Module) (p2 : GSolve_Pick) (r : Bool × GSolve_Pick) (hw : w46 p1 p2 fun r' => r' = r) : sp46 p1 p2 r := by
  refine zh (rs := [.t 3]) Try.func46 hk46 ?_
  unfold w46 at hw
  show SC Try.prog Try.f46.ntmps 1 hc46 _ [(0, eGSolve_Module p1), (1, .ptr 0 0)] [.cells [.str p2.Name, ii p2.Version]]
  unfold hc46
  refine q_reg (g_box (v := eGSolve_Module p1) rfl rfl rfl (n := 1) rfl rfl (st_mv rfl (g_endq [(1, .ptr 0 0), (2, .ptr 1 0)] rfl ?_)))
  refine q_reg (g_faddr_p rfl (g_load_p rfl rfl rfl (g_faddr_p rfl (g_load_p rfl rfl rfl (g_eqs rfl rfl hw (fun hw => st_mv rfl (st_g rfl (g_faddr_p rfl (st_g rfl (g_load_p rfl rfl rfl (st_g rfl (g_faddr_p rfl (st_g rfl (g_load_p rfl rfl rfl (st_g rfl (gb_eqi rfl rfl hw fun v3 hw => st_pick_t rfl rfl rfl (st_mv rfl (g_endq [(3, .bool v3)] rfl ?_))))))))))))) (fun hw => st_mv rfl (st_gft rfl (st_gft rfl (st_gft rfl (st_gft rfl (st_gft rfl (st_pick_f rfl rfl rfl (st_mv rfl (g_endq [(3, .bool false)] rfl ?_))))))))))))))
  · exact sc_ret (gr1 (g := zg46) (ho := zo46) [.bool v3] hw (.inr rfl) (wrm 1 [0]))
  · exact sc_ret (gr1 (g := zg46) (ho := zo46) [.bool false] hw (.inr rfl) (wrm 1 [0]))
def hc32 : C := (.seq (.reg [oo 4 (.mv (.c (.bool false)))] [0, 1]) (.seq (.seq (.reg [mo 6 0, oo 7 (.len false 6), oo 8 (.bin .sub 7 (.c (.int .i64 1))), mo 5 8] [0, 1, 5]) (.block 0 (.loop (.seq (.seq (.reg [mo 9 5, oo 10 (.bin .gtr 9 (.c (.int .i64 0)))] [0, 1, 5, 10]) (.cond 10 .skip (.exit 0))) (.seq (.block 1 (.seq (.dreg [mo 13 1, mo 14 0, mo 15 5, oo 16 (.iaddr 2 14 15), oo 17 (.load (some 2) 16), mo 18 0, mo 19 5, oo 20 (.bin .sub 19 (.c (.int .i64 1))), oo 21 (.iaddr 2 18 20), oo 22 (.load (some 2) 21)] [co 23 (.callv 13 [17, 22]), oo 24 (.bin .lss 23 (.c (.int .i64 0)))] 0 [0, 1, 5, 24]) (.cond 24 (.seq (.reg [oo 4 (.mv (.c (.bool false)))] [4]) .ret) .skip))) (.reg [mo 11 5, oo 12 (.bin .sub 11 (.c (.int .i64 1))), mo 5 12] [0, 1, 5])))))) (.seq (.reg [oo 4 (.mv (.c (.bool true)))] [4]) .ret)))
def ha32 : Ann := ⟨[], [30, 46, 60, 63, 66, 67, 83, 999999], [(0, [0, 1]), (1, [0, 1, 5]), (2, [0, 1, 5, 10]), (4, [0, 1, 5, 24]), (5, [4]), (3, [0, 1, 5]), (6, [4])], []⟩
theorem hk32 : comp Try.prog ha32 Try.f32.ntmps Try.f32.code = some hc32 := by kernel_rfl
def w32_33 (p1 : List (GSolve_Pick)) (Q : Bool → Prop) : Prop :=
  (R64 ((p1.length : Int) - (1 : Int))) ∧ ∀ v2 : Int, v2 = (p1.length : Int) - (1 : Int) → ∃ (I9 : Int → Prop) (M10 : Int → Nat), I9 v2 ∧ ∀ (v3 : Int), I9 v3 → (((0 : Int) < v3 → (0 ≤ v3 ∧ v3 < (p1.length : Int)) ∧ ∀ a11 : GSolve_Pick, p1[(v3 : Int).toNat]? = some a11 → (R64 (v3 - (1 : Int))) ∧ ∀ v12 : Int, v12 = v3 - (1 : Int) → (0 ≤ v12 ∧ v12 < (p1.length : Int)) ∧ ∀ a13 : GSolve_Pick, p1[(v12 : Int).toNat]? = some a13 → ∃ r14 : Int, sp33 a11 a13 r14 ∧ ((r14 < (0 : Int) → Q false) ∧ ((0 : Int) ≤ r14 → (R64 (v3 - (1 : Int))) ∧ ∀ v15 : Int, v15 = v3 - (1 : Int) → (I9 v15 ∧ M10 v15 < M10 v3)))) ∧ (v3 ≤ (0 : Int) → Q true))
theorem ok32_33 (p1 : List (GSolve_Pick)) (r : Bool) (hw : w32_33 p1 fun r' => r' = r) : sp32_33 p1 r := by
  refine zf (rs := [.t 4]) (g := zg32_33) Try.func32 hk32 ?_
  unfold w32_33 at hw
  show SC Try.prog Try.f32.ntmps 0 hc32 _ [(0, ln eGSolve_Pick p1), (1, .func 33 [])] []
  unfold hc32
  refine q_reg (st_mv rfl (g_endq [(0, ln eGSolve_Pick p1), (1, .func 33 [])] rfl ?_))
  refine sc_seq (q_reg (st_mv rfl (g_len rfl (g_sub rfl rfl hw fun v2 hw => st_mv rfl (g_endq [(0, ln eGSolve_Pick p1), (1, .func 33 []), (5, ii v2)] rfl ?_)))))
  refine sc_block ?_
  obtain ⟨I9, M10, hi, hw⟩ := hw
  refine sc_loop (X := { x : Int // I9 x }) (fun x => ([(0, ln eGSolve_Pick p1), (1, .func 33 []), (5, ii x.1)], [])) (fun x => M10 x.1) ⟨v2, hi⟩ ws ?_
  rintro ⟨v3, hi2⟩
  have hw := hw v3 hi2
  clear hi
  refine sc_seq (q_reg (st_mv rfl (g_gtr rfl rfl hw (fun hw => g_endq [(0, ln eGSolve_Pick p1), (1, .func 33 []), (5, ii v3), (10, .bool true)] rfl ?_) (fun hw => g_endq [(0, ln eGSolve_Pick p1), (1, .func 33 []), (5, ii v3), (10, .bool false)] rfl ?_))))
  · refine s_cond_t rfl (sc_skip (sq_n (sc_seq (sc_block (sc_seq (s_dreg Try.mixed rfl (st_mv rfl (st_mv rfl (st_mv rfl (g_iaddr enc_GSolve_Pick rfl rfl hw fun a11 hw => st_load_r (v := eGSolve_Pick a11) rfl rfl (st_mv rfl (st_mv rfl (g_sub rfl rfl hw fun v12 hw => g_iaddr enc_GSolve_Pick rfl rfl hw fun a13 hw => st_load_r (v := eGSolve_Pick a13) rfl rfl (st_mid (k_callv dh rfl (ec rfl (ec rfl en)) rfl hw fun r14 hw => g_lss rfl rfl hw (fun hw => g_end [(0, ln eGSolve_Pick p1), (1, .func 33 []), (5, ii v3), (24, .bool true)] rfl ?_) (fun hw => g_end [(0, ln eGSolve_Pick p1), (1, .func 33 []), (5, ii v3), (24, .bool false)] rfl ?_))))))))))))))))
    · refine sq_n (s_cond_t rfl (q_reg (st_mv rfl (g_endq [(4, .bool false)] rfl ?_))))
      exact sc_ret (bl_r (sq_r (lo_r (bl_r (sq_r (gr1 (g := zg32_33) (ho := fun _ => []) [.bool false] hw (.inr rfl) ws))))))
    · refine sq_n (s_cond_f rfl (sc_skip (bl_n (sq_n (s_reg (st_mv rfl (g_sub rfl rfl hw fun v15 hw => st_mv rfl (g_end [(0, ln eGSolve_Pick p1), (1, .func 33 []), (5, ii v15)] rfl ?_))))))))
      exact lo_n ⟨v15, hw.1⟩ hw.2 ws
  · refine s_cond_f rfl (sc_exit (sq_x (lo_x (bl_x (sq_n (q_reg (st_mv rfl (g_endq [(4, .bool true)] rfl ?_))))))))
    exact sc_ret (gr1 (g := zg32_33) (ho := fun _ => []) [.bool true] hw (.inr rfl) ws)
def w29_30 (p1 : List (GSolve_Pick)) (p2 : GaUse) (Q : Int × GaUse → Prop) : Prop :=
  ∃ (I11 : (List UInt8) → Int → Int → Int → Prop) (M12 : (List UInt8) → Int → Int → Int → Nat), I11 p2.Name p2.Low p2.High (0 : Int) ∧ ∀ (v3 : List UInt8) (v4 : Int) (v5 : Int) (v6 : Int), I11 v3 v4 v5 v6 → ∀ v13 : Bool, v13 = decide (v6 < (p1.length : Int)) → ((v13 = true → (0 ≤ v6 ∧ v6 < (p1.length : Int)) ∧ ∀ a14 : GSolve_Pick, p1[(v6 : Int).toNat]? = some a14 → ∃ r15 : Bool × GaUse, sp30 a14 (GaUse.mk v3 v4 v5) r15 ∧ ((r15.1 = true → Q (v6, (GaUse.mk r15.2.Name r15.2.Low r15.2.High))) ∧ (r15.1 = false → (R64 (v6 + (1 : Int))) ∧ ∀ v16 : Int, v16 = v6 + (1 : Int) → (I11 r15.2.Name r15.2.Low r15.2.High v16 ∧ M12 r15.2.Name r15.2.Low r15.2.High v16 < M12 v3 v4 v5 v6)))) ∧ (v13 = false → Q ((-1 : Int), (GaUse.mk v3 v4 v5))))
theorem ok29_30 (p1 : List (GSolve_Pick)) (p2 : GaUse) (r : Int × GaUse) (hw : w29_30 p1 p2 fun r' => r' = r) : sp29_30 p1 p2 r := by
  refine zh (rs := [.t 4]) Try.func29 hk29 ?_
  unfold w29_30 at hw
  show SC Try.prog Try.f29.ntmps 1 hc29 _ [(0, ln eGSolve_Pick p1), (1, .func 30 [.ptr 0 0])] [.cells [.str p2.Name, ii p2.Low, ii p2.High]]
  unfold hc29
  refine q_reg (st_mv rfl (g_endq [(0, ln eGSolve_Pick p1), (1, .func 30 [.ptr 0 0])] rfl ?_))
  refine sc_seq (q_reg (st_mv rfl (g_len rfl (st_mv rfl (g_endq [(0, ln eGSolve_Pick p1), (1, .func 30 [.ptr 0 0]), (7, ii (p1.length : Int)), (8, ii 0)] rfl ?_)))))
  refine sc_block ?_
  obtain ⟨I11, M12, hi, hw⟩ := hw
  refine sc_loop (X := { x : List UInt8 × Int × Int × Int // I11 x.1 x.2.1 x.2.2.1 x.2.2.2 }) (fun x => ([(0, ln eGSolve_Pick p1), (1, .func 30 [.ptr 0 0]), (7, ii (p1.length : Int)), (8, ii x.1.2.2.2)], [.cells [.str x.1.1, ii x.1.2.1, ii x.1.2.2.1]])) (fun x => M12 x.1.1 x.1.2.1 x.1.2.2.1 x.1.2.2.2) ⟨(p2.Name, p2.Low, p2.High, (0 : Int)), hi⟩ ws ?_
  rintro ⟨⟨v3, v4, v5, v6⟩, hi2⟩
  have hw := hw v3 v4 v5 v6 hi2
  clear hi
  refine q_reg (gb_cmp rfl rfl trivial rfl hw fun v13 hw => g_endq [(0, ln eGSolve_Pick p1), (1, .func 30 [.ptr 0 0]), (7, ii (p1.length : Int)), (8, ii v6), (9, .bool v13)] rfl ?_)
  refine sc_seq (s_cond rfl hw (fun hw => ?_) (fun hw => ?_))
  · refine sc_skip (sq_n (sc_seq (sc_block (q_reg (st_mv rfl (st_mv rfl (g_endq [(0, ln eGSolve_Pick p1), (1, .func 30 [.ptr 0 0]), (5, ii v6), (7, ii (p1.length : Int)), (8, ii v6)] rfl ?_)))))))
    refine q_reg (st_mv rfl (st_mv rfl (st_mv rfl (g_iaddr enc_GSolve_Pick rfl rfl hw fun a14 hw => st_load_r (v := eGSolve_Pick a14) rfl rfl (khv hh rfl (g2 := fun r15 : Bool × GaUse => .bool r15.1) (H2 := fun r15 : Bool × GaUse => [.cells [.str r15.2.Name, ii r15.2.Low, ii r15.2.High]]) [0] [0] 1 0 (ec rfl en) hw fun r15 hw => g_endq [(0, ln eGSolve_Pick p1), (1, .func 30 [.ptr 0 0]), (5, ii v6), (7, ii (p1.length : Int)), (8, ii v6), (16, .bool r15.1)] rfl ?_)))))
    refine s_cond rfl hw (fun hw => ?_) (fun hw => ?_)
    · refine q_reg (st_mv rfl (st_mv rfl (g_endq [(4, ii v6)] rfl ?_)))
      exact sc_ret (bl_r (sq_r (lo_r (bl_r (sq_r (gr1 (g := zg29_30) (ho := zo29_30) [ii v6] hw (.inr rfl) ws))))))
    · refine sc_skip (bl_n (sq_n (s_reg (g_add rfl rfl hw fun v16 hw => st_mv rfl (g_end [(0, ln eGSolve_Pick p1), (1, .func 30 [.ptr 0 0]), (7, ii (p1.length : Int)), (8, ii v16)] rfl ?_)))))
      exact lo_n ⟨(r15.2.Name, r15.2.Low, r15.2.High, v16), hw.1⟩ hw.2 ws
  · refine sc_exit (sq_x (lo_x (bl_x (sq_n (q_reg (st_mv rfl (g_endq [(4, ii (-1 : Int))] rfl ?_)))))))
    exact sc_ret (gr1 (g := zg29_30) (ho := zo29_30) [ii (-1 : Int)] hw (.inr rfl) ws)
def hc45 : C := (.seq (.reg [oo 4 (.mv (.c (.int .i64 0)))] [0, 1]) (.seq (.seq (.reg [mo 6 0, oo 7 (.len false 6), oo 8 (.mv (.c (.int .i64 0)))] [0, 1, 7, 8]) (.block 0 (.loop (.seq (.reg [oo 9 (.bin .lss 8 7)] [0, 1, 7, 8, 9]) (.seq (.cond 9 .skip (.exit 0)) (.seq (.block 1 (.seq (.reg [mo 10 8, mo 5 10] [0, 1, 5, 7, 8]) (.seq (.reg [mo 11 1, mo 12 0, mo 13 5, oo 14 (.iaddr 3 12 13), oo 15 (.load (some 3) 14), co 16 (.callv 11 [15])] [0, 1, 5, 7, 8, 16]) (.cond 16 (.seq (.reg [mo 17 5, mo 4 17] [4]) .ret) .skip)))) (.reg [oo 18 (.bin .add 8 (.c (.int .i64 1))), mo 8 18] [0, 1, 7, 8]))))))) (.seq (.reg [oo 4 (.mv (.c (.int .i64 (-1))))] [4]) .ret)))
def ha45 : Ann := ⟨[], [30, 46, 60, 63, 66, 67, 83, 999999], [(0, [0, 1]), (1, [0, 1, 7, 8]), (2, [0, 1, 7, 8, 9]), (3, [0, 1, 5, 7, 8]), (4, [0, 1, 5, 7, 8, 16]), (5, [4]), (6, [0, 1, 7, 8]), (7, [4])], []⟩
theorem hk45 : comp Try.prog ha45 Try.f45.ntmps Try.f45.code = some hc45 := by kernel_rfl
def w45_46 (p1 : List (GSolve_Module)) (p2 : GSolve_Pick) (Q : Int × GSolve_Pick → Prop) : Prop :=
  ∃ (I10 : (List UInt8) → Int → Int → Prop) (M11 : (List UInt8) → Int → Int → Nat), I10 p2.Name p2.Version (0 : Int) ∧ ∀ (v3 : List UInt8) (v4 : Int) (v5 : Int), I10 v3 v4 v5 → ∀ v12 : Bool, v12 = decide (v5 < (p1.length : Int)) → ((v12 = true → (0 ≤ v5 ∧ v5 < (p1.length : Int)) ∧ ∀ a13 : GSolve_Module, p1[(v5 : Int).toNat]? = some a13 → ∃ r14 : Bool × GSolve_Pick, sp46 a13 (GSolve_Pick.mk v3 v4) r14 ∧ ((r14.1 = true → Q (v5, (GSolve_Pick.mk r14.2.Name r14.2.Version))) ∧ (r14.1 = false → (R64 (v5 + (1 : Int))) ∧ ∀ v15 : Int, v15 = v5 + (1 : Int) → (I10 r14.2.Name r14.2.Version v15 ∧ M11 r14.2.Name r14.2.Version v15 < M11 v3 v4 v5)))) ∧ (v12 = false → Q ((-1 : Int), (GSolve_Pick.mk v3 v4))))
theorem ok45_46 (p1 : List (GSolve_Module)) (p2 : GSolve_Pick) (r : Int × GSolve_Pick) (hw : w45_46 p1 p2 fun r' => r' = r) : sp45_46 p1 p2 r := by
  refine zh (rs := [.t 4]) Try.func45 hk45 ?_
  unfold w45_46 at hw
  show SC Try.prog Try.f45.ntmps 1 hc45 _ [(0, ln eGSolve_Module p1), (1, .func 46 [.ptr 0 0])] [.cells [.str p2.Name, ii p2.Version]]
  unfold hc45
  refine q_reg (st_mv rfl (g_endq [(0, ln eGSolve_Module p1), (1, .func 46 [.ptr 0 0])] rfl ?_))
  refine sc_seq (q_reg (st_mv rfl (g_len rfl (st_mv rfl (g_endq [(0, ln eGSolve_Module p1), (1, .func 46 [.ptr 0 0]), (7, ii (p1.length : Int)), (8, ii 0)] rfl ?_)))))
  refine sc_block ?_
  obtain ⟨I10, M11, hi, hw⟩ := hw
  refine sc_loop (X := { x : List UInt8 × Int × Int // I10 x.1 x.2.1 x.2.2 }) (fun x => ([(0, ln eGSolve_Module p1), (1, .func 46 [.ptr 0 0]), (7, ii (p1.length : Int)), (8, ii x.1.2.2)], [.cells [.str x.1.1, ii x.1.2.1]])) (fun x => M11 x.1.1 x.1.2.1 x.1.2.2) ⟨(p2.Name, p2.Version, (0 : Int)), hi⟩ ws ?_
  rintro ⟨⟨v3, v4, v5⟩, hi2⟩
  have hw := hw v3 v4 v5 hi2
  clear hi
  refine q_reg (gb_cmp rfl rfl trivial rfl hw fun v12 hw => g_endq [(0, ln eGSolve_Module p1), (1, .func 46 [.ptr 0 0]), (7, ii (p1.length : Int)), (8, ii v5), (9, .bool v12)] rfl ?_)
  refine sc_seq (s_cond rfl hw (fun hw => ?_) (fun hw => ?_))
  · refine sc_skip (sq_n (sc_seq (sc_block (q_reg (st_mv rfl (st_mv rfl (g_endq [(0, ln eGSolve_Module p1), (1, .func 46 [.ptr 0 0]), (5, ii v5), (7, ii (p1.length : Int)), (8, ii v5)] rfl ?_)))))))
    refine q_reg (st_mv rfl (st_mv rfl (st_mv rfl (g_iaddr enc_GSolve_Module rfl rfl hw fun a13 hw => st_load_r (v := eGSolve_Module a13) rfl rfl (khv hh rfl (g2 := fun r14 : Bool × GSolve_Pick => .bool r14.1) (H2 := fun r14 : Bool × GSolve_Pick => [.cells [.str r14.2.Name, ii r14.2.Version]]) [0] [0] 1 0 (ec rfl en) hw fun r14 hw => g_endq [(0, ln eGSolve_Module p1), (1, .func 46 [.ptr 0 0]), (5, ii v5), (7, ii (p1.length : Int)), (8, ii v5), (16, .bool r14.1)] rfl ?_)))))
    refine s_cond rfl hw (fun hw => ?_) (fun hw => ?_)
    · refine q_reg (st_mv rfl (st_mv rfl (g_endq [(4, ii v5)] rfl ?_)))
      exact sc_ret (bl_r (sq_r (lo_r (bl_r (sq_r (gr1 (g := zg45_46) (ho := zo45_46) [ii v5] hw (.inr rfl) ws))))))
    · refine sc_skip (bl_n (sq_n (s_reg (g_add rfl rfl hw fun v15 hw => st_mv rfl (g_end [(0, ln eGSolve_Module p1), (1, .func 46 [.ptr 0 0]), (7, ii (p1.length : Int)), (8, ii v15)] rfl ?_)))))
      exact lo_n ⟨(r14.2.Name, r14.2.Version, v15), hw.1⟩ hw.2 ws
  · refine sc_exit (sq_x (lo_x (bl_x (sq_n (q_reg (st_mv rfl (g_endq [(4, ii (-1 : Int))] rfl ?_)))))))
    exact sc_ret (gr1 (g := zg45_46) (ho := zo45_46) [ii (-1 : Int)] hw (.inr rfl) ws)
end Go.Hw.VE

