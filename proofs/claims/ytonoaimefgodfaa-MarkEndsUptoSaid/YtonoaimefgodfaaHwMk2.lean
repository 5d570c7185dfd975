import Derived.Test.YtonoaimefgodfaaHwF2
import Derived.Test.YtonoaimefgodfaaHwNest
import Derived.Test.YtonoaimefgodfaaProg
set_option linter.unusedVariables false
set_option linter.unusedSimpArgs false
namespace Go.Hw.VK
open Go Go.Proofs
theorem _root_.Go.Proofs.Try.mixed : Try.prog.follows .mixedOrders = true := by kernel_rfl
structure GMark_Deed where
  Kind : Int
  From : Int
  To : Int
  N : Int
  deriving DecidableEq
def eGMark_Deed (a : GMark_Deed) : HV := .agg [ii a.Kind, ii a.From, ii a.To, ii a.N]
theorem enc_GMark_Deed : Enc eGMark_Deed 4 := ⟨fun a => (pvc (.int _ _) (pvc (.int _ _) (pvc (.int _ _) (pvc (.int _ _) pvn)))), fun _ => rfl, fun _ => rfl, fun _ => rfl⟩
instance : EncC eGMark_Deed 4 := ⟨enc_GMark_Deed⟩
instance (a : GMark_Deed) : PVi (eGMark_Deed a) := ⟨enc_GMark_Deed.all a⟩
instance (a : GMark_Deed) : PVl (eGMark_Deed a).cells := ⟨enc_GMark_Deed.pv a⟩
structure GMark_Shot where
  Done : Bool
  States : List (Int)
  Ways : List (List (List (Int)))
  Now : List (Int)
  Left : Int
  deriving DecidableEq
def eGMark_Shot (a : GMark_Shot) : HV := .agg [.bool a.Done, ln (eInt .i64) a.States, ln (eLst (eLst (eInt .i64))) a.Ways, ln (eInt .i64) a.Now, ii a.Left]
theorem enc_GMark_Shot : Enc eGMark_Shot 5 := ⟨fun a => (pvc (.bool _) (pvc (pv_lst (enc_int .i64) _ _ (by simp)) (pvc (pv_lst (enc_lst (enc_lst (enc_int .i64))) _ _ (by simp)) (pvc (pv_lst (enc_int .i64) _ _ (by simp)) (pvc (.int _ _) pvn))))), fun _ => rfl, fun _ => rfl, fun _ => rfl⟩
instance : EncC eGMark_Shot 5 := ⟨enc_GMark_Shot⟩
instance (a : GMark_Shot) : PVi (eGMark_Shot a) := ⟨enc_GMark_Shot.all a⟩
instance (a : GMark_Shot) : PVl (eGMark_Shot a).cells := ⟨enc_GMark_Shot.pv a⟩
@[reducible] def zg12 (r : Bool) : HV := .bool r
abbrev sp12 (p18 : List (Int)) (p19 : List (GMark_Deed)) (r : Bool) : Prop := PCall Try.prog 12 [ln (eInt .i64) p18, ln eGMark_Deed p19] (zg12 r)
@[reducible] def zg17 (r : Int) : HV := ii r
abbrev sp17 (p23 : Int) (p24 : Int) (r : Int) : Prop := PCall Try.prog 17 [ii p23, ii p24] (zg17 r)
@[reducible] def zg24 (r : Bool) : HV := .bool r
abbrev sp24 (p25 : List (Int)) (p26 : List (Int)) (r : Bool) : Prop := PCall Try.prog 24 [ln (eInt .i64) p25, ln (eInt .i64) p26] (zg24 r)
@[reducible] def zg37m (r : List (Int) × List (GMark_Deed) × Int) : HV := .tuple [ln (eInt .i64) r.1, .arr 0 0 r.2.1.length 4, ii r.2.2]
@[reducible] def zo37m (r : List (Int) × List (GMark_Deed) × Int) : Heap := [GA eGMark_Deed r.2.1]
abbrev sp37m (p29 : List (Int)) (p30 : List (GMark_Deed)) (r : List (Int) × List (GMark_Deed) × Int) : Prop := MC Try.prog 37 [ln (eInt .i64) p29, ln eGMark_Deed p30] [] (zg37m r) (zo37m r)
@[reducible] def zg38 (r : GMark_Shot × Int) : HV := .tuple [eGMark_Shot r.1, ii r.2]
abbrev sp38 (p31 : List (Int)) (p32 : List (GMark_Deed)) (r : GMark_Shot × Int) : Prop := PCall Try.prog 38 [ln (eInt .i64) p31, ln eGMark_Deed p32] (zg38 r)
@[reducible] def zg39 (r : Bool) : HV := .bool r
abbrev sp39 (r : Bool) : Prop := PCall Try.prog 39 [] (zg39 r)
@[reducible] def zg46 (r : Bool) : HV := .bool r
abbrev sp46 (p39 : List (Int)) (p40 : Int) (r : Bool) : Prop := PCall Try.prog 46 [ln (eInt .i64) p39, ii p40] (zg46 r)
@[reducible] def zg47 (r : List (Int)) : HV := ln (eInt .i64) r
abbrev sp47 (p41 : List (Int)) (r : List (Int)) : Prop := PCall Try.prog 47 [ln (eInt .i64) p41] (zg47 r)
@[reducible] def zg48 (r : Int) : HV := ii r
abbrev sp48 (p42 : List (Int)) (p43 : Int) (r : Int) : Prop := PCall Try.prog 48 [ln (eInt .i64) p42, ii p43] (zg48 r)
@[reducible] def zg50 (r : Bool) : HV := .bool r
abbrev sp50 (p44 : List (Bool)) (p45 : Bool) (r : Bool) : Prop := PCall Try.prog 50 [ln eBool p44, .bool p45] (zg50 r)
@[reducible] def zg63 (r : Int) : HV := ii r
abbrev sp63 (p46 : List (Bool)) (p47 : Bool) (r : Int) : Prop := PCall Try.prog 63 [ln eBool p46, .bool p47] (zg63 r)
def hc12 : C := (.seq (.reg [oo 4 (.mv (.c (.bool false)))] [0, 1]) (.seq (.reg [mo 13 0, mo 14 1, co 15 (.call 37 [13, 14]), mo 12 15, oo 16 (.extract 12 0), oo 17 (.extract 12 1), oo 18 (.extract 12 2), mo 5 16, mo 6 17, mo 7 18] [5, 6]) (.seq (.reg [mo 19 6, mo 20 6, oo 21 (.len false 20), oo 22 (.min [21, (.c (.int .i64 10))]), oo 23 (.slice 4 19 none (some 22) none), oo 24 (.build [(.int .i64 0), (.int .i64 0), (.int .i64 0), (.int .i64 0)] [(0, 1, (.c (.int .i64 3)))]), oo 25 (.mklist 4 [24]), oo 26 (.appendarr 4 32 23 25), mo 6 26] [5, 6]) (.seq (.seq (.reg [oo 27 (.mv (.c (.int .i64 0)))] [5, 6, 27]) (.block 0 (.loop (.seq (.reg [oo 28 (.bin .lss 27 (.c (.int .i64 4)))] [5, 6, 27, 28]) (.seq (.cond 28 .skip (.exit 0)) (.seq (.block 1 (.seq (.reg [mo 29 5, oo 30 (.len false 29), oo 31 (.mv (.c (.int .i64 0)))] [5, 6, 27, 30, 31]) (.block 2 (.loop (.seq (.reg [oo 32 (.bin .lss 31 30)] [5, 6, 27, 30, 31, 32]) (.seq (.cond 32 .skip (.exit 2)) (.seq (.block 3 (.seq (.reg [mo 33 31, mo 8 33] [5, 6, 8, 27, 30, 31]) (.seq (.reg [mo 34 5, oo 35 (.len false 34), oo 36 (.mv (.c (.int .i64 0)))] [5, 6, 8, 27, 30, 31, 35, 36]) (.block 4 (.loop (.seq (.reg [oo 37 (.bin .lss 36 35)] [5, 6, 8, 27, 30, 31, 35, 36, 37]) (.seq (.cond 37 .skip (.exit 4)) (.seq (.block 5 (.seq (.reg [mo 38 36, mo 9 38] [5, 6, 8, 9, 27, 30, 31, 35, 36]) (.seq (.reg [mo 39 8, mo 40 9, oo 41 (.eqv true .int 39 40)] [5, 6, 8, 9, 27, 30, 31, 35, 36, 41]) (.cond 41 (.seq (.reg [oo 42 (.mv (.c (.int .i64 0)))] [5, 6, 8, 9, 27, 30, 31, 35, 36, 42]) (.block 6 (.loop (.seq (.reg [oo 43 (.bin .lss 42 (.c (.int .i64 4)))] [5, 6, 8, 9, 27, 30, 31, 35, 36, 42, 43]) (.seq (.cond 43 .skip (.exit 6)) (.seq (.block 7 (.reg [mo 44 6, mo 45 8, mo 46 9, oo 47 (.build [(.int .i64 0), (.int .i64 0), (.int .i64 0), (.int .i64 0)] [(0, 1, (.c (.int .i64 2))), (1, 1, 45), (2, 1, 46)]), oo 48 (.mklist 4 [47]), oo 49 (.appendarr 4 32 44 48), mo 6 49] [5, 6, 8, 9, 27, 30, 31, 35, 36, 42])) (.reg [oo 50 (.bin .add 42 (.c (.int .i64 1))), mo 42 50] [5, 6, 8, 9, 27, 30, 31, 35, 36, 42]))))))) .skip)))) (.reg [oo 51 (.bin .add 36 (.c (.int .i64 1))), mo 36 51] [5, 6, 8, 27, 30, 31, 35, 36]))))))))) (.reg [oo 52 (.bin .add 31 (.c (.int .i64 1))), mo 31 52] [5, 6, 27, 30, 31])))))))) (.reg [oo 53 (.bin .add 27 (.c (.int .i64 1))), mo 27 53] [5, 6, 27]))))))) (.seq (.reg [mo 55 5, mo 56 6, co 57 (.call 38 [55, 56]), mo 54 57, oo 58 (.extract 54 0), oo 59 (.extract 54 1), oo 10 (.alloc none [(.bool false), (.list [] .full), (.list [] .full), (.list [] .full), (.int .i64 0)]), os (.store 5 10 58), mo 11 59] [10, 11]) (.seq (.reg [co 60 (.call 39 []), mo 61 60, og 62 (.mv 11) 61 true, og 63 (.eqv false .int 62 (.c (.int .i64 0))) 61 true, oo 64 (.pick 61 63 (.c (.bool false))), mo 65 64, og 66 (.faddr 0 1 10) 65 true, og 67 (.load none 66) 65 true, oo 68 (.pick 65 67 (.c (.bool false))), mo 69 68, og 70 (.faddr 4 1 10) 69 true, og 71 (.load none 70) 69 true, og 72 (.eqv false .int 71 (.c (.int .i64 0))) 69 true, oo 73 (.pick 69 72 (.c (.bool false))), mo 4 73] [4]) .ret))))))
def ha12 : Ann := ⟨[(2, 7), (14, 5)], [], [(0, [0, 1]), (1, [5, 6]), (2, [5, 6]), (3, [5, 6, 27]), (4, [5, 6, 27, 28]), (5, [5, 6, 27, 30, 31]), (6, [5, 6, 27, 30, 31, 32]), (7, [5, 6, 8, 27, 30, 31]), (8, [5, 6, 8, 27, 30, 31, 35, 36]), (9, [5, 6, 8, 27, 30, 31, 35, 36, 37]), (10, [5, 6, 8, 9, 27, 30, 31, 35, 36]), (11, [5, 6, 8, 9, 27, 30, 31, 35, 36, 41]), (12, [5, 6, 8, 9, 27, 30, 31, 35, 36, 42]), (13, [5, 6, 8, 9, 27, 30, 31, 35, 36, 42, 43]), (14, [5, 6, 8, 9, 27, 30, 31, 35, 36, 42]), (15, [5, 6, 8, 9, 27, 30, 31, 35, 36, 42]), (16, [5, 6, 8, 27, 30, 31, 35, 36]), (17, [5, 6, 27, 30, 31]), (18, [5, 6, 27]), (19, [10, 11]), (20, [4])], []⟩
theorem hk12 : comp Try.prog ha12 Try.f12.ntmps Try.f12.code = some hc12 := by kernel_rfl
def w12 (p1 : List (Int)) (p2 : List (GMark_Deed)) (Q : Bool → Prop) : Prop :=
  ∃ r3 : List (Int) × List (GMark_Deed) × Int, sp37m p1 p2 r3 ∧ ∀ v4 : Int, v4 = min (r3.2.1.length : Int) (10 : Int) → ((0 ≤ v4 ∧ v4 ≤ (r3.2.1.length : Int)) ∧ v4.toNat ≤ r3.2.1.length ∧ ((v4.toNat + ([(GMark_Deed.mk (3 : Int) (0 : Int) (0 : Int) (0 : Int))] : List GMark_Deed).length) * 32 ≤ 140737488355328) ∧ ∀ v5 : List GMark_Deed, v5 = r3.2.1.take v4.toNat ++ ([(GMark_Deed.mk (3 : Int) (0 : Int) (0 : Int) (0 : Int))] : List GMark_Deed) → ∃ (I78 : (List GMark_Deed) → Int → Prop) (M79 : (List GMark_Deed) → Int → Nat), I78 v5 (0 : Int) ∧ ∀ (v6 : List GMark_Deed) (v7 : Int), I78 v6 v7 → ∀ v80 : Bool, v80 = decide (v7 < (4 : Int)) → ((v80 = true → ∃ (I115 : (List GMark_Deed) → Int → Prop) (M116 : (List GMark_Deed) → Int → Nat), I115 v6 (0 : Int) ∧ ∀ (v81 : List GMark_Deed) (v82 : Int), I115 v81 v82 → ∀ v117 : Bool, v117 = decide (v82 < (r3.1.length : Int)) → ((v117 = true → ∃ (I133 : (List GMark_Deed) → Int → Prop) (M134 : (List GMark_Deed) → Int → Nat), I133 v81 (0 : Int) ∧ ∀ (v118 : List GMark_Deed) (v119 : Int), I133 v118 v119 → ∀ v135 : Bool, v135 = decide (v119 < (r3.1.length : Int)) → ((v135 = true → ((v82 ≠ v119 → ∃ (I141 : (List GMark_Deed) → Int → Prop) (M142 : (List GMark_Deed) → Int → Nat), I141 v118 (0 : Int) ∧ ∀ (v136 : List GMark_Deed) (v137 : Int), I141 v136 v137 → ∀ v143 : Bool, v143 = decide (v137 < (4 : Int)) → ((v143 = true → ((v136.length + ([(GMark_Deed.mk (2 : Int) v82 v119 (0 : Int))] : List GMark_Deed).length) * 32 ≤ 140737488355328) ∧ ∀ v144 : List GMark_Deed, v144 = v136 ++ ([(GMark_Deed.mk (2 : Int) v82 v119 (0 : Int))] : List GMark_Deed) → (R64 (v137 + (1 : Int))) ∧ ∀ v145 : Int, v145 = v137 + (1 : Int) → (I141 v144 v145 ∧ M142 v144 v145 < M142 v136 v137)) ∧ (v143 = false → (R64 (v119 + (1 : Int))) ∧ ∀ v146 : Int, v146 = v119 + (1 : Int) → (I133 v136 v146 ∧ M134 v136 v146 < M134 v118 v119)))) ∧ (v82 = v119 → (R64 (v119 + (1 : Int))) ∧ ∀ v147 : Int, v147 = v119 + (1 : Int) → (I133 v118 v147 ∧ M134 v118 v147 < M134 v118 v119)))) ∧ (v135 = false → (R64 (v82 + (1 : Int))) ∧ ∀ v148 : Int, v148 = v82 + (1 : Int) → (I115 v118 v148 ∧ M116 v118 v148 < M116 v81 v82)))) ∧ (v117 = false → (R64 (v7 + (1 : Int))) ∧ ∀ v149 : Int, v149 = v7 + (1 : Int) → (I78 v81 v149 ∧ M79 v81 v149 < M79 v6 v7)))) ∧ (v80 = false → ∃ r150 : GMark_Shot × Int, sp38 r3.1 v6 r150 ∧ ∃ r151 : Bool, sp39 r151 ∧ ((r151 = true → ((r150.2 = (0 : Int) → ((r150.1.Done = true → ∀ v152 : Bool, v152 = (if false then !(r150.1.Left == (0 : Int)) else (r150.1.Left == (0 : Int))) → Q v152) ∧ (r150.1.Done = false → Q false))) ∧ (r150.2 ≠ (0 : Int) → Q false))) ∧ (r151 = false → Q false)))))
theorem ok12 (p1 : List (Int)) (p2 : List (GMark_Deed)) (r : Bool) (hw : w12 p1 p2 fun r' => r' = r) : sp12 p1 p2 r := by
  refine zf (rs := [.t 4]) (g := zg12) Try.func12 hk12 ?_
  unfold w12 at hw
  show SC Try.prog Try.f12.ntmps 0 hc12 _ [(0, ln (eInt .i64) p1), (1, ln eGMark_Deed p2)] []
  unfold hc12
  refine q_reg (st_mv rfl (g_endq [(0, ln (eInt .i64) p1), (1, ln eGMark_Deed p2)] rfl ?_))
  refine q_reg (st_mv rfl (st_mv rfl (kh (hback := fun _ => (ou_arr enc_GMark_Deed (fun a => (lfc rfl (lfc rfl (lfc rfl (lfc rfl lfn))))) rfl ou_nil)) (hres := fun _ => (ren_tup (rf_cons (.pv _ (pv_lst (enc_int .i64) _ _ (by simp))) (rf_cons (rn_arr rfl) (rf_cons (.pv _ (.int _ _)) rf_nil))))) hh (g2 := fun r3 : List (Int) × List (GMark_Deed) × Int => .tuple [ln (eInt .i64) r3.1, .arr 0 0 r3.2.1.length 4, ii r3.2.2]) (H2 := fun r3 : List (Int) × List (GMark_Deed) × Int => [GA eGMark_Deed r3.2.1]) [] [0] 0 1 (ec rfl (ec rfl en)) hw fun r3 hw => st_mv rfl (st_extract rfl rfl (st_extract rfl rfl (st_extract rfl rfl (st_mv rfl (st_mv rfl (st_mv rfl (g_endq [(5, ln (eInt .i64) r3.1), (6, .arr 0 0 r3.2.1.length 4)] rfl ?_))))))))))
  refine q_reg (st_mv rfl (st_mv rfl (g_lenA rfl (g_min rfl rfl hw fun v4 hw => g_slA rfl rfl hw fun hw => g_build (cs := [ii 3, ii 0, ii 0, ii 0]) (ep_cons rfl ep_nil) rfl (g_mkl enc_GMark_Deed [(GMark_Deed.mk (3 : Int) (0 : Int) (0 : Int) (0 : Int))] (ec rfl en) rfl (mz mkn) (g_apB (n := 1) enc_GMark_Deed rfl rfl rfl (asrc_list enc_GMark_Deed) rfl hw (fun z => [.dead, GA eGMark_Deed z]) (fun _ => rfl) fun v5 hw => st_mv rfl (g_endq [(5, ln (eInt .i64) r3.1), (6, .arr 1 0 v5.length 4)] rfl ?_)))))))
  refine sc_seq (q_reg (st_mv rfl (g_endq [(5, ln (eInt .i64) r3.1), (6, .arr 1 0 v5.length 4), (27, ii 0)] rfl ?_)))
  refine sc_block ?_
  obtain ⟨I78, M79, hi, hw⟩ := hw
  refine sc_loop (X := { x : List GMark_Deed × Int // I78 x.1 x.2 }) (fun x => ([(5, ln (eInt .i64) r3.1), (6, .arr 0 0 x.1.1.length 4), (27, ii x.1.2)], [GA eGMark_Deed x.1.1])) (fun x => M79 x.1.1 x.1.2) ⟨(v5, (0 : Int)), hi⟩ (weak_ren [1] (by simp) (by decide) (ro_arr enc_GMark_Deed (fun a => (lfc rfl (lfc rfl (lfc rfl (lfc rfl lfn))))) rfl ro_nil) (re_cons rfl (.pv _ (pv_lst (enc_int .i64) _ _ (by simp))) (re_cons rfl (rn_arr rfl) (re_cons rfl (.pv _ (.int _ _)) re_nil)))) ?_
  rintro ⟨⟨v6, v7⟩, hi2⟩
  have hw := hw v6 v7 hi2
  clear hi
  refine q_reg (gb_cmp rfl rfl trivial rfl hw fun v80 hw => g_endq [(5, ln (eInt .i64) r3.1), (6, .arr 0 0 v6.length 4), (27, ii v7), (28, .bool v80)] rfl ?_)
  refine sc_seq (s_cond rfl hw (fun hw => ?_) (fun hw => ?_))
  · refine sc_skip (sq_n (sc_seq (sc_block (q_reg (st_mv rfl (g_len rfl (st_mv rfl (g_endq [(5, ln (eInt .i64) r3.1), (6, .arr 0 0 v6.length 4), (27, ii v7), (30, ii (r3.1.length : Int)), (31, ii 0)] rfl ?_))))))))
    refine sc_block ?_
    obtain ⟨I115, M116, hi, hw⟩ := hw
    refine sc_loop (X := { x : List GMark_Deed × Int // I115 x.1 x.2 }) (fun x => ([(5, ln (eInt .i64) r3.1), (6, .arr 0 0 x.1.1.length 4), (27, ii v7), (30, ii (r3.1.length : Int)), (31, ii x.1.2)], [GA eGMark_Deed x.1.1])) (fun x => M116 x.1.1 x.1.2) ⟨(v6, (0 : Int)), hi⟩ ws ?_
    rintro ⟨⟨v81, v82⟩, hi2⟩
    have hw := hw v81 v82 hi2
    clear hi
    refine q_reg (gb_cmp rfl rfl trivial rfl hw fun v117 hw => g_endq [(5, ln (eInt .i64) r3.1), (6, .arr 0 0 v81.length 4), (27, ii v7), (30, ii (r3.1.length : Int)), (31, ii v82), (32, .bool v117)] rfl ?_)
    refine sc_seq (s_cond rfl hw (fun hw => ?_) (fun hw => ?_))
    · refine sc_skip (sq_n (sc_seq (sc_block (q_reg (st_mv rfl (st_mv rfl (g_endq [(5, ln (eInt .i64) r3.1), (6, .arr 0 0 v81.length 4), (8, ii v82), (27, ii v7), (30, ii (r3.1.length : Int)), (31, ii v82)] rfl ?_)))))))
      refine q_reg (st_mv rfl (g_len rfl (st_mv rfl (g_endq [(5, ln (eInt .i64) r3.1), (6, .arr 0 0 v81.length 4), (8, ii v82), (27, ii v7), (30, ii (r3.1.length : Int)), (31, ii v82), (35, ii (r3.1.length : Int)), (36, ii 0)] rfl ?_))))
      refine sc_block ?_
      obtain ⟨I133, M134, hi, hw⟩ := hw
      refine sc_loop (X := { x : List GMark_Deed × Int // I133 x.1 x.2 }) (fun x => ([(5, ln (eInt .i64) r3.1), (6, .arr 0 0 x.1.1.length 4), (8, ii v82), (27, ii v7), (30, ii (r3.1.length : Int)), (31, ii v82), (35, ii (r3.1.length : Int)), (36, ii x.1.2)], [GA eGMark_Deed x.1.1])) (fun x => M134 x.1.1 x.1.2) ⟨(v81, (0 : Int)), hi⟩ ws ?_
      rintro ⟨⟨v118, v119⟩, hi2⟩
      have hw := hw v118 v119 hi2
      clear hi
      refine q_reg (gb_cmp rfl rfl trivial rfl hw fun v135 hw => g_endq [(5, ln (eInt .i64) r3.1), (6, .arr 0 0 v118.length 4), (8, ii v82), (27, ii v7), (30, ii (r3.1.length : Int)), (31, ii v82), (35, ii (r3.1.length : Int)), (36, ii v119), (37, .bool v135)] rfl ?_)
      refine sc_seq (s_cond rfl hw (fun hw => ?_) (fun hw => ?_))
      · refine sc_skip (sq_n (sc_seq (sc_block (q_reg (st_mv rfl (st_mv rfl (g_endq [(5, ln (eInt .i64) r3.1), (6, .arr 0 0 v118.length 4), (8, ii v82), (9, ii v119), (27, ii v7), (30, ii (r3.1.length : Int)), (31, ii v82), (35, ii (r3.1.length : Int)), (36, ii v119)] rfl ?_)))))))
        refine q_reg (st_mv rfl (st_mv rfl (g_nei rfl rfl hw (fun hw => g_endq [(5, ln (eInt .i64) r3.1), (6, .arr 0 0 v118.length 4), (8, ii v82), (9, ii v119), (27, ii v7), (30, ii (r3.1.length : Int)), (31, ii v82), (35, ii (r3.1.length : Int)), (36, ii v119), (41, .bool true)] rfl ?_) (fun hw => g_endq [(5, ln (eInt .i64) r3.1), (6, .arr 0 0 v118.length 4), (8, ii v82), (9, ii v119), (27, ii v7), (30, ii (r3.1.length : Int)), (31, ii v82), (35, ii (r3.1.length : Int)), (36, ii v119), (41, .bool false)] rfl ?_))))
        · refine s_cond_t rfl (q_reg (st_mv rfl (g_endq [(5, ln (eInt .i64) r3.1), (6, .arr 0 0 v118.length 4), (8, ii v82), (9, ii v119), (27, ii v7), (30, ii (r3.1.length : Int)), (31, ii v82), (35, ii (r3.1.length : Int)), (36, ii v119), (42, ii 0)] rfl ?_)))
          refine sc_block ?_
          obtain ⟨I141, M142, hi, hw⟩ := hw
          refine sc_loop (X := { x : List GMark_Deed × Int // I141 x.1 x.2 }) (fun x => ([(5, ln (eInt .i64) r3.1), (6, .arr 0 0 x.1.1.length 4), (8, ii v82), (9, ii v119), (27, ii v7), (30, ii (r3.1.length : Int)), (31, ii v82), (35, ii (r3.1.length : Int)), (36, ii v119), (42, ii x.1.2)], [GA eGMark_Deed x.1.1])) (fun x => M142 x.1.1 x.1.2) ⟨(v118, (0 : Int)), hi⟩ ws ?_
          rintro ⟨⟨v136, v137⟩, hi2⟩
          have hw := hw v136 v137 hi2
          clear hi
          refine q_reg (gb_cmp rfl rfl trivial rfl hw fun v143 hw => g_endq [(5, ln (eInt .i64) r3.1), (6, .arr 0 0 v136.length 4), (8, ii v82), (9, ii v119), (27, ii v7), (30, ii (r3.1.length : Int)), (31, ii v82), (35, ii (r3.1.length : Int)), (36, ii v119), (42, ii v137), (43, .bool v143)] rfl ?_)
          refine sc_seq (s_cond rfl hw (fun hw => ?_) (fun hw => ?_))
          · refine sc_skip (sq_n (sc_seq (sc_block (s_reg (st_mv rfl (st_mv rfl (st_mv rfl (g_build (cs := [ii 2, ii v82, ii v119, ii 0]) (ep_cons rfl (ep_cons rfl (ep_cons rfl ep_nil))) rfl (g_mkl enc_GMark_Deed [(GMark_Deed.mk (2 : Int) v82 v119 (0 : Int))] (ec rfl en) rfl (mz mkn) (g_apW (n := 1) enc_GMark_Deed rfl rfl rfl rfl (asrc_list enc_GMark_Deed) rfl hw (fun z => [.dead, GA eGMark_Deed z]) (fun _ => rfl) fun v144 hw => st_mv rfl (g_end [(5, ln (eInt .i64) r3.1), (6, .arr 1 0 v144.length 4), (8, ii v82), (9, ii v119), (27, ii v7), (30, ii (r3.1.length : Int)), (31, ii v82), (35, ii (r3.1.length : Int)), (36, ii v119), (42, ii v137)] rfl ?_)))))))))))
            refine bl_n (sq_n (s_reg (g_add rfl rfl hw fun v145 hw => st_mv rfl (g_end [(5, ln (eInt .i64) r3.1), (6, .arr 1 0 v144.length 4), (8, ii v82), (9, ii v119), (27, ii v7), (30, ii (r3.1.length : Int)), (31, ii v82), (35, ii (r3.1.length : Int)), (36, ii v119), (42, ii v145)] rfl ?_))))
            exact lo_n ⟨(v144, v145), hw.1⟩ hw.2 (weak_ren [1] (by simp) (by decide) (ro_arr enc_GMark_Deed (fun a => (lfc rfl (lfc rfl (lfc rfl (lfc rfl lfn))))) rfl ro_nil) (re_cons rfl (.pv _ (pv_lst (enc_int .i64) _ _ (by simp))) (re_cons rfl (rn_arr rfl) (re_cons rfl (.pv _ (.int _ _)) (re_cons rfl (.pv _ (.int _ _)) (re_cons rfl (.pv _ (.int _ _)) (re_cons rfl (.pv _ (.int _ _)) (re_cons rfl (.pv _ (.int _ _)) (re_cons rfl (.pv _ (.int _ _)) (re_cons rfl (.pv _ (.int _ _)) (re_cons rfl (.pv _ (.int _ _)) re_nil)))))))))))
          · refine sc_exit (sq_x (lo_x (bl_x (bl_n (sq_n (s_reg (g_add rfl rfl hw fun v146 hw => st_mv rfl (g_end [(5, ln (eInt .i64) r3.1), (6, .arr 0 0 v136.length 4), (8, ii v82), (27, ii v7), (30, ii (r3.1.length : Int)), (31, ii v82), (35, ii (r3.1.length : Int)), (36, ii v146)] rfl ?_))))))))
            exact lo_n ⟨(v136, v146), hw.1⟩ hw.2 ws
        · refine s_cond_f rfl (sc_skip (bl_n (sq_n (s_reg (g_add rfl rfl hw fun v147 hw => st_mv rfl (g_end [(5, ln (eInt .i64) r3.1), (6, .arr 0 0 v118.length 4), (8, ii v82), (27, ii v7), (30, ii (r3.1.length : Int)), (31, ii v82), (35, ii (r3.1.length : Int)), (36, ii v147)] rfl ?_))))))
          exact lo_n ⟨(v118, v147), hw.1⟩ hw.2 ws
      · refine sc_exit (sq_x (lo_x (bl_x (bl_n (sq_n (s_reg (g_add rfl rfl hw fun v148 hw => st_mv rfl (g_end [(5, ln (eInt .i64) r3.1), (6, .arr 0 0 v118.length 4), (27, ii v7), (30, ii (r3.1.length : Int)), (31, ii v148)] rfl ?_))))))))
        exact lo_n ⟨(v118, v148), hw.1⟩ hw.2 ws
    · refine sc_exit (sq_x (lo_x (bl_x (bl_n (sq_n (s_reg (g_add rfl rfl hw fun v149 hw => st_mv rfl (g_end [(5, ln (eInt .i64) r3.1), (6, .arr 0 0 v81.length 4), (27, ii v149)] rfl ?_))))))))
      exact lo_n ⟨(v81, v149), hw.1⟩ hw.2 ws
  · refine sc_exit (sq_x (lo_x (bl_x (sq_n (SC.weak (w_freeze (l := v6) (h' := [.dead]) 6 enc_GMark_Deed rfl rfl rfl rfl) ?_)))))
    refine q_reg (st_mv rfl (st_mv rfl (k_call dh (ec rfl (ec rfl en)) rfl hw fun r150 hw => st_mv rfl (st_extract rfl rfl (st_extract rfl rfl (g_alloc (n := 1) rfl rfl (g_sp (v := eGMark_Shot r150.1) (h' := [.dead, .cells (HV.cells (eGMark_Shot r150.1))]) rfl rfl rfl (st_mv rfl (g_endq [(10, .ptr 1 0), (11, ii r150.2)] rfl ?_)))))))))
    refine q_reg (k_call dh en rfl hw fun r151 hw => st_mv rfl (g_split rfl hw ?_ ?_))
    · intro c hw
      rw [c]
      refine st_g rfl (st_mv rfl (st_g rfl (g_eqi rfl rfl hw (fun hw => st_pick_t rfl rfl rfl (st_mv rfl (st_g rfl (g_faddr_p rfl (st_g rfl (g_load_p rfl rfl rfl (st_pick_t rfl rfl rfl (st_mv rfl (g_split rfl hw ?_ ?_))))))))) (fun hw => st_pick_t rfl rfl rfl (st_mv rfl (st_gft rfl (st_gft rfl (st_pick_f rfl rfl rfl (st_mv rfl (st_gft rfl (st_gft rfl (st_gft rfl (st_pick_f rfl rfl rfl (st_mv rfl (g_endq [(4, .bool false)] rfl ?_)))))))))))))))
      · intro c hw
        rw [c]
        refine st_g rfl (g_faddr_p rfl (st_g rfl (g_load_p rfl rfl rfl (st_g rfl (gb_eqi rfl rfl hw fun v152 hw => st_pick_t rfl rfl rfl (st_mv rfl (g_endq [(4, .bool v152)] rfl ?_)))))))
        exact sc_ret (gr1 (g := zg12) (ho := fun _ => []) [.bool v152] hw (.inr rfl) (wr []))
      · intro c hw
        rw [c]
        refine st_gft rfl (st_gft rfl (st_gft rfl (st_pick_f rfl rfl rfl (st_mv rfl (g_endq [(4, .bool false)] rfl ?_)))))
        exact sc_ret (gr1 (g := zg12) (ho := fun _ => []) [.bool false] hw (.inr rfl) (wr []))
      · exact sc_ret (gr1 (g := zg12) (ho := fun _ => []) [.bool false] hw (.inr rfl) (wr []))
    · intro c hw
      rw [c]
      refine st_gft rfl (st_gft rfl (st_pick_f rfl rfl rfl (st_mv rfl (st_gft rfl (st_gft rfl (st_pick_f rfl rfl rfl (st_mv rfl (st_gft rfl (st_gft rfl (st_gft rfl (st_pick_f rfl rfl rfl (st_mv rfl (g_endq [(4, .bool false)] rfl ?_)))))))))))))
      exact sc_ret (gr1 (g := zg12) (ho := fun _ => []) [.bool false] hw (.inr rfl) (wr []))
def hc17 : C := (.seq (.reg [oo 4 (.mv (.c (.int .i64 0)))] [0, 1]) (.seq (.seq (.reg [mo 5 0, oo 6 (.bin .lss 5 (.c (.int .i64 0)))] [0, 1, 6]) (.cond 6 (.reg [mo 7 0, oo 8 (.bin .add 7 (.c (.int .i64 1))), oo 9 (.un .neg 8), mo 0 9] [0, 1]) .skip)) (.seq (.reg [mo 10 0, mo 11 1, oo 12 (.bin .rem 10 11), mo 4 12] [4]) .ret)))
def ha17 : Ann := ⟨[], [], [(0, [0, 1]), (1, [0, 1, 6]), (2, [0, 1]), (3, [4])], []⟩
theorem hk17 : comp Try.prog ha17 Try.f17.ntmps Try.f17.code = some hc17 := by kernel_rfl
def w17 (p1 : Int) (p2 : Int) (Q : Int → Prop) : Prop :=
  ∃ J4 : Int → Prop, (((p1 < (0 : Int) → (R64 (p1 + (1 : Int))) ∧ ∀ v5 : Int, v5 = p1 + (1 : Int) → (-9223372036854775807 ≤ v5 ∧ v5 ≤ 9223372036854775807) ∧ ∀ v6 : Int, v6 = -(v5) → J4 v6) ∧ ((0 : Int) ≤ p1 → J4 p1))) ∧ ∀ (v3 : Int), J4 v3 → (p2 ≠ 0) ∧ ∀ v7 : Int, v7 = (v3).tmod p2 → Q v7
theorem ok17 (p1 : Int) (p2 : Int) (r : Int) (hw : w17 p1 p2 fun r' => r' = r) : sp17 p1 p2 r := by
  refine zf (rs := [.t 4]) (g := zg17) Try.func17 hk17 ?_
  unfold w17 at hw
  show SC Try.prog Try.f17.ntmps 0 hc17 _ [(0, ii p1), (1, ii p2)] []
  unfold hc17
  refine q_reg (st_mv rfl (g_endq [(0, ii p1), (1, ii p2)] rfl ?_))
  obtain ⟨J4, hw, hk⟩ := hw
  refine sc_join (A := Int) (fun x => J4 x) (fun x => ([(0, ii x), (1, ii p2)], [])) ?_ ?_
  · rintro v3 hj
    have hw := hk v3 hj
    clear hk hj
    refine q_reg (st_mv rfl (st_mv rfl (g_rem rfl rfl hw fun v7 hw => st_mv rfl (g_endq [(4, ii v7)] rfl ?_))))
    exact sc_ret (gr1 (g := zg17) (ho := fun _ => []) [ii v7] hw (.inr rfl) ws)
  · clear hk
    refine q_reg (st_mv rfl (g_lss rfl rfl hw (fun hw => g_endq [(0, ii p1), (1, ii p2), (6, .bool true)] rfl ?_) (fun hw => g_endq [(0, ii p1), (1, ii p2), (6, .bool false)] rfl ?_)))
    · refine s_cond_t rfl (s_reg (st_mv rfl (g_add rfl rfl hw fun v5 hw => g_neg rfl hw fun v6 hw => st_mv rfl (g_end [(0, ii v6), (1, ii p2)] rfl ?_))))
      exact jo_n v6 hw ws
    · exact s_cond_f rfl (sc_skip (jo_n p1 hw ws))
def hc24 : C := (.seq (.reg [oo 4 (.mv (.c (.bool false)))] [0, 1]) (.seq (.seq (.reg [mo 6 0, oo 7 (.len false 6), mo 8 1, oo 9 (.len false 8), oo 10 (.eqv true .int 7 9)] [0, 1, 10]) (.cond 10 (.seq (.reg [oo 4 (.mv (.c (.bool false)))] [4]) .ret) .skip)) (.seq (.seq (.reg [mo 11 0, oo 12 (.len false 11), oo 13 (.mv (.c (.int .i64 0)))] [0, 1, 12, 13]) (.block 0 (.loop (.seq (.reg [oo 14 (.bin .lss 13 12)] [0, 1, 12, 13, 14]) (.seq (.cond 14 .skip (.exit 0)) (.seq (.block 1 (.seq (.reg [mo 15 13, mo 5 15] [0, 1, 5, 12, 13]) (.seq (.dreg [mo 16 0, mo 17 5, oo 18 (.iaddr 1 16 17), oo 19 (.load none 18), mo 20 1, mo 21 5, oo 22 (.iaddr 1 20 21), oo 23 (.load none 22), oo 24 (.eqv true .int 19 23)] [] 0 [0, 1, 12, 13, 24]) (.cond 24 (.seq (.reg [oo 4 (.mv (.c (.bool false)))] [4]) .ret) .skip)))) (.reg [oo 25 (.bin .add 13 (.c (.int .i64 1))), mo 13 25] [0, 1, 12, 13]))))))) (.seq (.reg [oo 4 (.mv (.c (.bool true)))] [4]) .ret))))
def ha24 : Ann := ⟨[], [], [(0, [0, 1]), (1, [0, 1, 10]), (2, [4]), (3, [0, 1, 12, 13]), (4, [0, 1, 12, 13, 14]), (5, [0, 1, 5, 12, 13]), (6, [0, 1, 12, 13, 24]), (7, [4]), (8, [0, 1, 12, 13]), (9, [4])], []⟩
theorem hk24 : comp Try.prog ha24 Try.f24.ntmps Try.f24.code = some hc24 := by kernel_rfl
def w24 (p1 : List (Int)) (p2 : List (Int)) (Q : Bool → Prop) : Prop :=
  (((p1.length : Int) ≠ (p2.length : Int) → Q false) ∧ ((p1.length : Int) = (p2.length : Int) → ∃ (I8 : Int → Prop) (M9 : Int → Nat), I8 (0 : Int) ∧ ∀ (v3 : Int), I8 v3 → ∀ v10 : Bool, v10 = decide (v3 < (p1.length : Int)) → ((v10 = true → (0 ≤ v3 ∧ v3 < (p1.length : Int)) ∧ ∀ a11 : Int, p1[(v3 : Int).toNat]? = some a11 → (0 ≤ v3 ∧ v3 < (p2.length : Int)) ∧ ∀ a12 : Int, p2[(v3 : Int).toNat]? = some a12 → ((a11 ≠ a12 → Q false) ∧ (a11 = a12 → (R64 (v3 + (1 : Int))) ∧ ∀ v13 : Int, v13 = v3 + (1 : Int) → (I8 v13 ∧ M9 v13 < M9 v3)))) ∧ (v10 = false → Q true))))
theorem ok24 (p1 : List (Int)) (p2 : List (Int)) (r : Bool) (hw : w24 p1 p2 fun r' => r' = r) : sp24 p1 p2 r := by
  refine zf (rs := [.t 4]) (g := zg24) Try.func24 hk24 ?_
  unfold w24 at hw
  show SC Try.prog Try.f24.ntmps 0 hc24 _ [(0, ln (eInt .i64) p1), (1, ln (eInt .i64) p2)] []
  unfold hc24
  refine q_reg (st_mv rfl (g_endq [(0, ln (eInt .i64) p1), (1, ln (eInt .i64) p2)] rfl ?_))
  refine sc_seq (q_reg (st_mv rfl (g_len rfl (st_mv rfl (g_len rfl (g_nei rfl rfl hw (fun hw => g_endq [(0, ln (eInt .i64) p1), (1, ln (eInt .i64) p2), (10, .bool true)] rfl ?_) (fun hw => g_endq [(0, ln (eInt .i64) p1), (1, ln (eInt .i64) p2), (10, .bool false)] rfl ?_)))))))
  · refine s_cond_t rfl (q_reg (st_mv rfl (g_endq [(4, .bool false)] rfl ?_)))
    exact sc_ret (sq_r (gr1 (g := zg24) (ho := fun _ => []) [.bool false] hw (.inr rfl) ws))
  · refine s_cond_f rfl (sc_skip (sq_n (sc_seq (q_reg (st_mv rfl (g_len rfl (st_mv rfl (g_endq [(0, ln (eInt .i64) p1), (1, ln (eInt .i64) p2), (12, ii (p1.length : Int)), (13, ii 0)] rfl ?_))))))))
    refine sc_block ?_
    obtain ⟨I8, M9, hi, hw⟩ := hw
    refine sc_loop (X := { x : Int // I8 x }) (fun x => ([(0, ln (eInt .i64) p1), (1, ln (eInt .i64) p2), (12, ii (p1.length : Int)), (13, ii x.1)], [])) (fun x => M9 x.1) ⟨(0 : Int), hi⟩ ws ?_
    rintro ⟨v3, hi2⟩
    have hw := hw v3 hi2
    clear hi
    refine q_reg (gb_cmp rfl rfl trivial rfl hw fun v10 hw => g_endq [(0, ln (eInt .i64) p1), (1, ln (eInt .i64) p2), (12, ii (p1.length : Int)), (13, ii v3), (14, .bool v10)] rfl ?_)
    refine sc_seq (s_cond rfl hw (fun hw => ?_) (fun hw => ?_))
    · refine sc_skip (sq_n (sc_seq (sc_block (q_reg (st_mv rfl (st_mv rfl (g_endq [(0, ln (eInt .i64) p1), (1, ln (eInt .i64) p2), (5, ii v3), (12, ii (p1.length : Int)), (13, ii v3)] rfl ?_)))))))
      refine sc_seq (s_dreg Try.mixed rfl (st_mv rfl (st_mv rfl (g_iaddr (enc_int .i64) rfl rfl hw fun a11 hw => st_load_r rfl rfl (st_mv rfl (st_mv rfl (g_iaddr (enc_int .i64) rfl rfl hw fun a12 hw => st_load_r rfl rfl (g_nei rfl rfl hw (fun hw => st_mid (g_end [(0, ln (eInt .i64) p1), (1, ln (eInt .i64) p2), (12, ii (p1.length : Int)), (13, ii v3), (24, .bool true)] rfl ?_)) (fun hw => st_mid (g_end [(0, ln (eInt .i64) p1), (1, ln (eInt .i64) p2), (12, ii (p1.length : Int)), (13, ii v3), (24, .bool false)] rfl ?_))))))))))
      · refine sq_n (s_cond_t rfl (q_reg (st_mv rfl (g_endq [(4, .bool false)] rfl ?_))))
        exact sc_ret (bl_r (sq_r (lo_r (bl_r (sq_r (gr1 (g := zg24) (ho := fun _ => []) [.bool false] hw (.inr rfl) ws))))))
      · refine sq_n (s_cond_f rfl (sc_skip (bl_n (sq_n (s_reg (g_add rfl rfl hw fun v13 hw => st_mv rfl (g_end [(0, ln (eInt .i64) p1), (1, ln (eInt .i64) p2), (12, ii (p1.length : Int)), (13, ii v13)] rfl ?_)))))))
        exact lo_n ⟨v13, hw.1⟩ hw.2 ws
    · refine sc_exit (sq_x (lo_x (bl_x (sq_n (q_reg (st_mv rfl (g_endq [(4, .bool true)] rfl ?_)))))))
      exact sc_ret (gr1 (g := zg24) (ho := fun _ => []) [.bool true] hw (.inr rfl) ws)
def w37 (p1 : List (Int)) (p2 : List (GMark_Deed)) (Q : List (Int) × List (GMark_Deed) × Int → Prop) : Prop :=
  ∃ (I14 : (List Int) → Int → Int → Prop) (M15 : (List Int) → Int → Int → Nat), I14 ([(10 : Int)] : List Int) (10 : Int) (0 : Int) ∧ ∀ (v3 : List Int) (v4 : Int) (v5 : Int), I14 v3 v4 v5 → ∀ v16 : Bool, v16 = decide (v5 < (p1.length : Int)) → ((v16 = true → (0 ≤ v5 ∧ v5 < (p1.length : Int)) ∧ ∀ a17 : Int, p1[(v5 : Int).toNat]? = some a17 → ((v5 < (4 : Int) → ∃ r18 : Int, sp17 a17 (50 : Int) r18 ∧ ((v3.length + ([r18] : List Int).length) * 8 ≤ 140737488355328) ∧ ∀ v19 : List Int, v19 = v3 ++ ([r18] : List Int) → ∃ r20 : Int, sp17 a17 (50 : Int) r20 ∧ (R64 (v4 + r20)) ∧ ∀ v21 : Int, v21 = v4 + r20 → (R64 (v5 + (1 : Int))) ∧ ∀ v22 : Int, v22 = v5 + (1 : Int) → (I14 v19 v21 v22 ∧ M15 v19 v21 v22 < M15 v3 v4 v5)) ∧ ((4 : Int) ≤ v5 → (R64 (v5 + (1 : Int))) ∧ ∀ v23 : Int, v23 = v5 + (1 : Int) → (I14 v3 v4 v23 ∧ M15 v3 v4 v23 < M15 v3 v4 v5)))) ∧ (v16 = false → ∃ (I37 : (List GMark_Deed) → Int → Prop) (M38 : (List GMark_Deed) → Int → Nat), I37 ([] : List GMark_Deed) (0 : Int) ∧ ∀ (v24 : List GMark_Deed) (v25 : Int), I37 v24 v25 → ∀ v39 : Bool, v39 = decide (v25 < (p2.length : Int)) → ((v39 = true → (0 ≤ v25 ∧ v25 < (p2.length : Int)) ∧ ∀ a40 : GMark_Deed, p2[(v25 : Int).toNat]? = some a40 → ((v25 < (150 : Int) → ∃ r41 : Int, sp17 a40.Kind (3 : Int) r41 ∧ (R64 ((1 : Int) + r41)) ∧ ∀ v42 : Int, v42 = (1 : Int) + r41 → ∃ r43 : Int, sp17 a40.From (v3.length : Int) r43 ∧ ∃ r44 : Int, sp17 a40.To (v3.length : Int) r44 ∧ ∃ r45 : Int, sp17 a40.N (12 : Int) r45 ∧ (R64 ((1 : Int) + r45)) ∧ ∀ v46 : Int, v46 = (1 : Int) + r45 → ((v24.length + ([(GMark_Deed.mk v42 r43 r44 v46)] : List GMark_Deed).length) * 32 ≤ 140737488355328) ∧ ∀ v47 : List GMark_Deed, v47 = v24 ++ ([(GMark_Deed.mk v42 r43 r44 v46)] : List GMark_Deed) → (R64 (v25 + (1 : Int))) ∧ ∀ v48 : Int, v48 = v25 + (1 : Int) → (I37 v47 v48 ∧ M38 v47 v48 < M38 v24 v25)) ∧ ((150 : Int) ≤ v25 → (R64 (v25 + (1 : Int))) ∧ ∀ v49 : Int, v49 = v25 + (1 : Int) → (I37 v24 v49 ∧ M38 v24 v49 < M38 v24 v25)))) ∧ (v39 = false → Q (v3, v24, v4)))))
def hc37m : C := (.seq (.reg [oo 4 (.mv (.c (.list [] .full))), oo 5 (.mv (.c (.list [] .full))), oo 6 (.mv (.c (.int .i64 0)))] [0, 1]) (.seq (.reg [oo 14 (.mklist 1 [(.c (.int .i64 10))]), mo 7 14] [0, 1, 7]) (.seq (.reg [oo 8 (.mv (.c (.int .i64 10)))] [0, 1, 7, 8]) (.seq (.seq (.reg [mo 15 0, oo 16 (.len false 15), oo 17 (.mv (.c (.int .i64 0)))] [1, 7, 8, 15, 16, 17]) (.block 0 (.loop (.seq (.reg [oo 18 (.bin .lss 17 16)] [1, 7, 8, 15, 16, 17, 18]) (.seq (.cond 18 .skip (.exit 0)) (.seq (.block 1 (.seq (.reg [mo 19 17, oo 20 (.iaddr 1 15 17), oo 21 (.load none 20), mo 9 19, mo 10 21] [1, 7, 8, 9, 10, 15, 16, 17]) (.seq (.reg [mo 22 9, oo 23 (.bin .lss 22 (.c (.int .i64 4)))] [1, 7, 8, 10, 15, 16, 17, 23]) (.cond 23 (.seq (.reg [mo 24 7, mo 25 10, co 26 (.call 17 [25, (.c (.int .i64 50))]), oo 27 (.mklist 1 [26]), oo 28 (.append 1 8 24 27), mo 7 28] [1, 7, 8, 10, 15, 16, 17]) (.reg [mo 29 8, mo 30 10, co 31 (.call 17 [30, (.c (.int .i64 50))]), oo 32 (.bin .add 29 31), mo 8 32] [1, 7, 8, 15, 16, 17])) .skip)))) (.reg [oo 33 (.bin .add 17 (.c (.int .i64 1))), mo 17 33] [1, 7, 8, 15, 16, 17]))))))) (.seq (.reg [oo 11 (.mv (.c (.list [] .full)))] [1, 7, 8, 11]) (.seq (.seq (.reg [mo 34 1, oo 35 (.len false 34), oo 36 (.mv (.c (.int .i64 0)))] [7, 8, 11, 34, 35, 36]) (.block 2 (.loop (.seq (.reg [oo 37 (.bin .lss 36 35)] [7, 8, 11, 34, 35, 36, 37]) (.seq (.cond 37 .skip (.exit 2)) (.seq (.block 3 (.seq (.reg [mo 38 36, oo 39 (.iaddr 4 34 36), oo 40 (.load (some 4) 39), oo 13 (.alloc none [(.int .i64 0), (.int .i64 0), (.int .i64 0), (.int .i64 0)]), mo 12 38, os (.store 4 13 40)] [7, 8, 11, 12, 13, 34, 35, 36]) (.seq (.reg [mo 41 12, oo 42 (.bin .lss 41 (.c (.int .i64 150)))] [7, 8, 11, 13, 34, 35, 36, 42]) (.cond 42 (.dreg [mo 43 11, oo 44 (.faddr 0 1 13), oo 45 (.load none 44), co 46 (.call 17 [45, (.c (.int .i64 3))]), oo 47 (.bin .add (.c (.int .i64 1)) 46), oo 48 (.faddr 1 1 13), oo 49 (.load none 48), mo 50 7, oo 51 (.len false 50), co 52 (.call 17 [49, 51]), oo 53 (.faddr 2 1 13), oo 54 (.load none 53), mo 55 7, oo 56 (.len false 55), co 57 (.call 17 [54, 56]), oo 58 (.faddr 3 1 13), oo 59 (.load none 58), co 60 (.call 17 [59, (.c (.int .i64 12))]), oo 61 (.bin .add (.c (.int .i64 1)) 60), oo 62 (.build [(.int .i64 0), (.int .i64 0), (.int .i64 0), (.int .i64 0)] [(0, 1, 47), (1, 1, 52), (2, 1, 57), (3, 1, 61)]), oo 63 (.mklist 4 [62]), oo 64 (.appendarr 4 32 43 63), mo 11 64] [] 0 [7, 8, 11, 34, 35, 36]) .skip)))) (.reg [oo 65 (.bin .add 36 (.c (.int .i64 1))), mo 36 65] [7, 8, 11, 34, 35, 36]))))))) (.seq (.reg [mo 66 7, mo 67 11, mo 68 8, mo 4 66, mo 5 67, mo 6 68] [4, 5, 6]) .ret)))))))
def ha37m : Ann := ⟨[(15, 21)], [], [(0, [0, 1]), (1, [0, 1, 7]), (2, [0, 1, 7, 8]), (3, [1, 7, 8, 15, 16, 17]), (4, [1, 7, 8, 15, 16, 17, 18]), (5, [1, 7, 8, 9, 10, 15, 16, 17]), (6, [1, 7, 8, 10, 15, 16, 17, 23]), (7, [1, 7, 8, 10, 15, 16, 17]), (8, [1, 7, 8, 15, 16, 17]), (9, [1, 7, 8, 15, 16, 17]), (10, [1, 7, 8, 11]), (11, [7, 8, 11, 34, 35, 36]), (12, [7, 8, 11, 34, 35, 36, 37]), (13, [7, 8, 11, 12, 13, 34, 35, 36]), (14, [7, 8, 11, 13, 34, 35, 36, 42]), (15, [7, 8, 11, 34, 35, 36]), (16, [7, 8, 11, 34, 35, 36]), (17, [4, 5, 6])], []⟩
theorem hk37m : comp Try.prog ha37m Try.f37.ntmps Try.f37.code = some hc37m := by kernel_rfl
def w37m (p1 : List (Int)) (p2 : List (GMark_Deed)) (Q : List (Int) × List (GMark_Deed) × Int → Prop) : Prop :=
  ∃ (I14 : (List Int) → Int → Int → Prop) (M15 : (List Int) → Int → Int → Nat), I14 ([(10 : Int)] : List Int) (10 : Int) (0 : Int) ∧ ∀ (v3 : List Int) (v4 : Int) (v5 : Int), I14 v3 v4 v5 → ∀ v16 : Bool, v16 = decide (v5 < (p1.length : Int)) → ((v16 = true → (0 ≤ v5 ∧ v5 < (p1.length : Int)) ∧ ∀ a17 : Int, p1[(v5 : Int).toNat]? = some a17 → ((v5 < (4 : Int) → ∃ r18 : Int, sp17 a17 (50 : Int) r18 ∧ ((v3.length + ([r18] : List Int).length) * 8 ≤ 140737488355328) ∧ ∀ v19 : List Int, v19 = v3 ++ ([r18] : List Int) → ∃ r20 : Int, sp17 a17 (50 : Int) r20 ∧ (R64 (v4 + r20)) ∧ ∀ v21 : Int, v21 = v4 + r20 → (R64 (v5 + (1 : Int))) ∧ ∀ v22 : Int, v22 = v5 + (1 : Int) → (I14 v19 v21 v22 ∧ M15 v19 v21 v22 < M15 v3 v4 v5)) ∧ ((4 : Int) ≤ v5 → (R64 (v5 + (1 : Int))) ∧ ∀ v23 : Int, v23 = v5 + (1 : Int) → (I14 v3 v4 v23 ∧ M15 v3 v4 v23 < M15 v3 v4 v5)))) ∧ (v16 = false → ∃ (I37 : (List GMark_Deed) → Int → Prop) (M38 : (List GMark_Deed) → Int → Nat), I37 ([] : List GMark_Deed) (0 : Int) ∧ ∀ (v24 : List GMark_Deed) (v25 : Int), I37 v24 v25 → ∀ v39 : Bool, v39 = decide (v25 < (p2.length : Int)) → ((v39 = true → (0 ≤ v25 ∧ v25 < (p2.length : Int)) ∧ ∀ a40 : GMark_Deed, p2[(v25 : Int).toNat]? = some a40 → ((v25 < (150 : Int) → ∃ r41 : Int, sp17 a40.Kind (3 : Int) r41 ∧ (R64 ((1 : Int) + r41)) ∧ ∀ v42 : Int, v42 = (1 : Int) + r41 → ∃ r43 : Int, sp17 a40.From (v3.length : Int) r43 ∧ ∃ r44 : Int, sp17 a40.To (v3.length : Int) r44 ∧ ∃ r45 : Int, sp17 a40.N (12 : Int) r45 ∧ (R64 ((1 : Int) + r45)) ∧ ∀ v46 : Int, v46 = (1 : Int) + r45 → ((v24.length + ([(GMark_Deed.mk v42 r43 r44 v46)] : List GMark_Deed).length) * 32 ≤ 140737488355328) ∧ ∀ v47 : List GMark_Deed, v47 = v24 ++ ([(GMark_Deed.mk v42 r43 r44 v46)] : List GMark_Deed) → (R64 (v25 + (1 : Int))) ∧ ∀ v48 : Int, v48 = v25 + (1 : Int) → (I37 v47 v48 ∧ M38 v47 v48 < M38 v24 v25)) ∧ ((150 : Int) ≤ v25 → (R64 (v25 + (1 : Int))) ∧ ∀ v49 : Int, v49 = v25 + (1 : Int) → (I37 v24 v49 ∧ M38 v24 v49 < M38 v24 v25)))) ∧ (v39 = false → Q (v3, v24, v4)))))
theorem ok37m (p1 : List (Int)) (p2 : List (GMark_Deed)) (r : List (Int) × List (GMark_Deed) × Int) (hw : w37m p1 p2 fun r' => r' = r) : sp37m p1 p2 r := by
  refine zh (rs := [.t 4, .t 5, .t 6]) Try.func37 hk37m ?_
  unfold w37m at hw
  show SC Try.prog Try.f37.ntmps 0 hc37m _ [(0, ln (eInt .i64) p1), (1, ln eGMark_Deed p2)] []
  unfold hc37m
  refine q_reg (st_mv rfl (st_mv rfl (st_mv rfl (g_endq [(0, ln (eInt .i64) p1), (1, ln eGMark_Deed p2)] rfl ?_))))
  refine q_reg (g_mkl (enc_int .i64) [(10 : Int)] (ec rfl en) rfl (mz mkn) (st_mv rfl (g_endq [(0, ln (eInt .i64) p1), (1, ln eGMark_Deed p2), (7, lf (eInt .i64) ([(10 : Int)] : List Int))] rfl ?_)))
  refine q_reg (st_mv rfl (g_endq [(0, ln (eInt .i64) p1), (1, ln eGMark_Deed p2), (7, lf (eInt .i64) ([(10 : Int)] : List Int)), (8, ii 10)] rfl ?_))
  refine sc_seq (q_reg (st_mv rfl (g_len rfl (st_mv rfl (g_endq [(1, ln eGMark_Deed p2), (7, lf (eInt .i64) ([(10 : Int)] : List Int)), (8, ii 10), (15, ln (eInt .i64) p1), (16, ii (p1.length : Int)), (17, ii 0)] rfl ?_)))))
  refine sc_block ?_
  obtain ⟨I14, M15, hi, hw⟩ := hw
  refine sc_loop (X := { x : List Int × Int × Int // I14 x.1 x.2.1 x.2.2 }) (fun x => ([(1, ln eGMark_Deed p2), (7, .list (List.map (eInt .i64) x.1.1) (.own 0 1 1)), (8, ii x.1.2.1), (15, ln (eInt .i64) p1), (16, ii (p1.length : Int)), (17, ii x.1.2.2)], [.tok (1 + x.1.1.length)])) (fun x => M15 x.1.1 x.1.2.1 x.1.2.2) ⟨(([(10 : Int)] : List Int), (10 : Int), (0 : Int)), hi⟩ ((w_acc (l := ([(10 : Int)] : List Int)) 7 1 (n := 0) rfl (enc_int .i64) rfl).trans ws) ?_
  rintro ⟨⟨v3, v4, v5⟩, hi2⟩
  have hw := hw v3 v4 v5 hi2
  clear hi
  refine q_reg (gb_cmp rfl rfl trivial rfl hw fun v16 hw => g_endq [(1, ln eGMark_Deed p2), (7, .list (List.map (eInt .i64) v3) (.own 0 1 1)), (8, ii v4), (15, ln (eInt .i64) p1), (16, ii (p1.length : Int)), (17, ii v5), (18, .bool v16)] rfl ?_)
  refine sc_seq (s_cond rfl hw (fun hw => ?_) (fun hw => ?_))
  · refine sc_skip (sq_n (sc_seq (sc_block (q_reg (st_mv rfl (g_iaddr (enc_int .i64) rfl rfl hw fun a17 hw => st_load_r rfl rfl (st_mv rfl (st_mv rfl (g_endq [(1, ln eGMark_Deed p2), (7, .list (List.map (eInt .i64) v3) (.own 0 1 1)), (8, ii v4), (9, ii v5), (10, ii a17), (15, ln (eInt .i64) p1), (16, ii (p1.length : Int)), (17, ii v5)] rfl ?_)))))))))
    refine q_reg (st_mv rfl (g_lss rfl rfl hw (fun hw => g_endq [(1, ln eGMark_Deed p2), (7, .list (List.map (eInt .i64) v3) (.own 0 1 1)), (8, ii v4), (10, ii a17), (15, ln (eInt .i64) p1), (16, ii (p1.length : Int)), (17, ii v5), (23, .bool true)] rfl ?_) (fun hw => g_endq [(1, ln eGMark_Deed p2), (7, .list (List.map (eInt .i64) v3) (.own 0 1 1)), (8, ii v4), (10, ii a17), (15, ln (eInt .i64) p1), (16, ii (p1.length : Int)), (17, ii v5), (23, .bool false)] rfl ?_)))
    · refine s_cond_t rfl (q_reg (st_mv rfl (st_mv rfl (k_call dh (ec rfl (ec rfl en)) rfl hw fun r18 hw => g_mkl (enc_int .i64) [r18] (ec rfl en) rfl (mz mkn) (g_appo (enc_int .i64) rfl rfl rfl hw (fun z => [.tok (1 + z.length)]) (fun _ => rfl) fun v19 hw => st_mv rfl (g_endq [(1, ln eGMark_Deed p2), (7, .list (List.map (eInt .i64) v19) (.own 0 1 1)), (8, ii v4), (10, ii a17), (15, ln (eInt .i64) p1), (16, ii (p1.length : Int)), (17, ii v5)] rfl ?_))))))
      refine s_reg (st_mv rfl (st_mv rfl (k_call dh (ec rfl (ec rfl en)) rfl hw fun r20 hw => g_add rfl rfl hw fun v21 hw => st_mv rfl (g_end [(1, ln eGMark_Deed p2), (7, .list (List.map (eInt .i64) v19) (.own 0 1 1)), (8, ii v21), (15, ln (eInt .i64) p1), (16, ii (p1.length : Int)), (17, ii v5)] rfl ?_))))
      refine bl_n (sq_n (s_reg (g_add rfl rfl hw fun v22 hw => st_mv rfl (g_end [(1, ln eGMark_Deed p2), (7, .list (List.map (eInt .i64) v19) (.own 0 1 1)), (8, ii v21), (15, ln (eInt .i64) p1), (16, ii (p1.length : Int)), (17, ii v22)] rfl ?_))))
      exact lo_n ⟨(v19, v21, v22), hw.1⟩ hw.2 ws
    · refine s_cond_f rfl (sc_skip (bl_n (sq_n (s_reg (g_add rfl rfl hw fun v23 hw => st_mv rfl (g_end [(1, ln eGMark_Deed p2), (7, .list (List.map (eInt .i64) v3) (.own 0 1 1)), (8, ii v4), (15, ln (eInt .i64) p1), (16, ii (p1.length : Int)), (17, ii v23)] rfl ?_))))))
      exact lo_n ⟨(v3, v4, v23), hw.1⟩ hw.2 ws
  · refine sc_exit (sq_x (lo_x (bl_x (sq_n (q_reg (st_mv rfl (g_endq [(1, ln eGMark_Deed p2), (7, .list (List.map (eInt .i64) v3) (.own 0 1 1)), (8, ii v4), (11, nl eGMark_Deed)] rfl ?_)))))))
    refine sc_seq (q_reg (st_mv rfl (g_len rfl (st_mv rfl (g_endq [(7, .list (List.map (eInt .i64) v3) (.own 0 1 1)), (8, ii v4), (11, nl eGMark_Deed), (34, ln eGMark_Deed p2), (35, ii (p2.length : Int)), (36, ii 0)] rfl ?_)))))
    refine sc_block (SC.weak (w_nilarr (A := GMark_Deed) (f := eGMark_Deed) (sz := 4) (n := 1) (h' := [.tok (1 + v3.length), GA eGMark_Deed ([] : List GMark_Deed)]) 11 rfl rfl rfl) ?_)
    obtain ⟨I37, M38, hi, hw⟩ := hw
    refine sc_loop (X := { x : List GMark_Deed × Int // I37 x.1 x.2 }) (fun x => ([(7, .list (List.map (eInt .i64) v3) (.own 0 1 1)), (8, ii v4), (11, .arr 1 0 x.1.1.length 4), (34, ln eGMark_Deed p2), (35, ii (p2.length : Int)), (36, ii x.1.2)], [.tok (1 + v3.length), GA eGMark_Deed x.1.1])) (fun x => M38 x.1.1 x.1.2) ⟨(([] : List GMark_Deed), (0 : Int)), hi⟩ ws ?_
    rintro ⟨⟨v24, v25⟩, hi2⟩
    have hw := hw v24 v25 hi2
    clear hi
    refine q_reg (gb_cmp rfl rfl trivial rfl hw fun v39 hw => g_endq [(7, .list (List.map (eInt .i64) v3) (.own 0 1 1)), (8, ii v4), (11, .arr 1 0 v24.length 4), (34, ln eGMark_Deed p2), (35, ii (p2.length : Int)), (36, ii v25), (37, .bool v39)] rfl ?_)
    refine sc_seq (s_cond rfl hw (fun hw => ?_) (fun hw => ?_))
    · refine sc_skip (sq_n (sc_seq (sc_block (q_reg (st_mv rfl (g_iaddr enc_GMark_Deed rfl rfl hw fun a40 hw => st_load_r (v := eGMark_Deed a40) rfl rfl (g_alloc (n := 2) rfl rfl (st_mv rfl (g_sp (v := eGMark_Deed a40) (h' := [.tok (1 + v3.length), GA eGMark_Deed v24, .cells (HV.cells (eGMark_Deed a40))]) rfl rfl rfl (g_endq [(7, .list (List.map (eInt .i64) v3) (.own 0 1 1)), (8, ii v4), (11, .arr 1 0 v24.length 4), (12, ii v25), (13, .ptr 2 0), (34, ln eGMark_Deed p2), (35, ii (p2.length : Int)), (36, ii v25)] rfl ?_))))))))))
      refine q_reg (st_mv rfl (g_lss rfl rfl hw (fun hw => g_endq [(7, .list (List.map (eInt .i64) v3) (.own 0 1 1)), (8, ii v4), (11, .arr 1 0 v24.length 4), (13, .ptr 2 0), (34, ln eGMark_Deed p2), (35, ii (p2.length : Int)), (36, ii v25), (42, .bool true)] rfl ?_) (fun hw => g_endq [(7, .list (List.map (eInt .i64) v3) (.own 0 1 1)), (8, ii v4), (11, .arr 1 0 v24.length 4), (13, .ptr 2 0), (34, ln eGMark_Deed p2), (35, ii (p2.length : Int)), (36, ii v25), (42, .bool false)] rfl ?_)))
      · refine s_cond_t rfl (s_dreg Try.mixed rfl (st_mv rfl (g_faddr_p rfl (g_load_p rfl rfl rfl (k_call dd (ec rfl (ec rfl en)) rfl hw fun r41 hw => g_add rfl rfl hw fun v42 hw => g_faddr_p rfl (g_load_p rfl rfl rfl (st_mv rfl (g_len rfl (k_call dd (ec rfl (ec rfl en)) rfl hw fun r43 hw => g_faddr_p rfl (g_load_p rfl rfl rfl (st_mv rfl (g_len rfl (k_call dd (ec rfl (ec rfl en)) rfl hw fun r44 hw => g_faddr_p rfl (g_load_p rfl rfl rfl (k_call dd (ec rfl (ec rfl en)) rfl hw fun r45 hw => g_add rfl rfl hw fun v46 hw => g_build (cs := [ii v42, ii r43, ii r44, ii v46]) (ep_cons rfl (ep_cons rfl (ep_cons rfl (ep_cons rfl ep_nil)))) rfl (g_mkl enc_GMark_Deed [(GMark_Deed.mk v42 r43 r44 v46)] (ec rfl en) rfl (mz mkn) (g_apW (n := 3) enc_GMark_Deed rfl rfl rfl rfl (asrc_list enc_GMark_Deed) rfl hw (fun z => [.tok (1 + v3.length), .dead, .cells (HV.cells (eGMark_Deed a40)), GA eGMark_Deed z]) (fun _ => rfl) fun v47 hw => st_mv rfl (st_mid (g_end [(7, .list (List.map (eInt .i64) v3) (.own 0 1 1)), (8, ii v4), (11, .arr 3 0 v47.length 4), (34, ln eGMark_Deed p2), (35, ii (p2.length : Int)), (36, ii v25)] rfl ?_)))))))))))))))))))
        refine bl_n (sq_n (s_reg (g_add rfl rfl hw fun v48 hw => st_mv rfl (g_end [(7, .list (List.map (eInt .i64) v3) (.own 0 1 1)), (8, ii v4), (11, .arr 3 0 v47.length 4), (34, ln eGMark_Deed p2), (35, ii (p2.length : Int)), (36, ii v48)] rfl ?_))))
        exact lo_n ⟨(v47, v48), hw.1⟩ hw.2 (weak_ren [0, 3] (by simp) (by decide) (ro_tok rfl (ro_arr enc_GMark_Deed (fun a => (lfc rfl (lfc rfl (lfc rfl (lfc rfl lfn))))) rfl ro_nil)) (re_cons rfl (.own _ _ _ _ _ rfl (pv_flat (enc_int .i64) _)) (re_cons rfl (.pv _ (.int _ _)) (re_cons rfl (rn_arr rfl) (re_cons rfl (.pv _ (pv_lst enc_GMark_Deed _ _ (by simp))) (re_cons rfl (.pv _ (.int _ _)) (re_cons rfl (.pv _ (.int _ _)) re_nil)))))))
      · refine s_cond_f rfl (sc_skip (bl_n (sq_n (s_reg (g_add rfl rfl hw fun v49 hw => st_mv rfl (g_end [(7, .list (List.map (eInt .i64) v3) (.own 0 1 1)), (8, ii v4), (11, .arr 1 0 v24.length 4), (34, ln eGMark_Deed p2), (35, ii (p2.length : Int)), (36, ii v49)] rfl ?_))))))
        exact lo_n ⟨(v24, v49), hw.1⟩ hw.2 (weak_ren [0, 1] (by simp) (by decide) (ro_tok rfl (ro_arr enc_GMark_Deed (fun a => (lfc rfl (lfc rfl (lfc rfl (lfc rfl lfn))))) rfl ro_nil)) (re_cons rfl (.own _ _ _ _ _ rfl (pv_flat (enc_int .i64) _)) (re_cons rfl (.pv _ (.int _ _)) (re_cons rfl (rn_arr rfl) (re_cons rfl (.pv _ (pv_lst enc_GMark_Deed _ _ (by simp))) (re_cons rfl (.pv _ (.int _ _)) (re_cons rfl (.pv _ (.int _ _)) re_nil)))))))
    · refine sc_exit (sq_x (lo_x (bl_x (sq_n (q_reg (st_mv rfl (st_mv rfl (st_mv rfl (st_mv rfl (st_mv rfl (st_mv rfl (g_endq [(4, .list (List.map (eInt .i64) v3) (.own 0 1 1)), (5, .arr 1 0 v24.length 4), (6, ii v4)] rfl ?_))))))))))))
      exact sc_ret (gr (g := zg37m) (ho := zo37m) [.list (List.map (eInt .i64) v3) (.own 0 1 1), .arr 1 0 v24.length 4, ii v4] [ln (eInt .i64) v3, .arr 0 0 v24.length 4, ii v4] hw (.inr rfl) (weak_ren [1] (by simp) (by decide) (ro_arr enc_GMark_Deed (fun a => (lfc rfl (lfc rfl (lfc rfl (lfc rfl lfn))))) rfl ro_nil) (re_cons1 rfl (.pv _ (pv_lst (enc_int .i64) _ _ (by simp))) (re_cons rfl (rn_arr rfl) (re_cons rfl (.pv _ (.int _ _)) re_nil)))))
def hc39 : C := (.seq (.reg [oo 0 (.mv (.c (.bool false)))] []) (.seq (.reg [oo 4 (.mklist 1 [(.c (.int .i64 5)), (.c (.int .i64 3))]), oo 5 (.build [(.int .i64 0), (.int .i64 0), (.int .i64 0), (.int .i64 0)] [(0, 1, (.c (.int .i64 1))), (2, 1, (.c (.int .i64 1))), (3, 1, (.c (.int .i64 2)))]), oo 6 (.build [(.int .i64 0), (.int .i64 0), (.int .i64 0), (.int .i64 0)] [(0, 1, (.c (.int .i64 3))), (1, 1, (.c (.int .i64 1)))]), oo 7 (.build [(.int .i64 0), (.int .i64 0), (.int .i64 0), (.int .i64 0)] [(0, 1, (.c (.int .i64 2))), (2, 1, (.c (.int .i64 1)))]), oo 8 (.build [(.int .i64 0), (.int .i64 0), (.int .i64 0), (.int .i64 0)] [(0, 1, (.c (.int .i64 2))), (1, 1, (.c (.int .i64 1)))]), oo 9 (.build [(.int .i64 0), (.int .i64 0), (.int .i64 0), (.int .i64 0)] [(0, 1, (.c (.int .i64 2))), (2, 1, (.c (.int .i64 1)))]), oo 10 (.mklist 4 [5, 6, 7, 8, 9]), co 11 (.call 38 [4, 10]), mo 3 11, oo 12 (.extract 3 0), oo 13 (.extract 3 1), oo 1 (.alloc none [(.bool false), (.list [] .full), (.list [] .full), (.list [] .full), (.int .i64 0)]), os (.store 5 1 12), mo 2 13] [1, 2]) (.seq (.reg [mo 14 2, oo 15 (.eqv false .int 14 (.c (.int .i64 0))), mo 16 15, og 17 (.faddr 0 1 1) 16 true, og 18 (.load none 17) 16 true, oo 19 (.pick 16 18 (.c (.bool false))), mo 20 19, og 21 (.faddr 1 1 1) 20 true, og 22 (.load none 21) 20 true, og 23 (.mklist 1 [(.c (.int .i64 3)), (.c (.int .i64 3))]) 20 true, cg 24 (.call 24 [22, 23]) 20 true, oo 25 (.pick 20 24 (.c (.bool false))), mo 26 25, og 27 (.faddr 3 1 1) 26 true, og 28 (.load none 27) 26 true, og 29 (.mklist 1 [(.c (.int .i64 3)), (.c (.int .i64 5))]) 26 true, cg 30 (.call 24 [28, 29]) 26 true, oo 31 (.pick 26 30 (.c (.bool false))), mo 32 31, og 33 (.faddr 2 1 1) 32 true, og 34 (.load none 33) 32 true, og 35 (.len false 34) 32 true, og 36 (.eqv false .int 35 (.c (.int .i64 2))) 32 true, oo 37 (.pick 32 36 (.c (.bool false))), mo 38 37, og 39 (.faddr 2 1 1) 38 true, og 40 (.load none 39) 38 true, og 41 (.iaddr 1 40 (.c (.int .i64 1))) 38 true, og 42 (.load none 41) 38 true, og 43 (.len false 42) 38 true, og 44 (.eqv false .int 43 (.c (.int .i64 1))) 38 true, oo 45 (.pick 38 44 (.c (.bool false))), mo 46 45, og 47 (.faddr 2 1 1) 46 true, og 48 (.load none 47) 46 true, og 49 (.iaddr 1 48 (.c (.int .i64 1))) 46 true, og 50 (.load none 49) 46 true, og 51 (.iaddr 1 50 (.c (.int .i64 0))) 46 true, og 52 (.load none 51) 46 true, og 53 (.mklist 1 [(.c (.int .i64 2))]) 46 true, cg 54 (.call 24 [52, 53]) 46 true, oo 55 (.pick 46 54 (.c (.bool false))), mo 0 55] [0]) .ret)))
def ha39 : Ann := ⟨[], [], [(0, []), (1, [1, 2]), (2, [0])], []⟩
theorem hk39 : comp Try.prog ha39 Try.f39.ntmps Try.f39.code = some hc39 := by kernel_rfl
def w39  (Q : Bool → Prop) : Prop :=
  ∃ r1 : GMark_Shot × Int, sp38 ([(5 : Int), (3 : Int)] : List Int) ([(GMark_Deed.mk (1 : Int) (0 : Int) (1 : Int) (2 : Int)), (GMark_Deed.mk (3 : Int) (1 : Int) (0 : Int) (0 : Int)), (GMark_Deed.mk (2 : Int) (0 : Int) (1 : Int) (0 : Int)), (GMark_Deed.mk (2 : Int) (1 : Int) (0 : Int) (0 : Int)), (GMark_Deed.mk (2 : Int) (0 : Int) (1 : Int) (0 : Int))] : List GMark_Deed) r1 ∧ ((r1.2 = (0 : Int) → ((r1.1.Done = true → ∃ r2 : Bool, sp24 r1.1.States ([(3 : Int), (3 : Int)] : List Int) r2 ∧ ((r2 = true → ∃ r3 : Bool, sp24 r1.1.Now ([(3 : Int), (5 : Int)] : List Int) r3 ∧ ((r3 = true → (((r1.1.Ways.length : Int) = (2 : Int) → (0 ≤ (1 : Int) ∧ (1 : Int) < (r1.1.Ways.length : Int)) ∧ ∀ a4 : List (List (Int)), r1.1.Ways[((1 : Int) : Int).toNat]? = some a4 → (((a4.length : Int) = (1 : Int) → (0 ≤ (1 : Int) ∧ (1 : Int) < (r1.1.Ways.length : Int)) ∧ ∀ a5 : List (List (Int)), r1.1.Ways[((1 : Int) : Int).toNat]? = some a5 → (0 ≤ (0 : Int) ∧ (0 : Int) < (a5.length : Int)) ∧ ∀ a6 : List (Int), a5[((0 : Int) : Int).toNat]? = some a6 → ∃ r7 : Bool, sp24 a6 ([(2 : Int)] : List Int) r7 ∧ Q r7) ∧ ((a4.length : Int) ≠ (1 : Int) → Q false))) ∧ ((r1.1.Ways.length : Int) ≠ (2 : Int) → Q false))) ∧ (r3 = false → Q false))) ∧ (r2 = false → Q false))) ∧ (r1.1.Done = false → Q false))) ∧ (r1.2 ≠ (0 : Int) → Q false))
theorem ok39  (r : Bool) (hw : w39  fun r' => r' = r) : sp39  r := by
  refine zf (rs := [.t 0]) (g := zg39) Try.func39 hk39 ?_
  unfold w39 at hw
  show SC Try.prog Try.f39.ntmps 0 hc39 _ [] []
  unfold hc39
  refine q_reg (st_mv rfl (g_endq [] rfl ?_))
  refine q_reg (g_mkl (enc_int .i64) [(5 : Int), (3 : Int)] (ec rfl (ec rfl en)) rfl (mz (mz mkn)) (g_build (cs := [ii 1, ii 0, ii 1, ii 2]) (ep_cons rfl (ep_cons rfl (ep_cons rfl ep_nil))) rfl (g_build (cs := [ii 3, ii 1, ii 0, ii 0]) (ep_cons rfl (ep_cons rfl ep_nil)) rfl (g_build (cs := [ii 2, ii 0, ii 1, ii 0]) (ep_cons rfl (ep_cons rfl ep_nil)) rfl (g_build (cs := [ii 2, ii 1, ii 0, ii 0]) (ep_cons rfl (ep_cons rfl ep_nil)) rfl (g_build (cs := [ii 2, ii 0, ii 1, ii 0]) (ep_cons rfl (ep_cons rfl ep_nil)) rfl (g_mkl enc_GMark_Deed [(GMark_Deed.mk (1 : Int) (0 : Int) (1 : Int) (2 : Int)), (GMark_Deed.mk (3 : Int) (1 : Int) (0 : Int) (0 : Int)), (GMark_Deed.mk (2 : Int) (0 : Int) (1 : Int) (0 : Int)), (GMark_Deed.mk (2 : Int) (1 : Int) (0 : Int) (0 : Int)), (GMark_Deed.mk (2 : Int) (0 : Int) (1 : Int) (0 : Int))] (ec rfl (ec rfl (ec rfl (ec rfl (ec rfl en))))) rfl (mz (mz (mz (mz (mz mkn))))) (k_call dh (ec rfl (ec rfl en)) rfl hw fun r1 hw => st_mv rfl (st_extract rfl rfl (st_extract rfl rfl (g_alloc (n := 0) rfl rfl (g_sp (v := eGMark_Shot r1.1) (h' := [.cells (HV.cells (eGMark_Shot r1.1))]) rfl rfl rfl (st_mv rfl (g_endq [(1, .ptr 0 0), (2, ii r1.2)] rfl ?_))))))))))))))
  refine q_reg (st_mv rfl (g_eqi rfl rfl hw (fun hw => st_mv rfl (st_g rfl (g_faddr_p rfl (st_g rfl (g_load_p rfl rfl rfl (st_pick_t rfl rfl rfl (st_mv rfl (g_split rfl hw ?_ ?_)))))))) (fun hw => st_mv rfl (st_gft rfl (st_gft rfl (st_pick_f rfl rfl rfl (st_mv rfl (st_gft rfl (st_gft rfl (st_gft rfl (st_gft rfl (st_pick_f rfl rfl rfl (st_mv rfl (st_gft rfl (st_gft rfl (st_gft rfl (st_gft rfl (st_pick_f rfl rfl rfl (st_mv rfl (st_gft rfl (st_gft rfl (st_gft rfl (st_gft rfl (st_pick_f rfl rfl rfl (st_mv rfl (st_gft rfl (st_gft rfl (st_gft rfl (st_gft rfl (st_gft rfl (st_gft rfl (st_pick_f rfl rfl rfl (st_mv rfl (st_gft rfl (st_gft rfl (st_gft rfl (st_gft rfl (st_gft rfl (st_gft rfl (st_gft rfl (st_gft rfl (st_pick_f rfl rfl rfl (st_mv rfl (g_endq [(0, .bool false)] rfl ?_))))))))))))))))))))))))))))))))))))))))))))
  · intro c hw
    rw [c]
    refine st_g rfl (g_faddr_p rfl (st_g rfl (g_load_p rfl rfl rfl (st_g rfl (g_mkl (enc_int .i64) [(3 : Int), (3 : Int)] (ec rfl (ec rfl en)) rfl (mz (mz mkn)) (st_g rfl (k_call dh (ec rfl (ec rfl en)) rfl hw fun r2 hw => st_pick_t rfl rfl rfl (st_mv rfl (g_split rfl hw ?_ ?_)))))))))
    · intro c hw
      rw [c]
      refine st_g rfl (g_faddr_p rfl (st_g rfl (g_load_p rfl rfl rfl (st_g rfl (g_mkl (enc_int .i64) [(3 : Int), (5 : Int)] (ec rfl (ec rfl en)) rfl (mz (mz mkn)) (st_g rfl (k_call dh (ec rfl (ec rfl en)) rfl hw fun r3 hw => st_pick_t rfl rfl rfl (st_mv rfl (g_split rfl hw ?_ ?_)))))))))
      · intro c hw
        rw [c]
        refine st_g rfl (g_faddr_p rfl (st_g rfl (g_load_p rfl rfl rfl (st_g rfl (g_len rfl (st_g rfl (g_eqi rfl rfl hw (fun hw => st_pick_t rfl rfl rfl (st_mv rfl (st_g rfl (g_faddr_p rfl (st_g rfl (g_load_p rfl rfl rfl (st_g rfl (g_iaddr (enc_lst (enc_lst (enc_int .i64))) rfl rfl hw fun a4 hw => st_g rfl (st_load_r rfl rfl (st_g rfl (g_len rfl (st_g rfl (g_eqi rfl rfl hw (fun hw => st_pick_t rfl rfl rfl (st_mv rfl (st_g rfl (g_faddr_p rfl (st_g rfl (g_load_p rfl rfl rfl (st_g rfl (g_iaddr (enc_lst (enc_lst (enc_int .i64))) rfl rfl hw fun a5 hw => st_g rfl (st_load_r rfl rfl (st_g rfl (g_iaddr (enc_lst (enc_int .i64)) rfl rfl hw fun a6 hw => st_g rfl (st_load_r rfl rfl (st_g rfl (g_mkl (enc_int .i64) [(2 : Int)] (ec rfl en) rfl (mz mkn) (st_g rfl (k_call dh (ec rfl (ec rfl en)) rfl hw fun r7 hw => st_pick_t rfl rfl rfl (st_mv rfl (g_endq [(0, .bool r7)] rfl ?_)))))))))))))))))) (fun hw => st_pick_t rfl rfl rfl (st_mv rfl (st_gft rfl (st_gft rfl (st_gft rfl (st_gft rfl (st_gft rfl (st_gft rfl (st_gft rfl (st_gft rfl (st_pick_f rfl rfl rfl (st_mv rfl (g_endq [(0, .bool false)] rfl ?_)))))))))))))))))))))))))) (fun hw => st_pick_t rfl rfl rfl (st_mv rfl (st_gft rfl (st_gft rfl (st_gft rfl (st_gft rfl (st_gft rfl (st_gft rfl (st_pick_f rfl rfl rfl (st_mv rfl (st_gft rfl (st_gft rfl (st_gft rfl (st_gft rfl (st_gft rfl (st_gft rfl (st_gft rfl (st_gft rfl (st_pick_f rfl rfl rfl (st_mv rfl (g_endq [(0, .bool false)] rfl ?_))))))))))))))))))))))))))))
        · exact sc_ret (gr1 (g := zg39) (ho := fun _ => []) [.bool r7] hw (.inr rfl) (wr []))
        · exact sc_ret (gr1 (g := zg39) (ho := fun _ => []) [.bool false] hw (.inr rfl) (wr []))
        · exact sc_ret (gr1 (g := zg39) (ho := fun _ => []) [.bool false] hw (.inr rfl) (wr []))
      · intro c hw
        rw [c]
        refine st_gft rfl (st_gft rfl (st_gft rfl (st_gft rfl (st_pick_f rfl rfl rfl (st_mv rfl (st_gft rfl (st_gft rfl (st_gft rfl (st_gft rfl (st_gft rfl (st_gft rfl (st_pick_f rfl rfl rfl (st_mv rfl (st_gft rfl (st_gft rfl (st_gft rfl (st_gft rfl (st_gft rfl (st_gft rfl (st_gft rfl (st_gft rfl (st_pick_f rfl rfl rfl (st_mv rfl (g_endq [(0, .bool false)] rfl ?_))))))))))))))))))))))))
        exact sc_ret (gr1 (g := zg39) (ho := fun _ => []) [.bool false] hw (.inr rfl) (wr []))
    · intro c hw
      rw [c]
      refine st_gft rfl (st_gft rfl (st_gft rfl (st_gft rfl (st_pick_f rfl rfl rfl (st_mv rfl (st_gft rfl (st_gft rfl (st_gft rfl (st_gft rfl (st_pick_f rfl rfl rfl (st_mv rfl (st_gft rfl (st_gft rfl (st_gft rfl (st_gft rfl (st_gft rfl (st_gft rfl (st_pick_f rfl rfl rfl (st_mv rfl (st_gft rfl (st_gft rfl (st_gft rfl (st_gft rfl (st_gft rfl (st_gft rfl (st_gft rfl (st_gft rfl (st_pick_f rfl rfl rfl (st_mv rfl (g_endq [(0, .bool false)] rfl ?_))))))))))))))))))))))))))))))
      exact sc_ret (gr1 (g := zg39) (ho := fun _ => []) [.bool false] hw (.inr rfl) (wr []))
  · intro c hw
    rw [c]
    refine st_gft rfl (st_gft rfl (st_gft rfl (st_gft rfl (st_pick_f rfl rfl rfl (st_mv rfl (st_gft rfl (st_gft rfl (st_gft rfl (st_gft rfl (st_pick_f rfl rfl rfl (st_mv rfl (st_gft rfl (st_gft rfl (st_gft rfl (st_gft rfl (st_pick_f rfl rfl rfl (st_mv rfl (st_gft rfl (st_gft rfl (st_gft rfl (st_gft rfl (st_gft rfl (st_gft rfl (st_pick_f rfl rfl rfl (st_mv rfl (st_gft rfl (st_gft rfl (st_gft rfl (st_gft rfl (st_gft rfl (st_gft rfl (st_gft rfl (st_gft rfl (st_pick_f rfl rfl rfl (st_mv rfl (g_endq [(0, .bool false)] rfl ?_))))))))))))))))))))))))))))))))))))
    exact sc_ret (gr1 (g := zg39) (ho := fun _ => []) [.bool false] hw (.inr rfl) (wr []))
  · exact sc_ret (gr1 (g := zg39) (ho := fun _ => []) [.bool false] hw (.inr rfl) (wr []))
def hc46 : C := (.seq (.reg [oo 4 (.mv (.c (.bool false)))] [0, 1]) (.seq (.reg [mo 5 0, mo 6 1, co 7 (.call 48 [5, 6]), oo 8 (.bin .geq 7 (.c (.int .i64 0))), mo 4 8] [4]) .ret))
def ha46 : Ann := ⟨[], [], [(0, [0, 1]), (1, [4])], []⟩
theorem hk46 : comp Try.prog ha46 Try.f46.ntmps Try.f46.code = some hc46 := by kernel_rfl
def w46 (p1 : List (Int)) (p2 : Int) (Q : Bool → Prop) : Prop :=
  ∃ r3 : Int, sp48 p1 p2 r3 ∧ ∀ v4 : Bool, v4 = decide (r3 ≥ (0 : Int)) → Q v4
theorem ok46 (p1 : List (Int)) (p2 : Int) (r : Bool) (hw : w46 p1 p2 fun r' => r' = r) : sp46 p1 p2 r := by
  refine zf (rs := [.t 4]) (g := zg46) Try.func46 hk46 ?_
  unfold w46 at hw
  show SC Try.prog Try.f46.ntmps 0 hc46 _ [(0, ln (eInt .i64) p1), (1, ii p2)] []
  unfold hc46
  refine q_reg (st_mv rfl (g_endq [(0, ln (eInt .i64) p1), (1, ii p2)] rfl ?_))
  refine q_reg (st_mv rfl (st_mv rfl (k_call dh (ec rfl (ec rfl en)) rfl hw fun r3 hw => gb_cmp rfl rfl trivial rfl hw fun v4 hw => st_mv rfl (g_endq [(4, .bool v4)] rfl ?_))))
  exact sc_ret (gr1 (g := zg46) (ho := fun _ => []) [.bool v4] hw (.inr rfl) ws)
def hc47 : C := (.seq (.reg [oo 2 (.mv (.c (.list [] .full)))] [0]) (.seq (.seq (.reg [mo 3 0, oo 4 (.eqv false .slice 3 (.c .nilslice))] [0, 4]) (.cond 4 (.seq (.reg [oo 2 (.mv (.c (.list [] .full)))] [2]) .ret) .skip)) (.seq (.reg [oo 5 (.mklist 1 []), mo 6 0, oo 7 (.append 1 8 5 6), mo 2 7] [2]) .ret)))
def ha47 : Ann := ⟨[], [], [(0, [0]), (1, [0, 4]), (2, [2]), (3, [2])], []⟩
theorem hk47 : comp Try.prog ha47 Try.f47.ntmps Try.f47.code = some hc47 := by kernel_rfl
def w47 (p1 : List (Int)) (Q : List (Int) → Prop) : Prop :=
  ((p1.length = 0 → Q ([] : List Int)) ∧ (((([] : List Int).length + p1.length) * 8 ≤ 140737488355328) ∧ ∀ v2 : List Int, v2 = ([] : List Int) ++ p1 → Q v2))
theorem ok47 (p1 : List (Int)) (r : List (Int)) (hw : w47 p1 fun r' => r' = r) : sp47 p1 r := by
  refine zf (rs := [.t 2]) (g := zg47) Try.func47 hk47 ?_
  unfold w47 at hw
  show SC Try.prog Try.f47.ntmps 0 hc47 _ [(0, ln (eInt .i64) p1)] []
  unfold hc47
  refine q_reg (st_mv rfl (g_endq [(0, ln (eInt .i64) p1)] rfl ?_))
  refine sc_seq (q_reg (st_mv rfl (g_eqn2 rfl rfl hw (fun hw => g_endq [(0, ln (eInt .i64) p1), (4, .bool true)] rfl ?_) (fun hw => g_endq [(0, ln (eInt .i64) p1), (4, .bool false)] rfl ?_))))
  · refine s_cond_t rfl (q_reg (st_mv rfl (g_endq [(2, nl (eInt .i64))] rfl ?_)))
    exact sc_ret (sq_r (gr (g := zg47) (ho := fun _ => []) [nl (eInt .i64)] [ln (eInt .i64) ([] : List Int)] hw (.inr rfl) ws))
  · refine s_cond_f rfl (sc_skip (sq_n (q_reg (g_mkl (enc_int .i64) [] en rfl mkn (st_mv rfl (g_appf (enc_int .i64) rfl rfl (n := 0) rfl hw fun v2 hw => st_mv rfl (g_endq [(2, .list (List.map (eInt .i64) v2) (.own 0 1 1))] rfl ?_)))))))
    exact sc_ret (gr (g := zg47) (ho := fun _ => []) [.list (List.map (eInt .i64) v2) (.own 0 1 1)] [ln (eInt .i64) v2] hw (.inr rfl) (wr []))
def hc48 : C := (.seq (.reg [oo 4 (.mv (.c (.int .i64 0)))] [0, 1]) (.seq (.seq (.reg [mo 6 0, oo 7 (.len false 6), oo 8 (.mv (.c (.int .i64 0)))] [0, 1, 7, 8]) (.block 0 (.loop (.seq (.reg [oo 9 (.bin .lss 8 7)] [0, 1, 7, 8, 9]) (.seq (.cond 9 .skip (.exit 0)) (.seq (.block 1 (.seq (.reg [mo 10 8, mo 5 10] [0, 1, 5, 7, 8]) (.seq (.reg [mo 11 1, mo 12 0, mo 13 5, oo 14 (.iaddr 1 12 13), oo 15 (.load none 14), oo 16 (.eqv false .int 11 15)] [0, 1, 5, 7, 8, 16]) (.cond 16 (.seq (.reg [mo 17 5, mo 4 17] [4]) .ret) .skip)))) (.reg [oo 18 (.bin .add 8 (.c (.int .i64 1))), mo 8 18] [0, 1, 7, 8]))))))) (.seq (.reg [oo 4 (.mv (.c (.int .i64 (-1))))] [4]) .ret)))
def ha48 : Ann := ⟨[], [], [(0, [0, 1]), (1, [0, 1, 7, 8]), (2, [0, 1, 7, 8, 9]), (3, [0, 1, 5, 7, 8]), (4, [0, 1, 5, 7, 8, 16]), (5, [4]), (6, [0, 1, 7, 8]), (7, [4])], []⟩
theorem hk48 : comp Try.prog ha48 Try.f48.ntmps Try.f48.code = some hc48 := by kernel_rfl
def w48 (p1 : List (Int)) (p2 : Int) (Q : Int → Prop) : Prop :=
  ∃ (I7 : Int → Prop) (M8 : Int → Nat), I7 (0 : Int) ∧ ∀ (v3 : Int), I7 v3 → ∀ v9 : Bool, v9 = decide (v3 < (p1.length : Int)) → ((v9 = true → (0 ≤ v3 ∧ v3 < (p1.length : Int)) ∧ ∀ a10 : Int, p1[(v3 : Int).toNat]? = some a10 → ((p2 = a10 → Q v3) ∧ (p2 ≠ a10 → (R64 (v3 + (1 : Int))) ∧ ∀ v11 : Int, v11 = v3 + (1 : Int) → (I7 v11 ∧ M8 v11 < M8 v3)))) ∧ (v9 = false → Q (-1 : Int)))
theorem ok48 (p1 : List (Int)) (p2 : Int) (r : Int) (hw : w48 p1 p2 fun r' => r' = r) : sp48 p1 p2 r := by
  refine zf (rs := [.t 4]) (g := zg48) Try.func48 hk48 ?_
  unfold w48 at hw
  show SC Try.prog Try.f48.ntmps 0 hc48 _ [(0, ln (eInt .i64) p1), (1, ii p2)] []
  unfold hc48
  refine q_reg (st_mv rfl (g_endq [(0, ln (eInt .i64) p1), (1, ii p2)] rfl ?_))
  refine sc_seq (q_reg (st_mv rfl (g_len rfl (st_mv rfl (g_endq [(0, ln (eInt .i64) p1), (1, ii p2), (7, ii (p1.length : Int)), (8, ii 0)] rfl ?_)))))
  refine sc_block ?_
  obtain ⟨I7, M8, hi, hw⟩ := hw
  refine sc_loop (X := { x : Int // I7 x }) (fun x => ([(0, ln (eInt .i64) p1), (1, ii p2), (7, ii (p1.length : Int)), (8, ii x.1)], [])) (fun x => M8 x.1) ⟨(0 : Int), hi⟩ ws ?_
  rintro ⟨v3, hi2⟩
  have hw := hw v3 hi2
  clear hi
  refine q_reg (gb_cmp rfl rfl trivial rfl hw fun v9 hw => g_endq [(0, ln (eInt .i64) p1), (1, ii p2), (7, ii (p1.length : Int)), (8, ii v3), (9, .bool v9)] rfl ?_)
  refine sc_seq (s_cond rfl hw (fun hw => ?_) (fun hw => ?_))
  · refine sc_skip (sq_n (sc_seq (sc_block (q_reg (st_mv rfl (st_mv rfl (g_endq [(0, ln (eInt .i64) p1), (1, ii p2), (5, ii v3), (7, ii (p1.length : Int)), (8, ii v3)] rfl ?_)))))))
    refine q_reg (st_mv rfl (st_mv rfl (st_mv rfl (g_iaddr (enc_int .i64) rfl rfl hw fun a10 hw => st_load_r rfl rfl (g_eqi rfl rfl hw (fun hw => g_endq [(0, ln (eInt .i64) p1), (1, ii p2), (5, ii v3), (7, ii (p1.length : Int)), (8, ii v3), (16, .bool true)] rfl ?_) (fun hw => g_endq [(0, ln (eInt .i64) p1), (1, ii p2), (5, ii v3), (7, ii (p1.length : Int)), (8, ii v3), (16, .bool false)] rfl ?_))))))
    · refine s_cond_t rfl (q_reg (st_mv rfl (st_mv rfl (g_endq [(4, ii v3)] rfl ?_))))
      exact sc_ret (bl_r (sq_r (lo_r (bl_r (sq_r (gr1 (g := zg48) (ho := fun _ => []) [ii v3] hw (.inr rfl) ws))))))
    · refine s_cond_f rfl (sc_skip (bl_n (sq_n (s_reg (g_add rfl rfl hw fun v11 hw => st_mv rfl (g_end [(0, ln (eInt .i64) p1), (1, ii p2), (7, ii (p1.length : Int)), (8, ii v11)] rfl ?_))))))
      exact lo_n ⟨v11, hw.1⟩ hw.2 ws
  · refine sc_exit (sq_x (lo_x (bl_x (sq_n (q_reg (st_mv rfl (g_endq [(4, ii (-1 : Int))] rfl ?_)))))))
    exact sc_ret (gr1 (g := zg48) (ho := fun _ => []) [ii (-1 : Int)] hw (.inr rfl) ws)
def hc63 : C := (.seq (.reg [oo 4 (.mv (.c (.int .i64 0)))] [0, 1]) (.seq (.seq (.reg [mo 6 0, oo 7 (.len false 6), oo 8 (.mv (.c (.int .i64 0)))] [0, 1, 7, 8]) (.block 0 (.loop (.seq (.reg [oo 9 (.bin .lss 8 7)] [0, 1, 7, 8, 9]) (.seq (.cond 9 .skip (.exit 0)) (.seq (.block 1 (.seq (.reg [mo 10 8, mo 5 10] [0, 1, 5, 7, 8]) (.seq (.reg [mo 11 1, mo 12 0, mo 13 5, oo 14 (.iaddr 1 12 13), oo 15 (.load none 14), oo 16 (.eqv false .bool 11 15)] [0, 1, 5, 7, 8, 16]) (.cond 16 (.seq (.reg [mo 17 5, mo 4 17] [4]) .ret) .skip)))) (.reg [oo 18 (.bin .add 8 (.c (.int .i64 1))), mo 8 18] [0, 1, 7, 8]))))))) (.seq (.reg [oo 4 (.mv (.c (.int .i64 (-1))))] [4]) .ret)))
def ha63 : Ann := ⟨[], [], [(0, [0, 1]), (1, [0, 1, 7, 8]), (2, [0, 1, 7, 8, 9]), (3, [0, 1, 5, 7, 8]), (4, [0, 1, 5, 7, 8, 16]), (5, [4]), (6, [0, 1, 7, 8]), (7, [4])], []⟩
theorem hk63 : comp Try.prog ha63 Try.f63.ntmps Try.f63.code = some hc63 := by kernel_rfl
def w63 (p1 : List (Bool)) (p2 : Bool) (Q : Int → Prop) : Prop :=
  ∃ (I8 : Int → Prop) (M9 : Int → Nat), I8 (0 : Int) ∧ ∀ (v3 : Int), I8 v3 → ∀ v10 : Bool, v10 = decide (v3 < (p1.length : Int)) → ((v10 = true → (0 ≤ v3 ∧ v3 < (p1.length : Int)) ∧ ∀ a11 : Bool, p1[(v3 : Int).toNat]? = some a11 → ∀ v12 : Bool, v12 = (if false then !(p2 == a11) else (p2 == a11)) → ((v12 = true → Q v3) ∧ (v12 = false → (R64 (v3 + (1 : Int))) ∧ ∀ v13 : Int, v13 = v3 + (1 : Int) → (I8 v13 ∧ M9 v13 < M9 v3)))) ∧ (v10 = false → Q (-1 : Int)))
theorem ok63 (p1 : List (Bool)) (p2 : Bool) (r : Int) (hw : w63 p1 p2 fun r' => r' = r) : sp63 p1 p2 r := by
  refine zf (rs := [.t 4]) (g := zg63) Try.func63 hk63 ?_
  unfold w63 at hw
  show SC Try.prog Try.f63.ntmps 0 hc63 _ [(0, ln eBool p1), (1, .bool p2)] []
  unfold hc63
  refine q_reg (st_mv rfl (g_endq [(0, ln eBool p1), (1, .bool p2)] rfl ?_))
  refine sc_seq (q_reg (st_mv rfl (g_len rfl (st_mv rfl (g_endq [(0, ln eBool p1), (1, .bool p2), (7, ii (p1.length : Int)), (8, ii 0)] rfl ?_)))))
  refine sc_block ?_
  obtain ⟨I8, M9, hi, hw⟩ := hw
  refine sc_loop (X := { x : Int // I8 x }) (fun x => ([(0, ln eBool p1), (1, .bool p2), (7, ii (p1.length : Int)), (8, ii x.1)], [])) (fun x => M9 x.1) ⟨(0 : Int), hi⟩ ws ?_
  rintro ⟨v3, hi2⟩
  have hw := hw v3 hi2
  clear hi
  refine q_reg (gb_cmp rfl rfl trivial rfl hw fun v10 hw => g_endq [(0, ln eBool p1), (1, .bool p2), (7, ii (p1.length : Int)), (8, ii v3), (9, .bool v10)] rfl ?_)
  refine sc_seq (s_cond rfl hw (fun hw => ?_) (fun hw => ?_))
  · refine sc_skip (sq_n (sc_seq (sc_block (q_reg (st_mv rfl (st_mv rfl (g_endq [(0, ln eBool p1), (1, .bool p2), (5, ii v3), (7, ii (p1.length : Int)), (8, ii v3)] rfl ?_)))))))
    refine q_reg (st_mv rfl (st_mv rfl (st_mv rfl (g_iaddr enc_bool rfl rfl hw fun a11 hw => st_load_r rfl rfl (gb_eqb rfl rfl hw fun v12 hw => g_endq [(0, ln eBool p1), (1, .bool p2), (5, ii v3), (7, ii (p1.length : Int)), (8, ii v3), (16, .bool v12)] rfl ?_)))))
    refine s_cond rfl hw (fun hw => ?_) (fun hw => ?_)
    · refine q_reg (st_mv rfl (st_mv rfl (g_endq [(4, ii v3)] rfl ?_)))
      exact sc_ret (bl_r (sq_r (lo_r (bl_r (sq_r (gr1 (g := zg63) (ho := fun _ => []) [ii v3] hw (.inr rfl) ws))))))
    · refine sc_skip (bl_n (sq_n (s_reg (g_add rfl rfl hw fun v13 hw => st_mv rfl (g_end [(0, ln eBool p1), (1, .bool p2), (7, ii (p1.length : Int)), (8, ii v13)] rfl ?_)))))
      exact lo_n ⟨v13, hw.1⟩ hw.2 ws
  · refine sc_exit (sq_x (lo_x (bl_x (sq_n (q_reg (st_mv rfl (g_endq [(4, ii (-1 : Int))] rfl ?_)))))))
    exact sc_ret (gr1 (g := zg63) (ho := fun _ => []) [ii (-1 : Int)] hw (.inr rfl) ws)
def hc50 : C := (.seq (.reg [oo 4 (.mv (.c (.bool false)))] [0, 1]) (.seq (.reg [mo 5 0, mo 6 1, co 7 (.call 63 [5, 6]), oo 8 (.bin .geq 7 (.c (.int .i64 0))), mo 4 8] [4]) .ret))
def ha50 : Ann := ⟨[], [], [(0, [0, 1]), (1, [4])], []⟩
theorem hk50 : comp Try.prog ha50 Try.f50.ntmps Try.f50.code = some hc50 := by kernel_rfl
def w50 (p1 : List (Bool)) (p2 : Bool) (Q : Bool → Prop) : Prop :=
  ∃ r3 : Int, sp63 p1 p2 r3 ∧ ∀ v4 : Bool, v4 = decide (r3 ≥ (0 : Int)) → Q v4
theorem ok50 (p1 : List (Bool)) (p2 : Bool) (r : Bool) (hw : w50 p1 p2 fun r' => r' = r) : sp50 p1 p2 r := by
  refine zf (rs := [.t 4]) (g := zg50) Try.func50 hk50 ?_
  unfold w50 at hw
  show SC Try.prog Try.f50.ntmps 0 hc50 _ [(0, ln eBool p1), (1, .bool p2)] []
  unfold hc50
  refine q_reg (st_mv rfl (g_endq [(0, ln eBool p1), (1, .bool p2)] rfl ?_))
  refine q_reg (st_mv rfl (st_mv rfl (k_call dh (ec rfl (ec rfl en)) rfl hw fun r3 hw => gb_cmp rfl rfl trivial rfl hw fun v4 hw => st_mv rfl (g_endq [(4, .bool v4)] rfl ?_))))
  exact sc_ret (gr1 (g := zg50) (ho := fun _ => []) [.bool v4] hw (.inr rfl) ws)
end Go.Hw.VK

