import Derived.Test.YtonoaimefgodfaaHwF2
import Derived.Test.YtonoaimefgodfaaHwNest
import Derived.Test.YtonoaimefgodfaaProg
set_option linter.unusedVariables false
set_option linter.unusedSimpArgs false
namespace Go.Hw.VM
open Go Go.Proofs
theorem _root_.Go.Proofs.Try.mixed : Try.prog.follows .mixedOrders = true := by kernel_rfl
structure GMove_Deed where
  Kind : Int
  From : Int
  To : Int
  Who : Int
  N : Int
  deriving DecidableEq
def eGMove_Deed (a : GMove_Deed) : HV := .agg [ii a.Kind, ii a.From, ii a.To, ii a.Who, ii a.N]
theorem enc_GMove_Deed : Enc eGMove_Deed 5 := ⟨fun a => (pvc (.int _ _) (pvc (.int _ _) (pvc (.int _ _) (pvc (.int _ _) (pvc (.int _ _) pvn))))), fun _ => rfl, fun _ => rfl, fun _ => rfl⟩
instance : EncC eGMove_Deed 5 := ⟨enc_GMove_Deed⟩
instance (a : GMove_Deed) : PVi (eGMove_Deed a) := ⟨enc_GMove_Deed.all a⟩
instance (a : GMove_Deed) : PVl (eGMove_Deed a).cells := ⟨enc_GMove_Deed.pv a⟩
structure GMove_Got where
  From : Int
  N : Int
  deriving DecidableEq
def eGMove_Got (a : GMove_Got) : HV := .agg [ii a.From, ii a.N]
theorem enc_GMove_Got : Enc eGMove_Got 2 := ⟨fun a => (pvc (.int _ _) (pvc (.int _ _) pvn)), fun _ => rfl, fun _ => rfl, fun _ => rfl⟩
instance : EncC eGMove_Got 2 := ⟨enc_GMove_Got⟩
instance (a : GMove_Got) : PVi (eGMove_Got a) := ⟨enc_GMove_Got.all a⟩
instance (a : GMove_Got) : PVl (eGMove_Got a).cells := ⟨enc_GMove_Got.pv a⟩
theorem enck_GMove_Got : EncK eGMove_Got (.agg [.i, .i]) := fun a c => by
  obtain ⟨a0, a1⟩ := a
  obtain ⟨c0, c1⟩ := c
  simp [keq, eqCells, Sc.eq, eGMove_Got, Bool.beq_eq_decide_eq]
structure GMove_Told where
  Got : List (List (GMove_Got))
  At : List (Int)
  Ways : Int
  Waits : Int
  deriving DecidableEq
def eGMove_Told (a : GMove_Told) : HV := .agg [ln (eLst eGMove_Got) a.Got, ln (eInt .i64) a.At, ii a.Ways, ii a.Waits]
theorem enc_GMove_Told : Enc eGMove_Told 4 := ⟨fun a => (pvc (pv_lst (enc_lst enc_GMove_Got) _ _ (by simp)) (pvc (pv_lst (enc_int .i64) _ _ (by simp)) (pvc (.int _ _) (pvc (.int _ _) pvn)))), fun _ => rfl, fun _ => rfl, fun _ => rfl⟩
instance : EncC eGMove_Told 4 := ⟨enc_GMove_Told⟩
instance (a : GMove_Told) : PVi (eGMove_Told a) := ⟨enc_GMove_Told.all a⟩
instance (a : GMove_Told) : PVl (eGMove_Told a).cells := ⟨enc_GMove_Told.pv a⟩
@[reducible] def zg10 (r : Bool) : HV := .bool r
abbrev sp10 (p3 : Int) (p4 : List (Int)) (p5 : List (GMove_Deed)) (p6 : Int) (r : Bool) : Prop := PCall Try.prog 10 [ii p3, ln (eInt .i64) p4, ln eGMove_Deed p5, ii p6] (zg10 r)
@[reducible] def zg17 (r : Int) : HV := ii r
abbrev sp17 (p7 : Int) (p8 : Int) (r : Int) : Prop := PCall Try.prog 17 [ii p7, ii p8] (zg17 r)
@[reducible] def zg32 (r : Int × List (Int) × List (GMove_Deed)) : HV := .tuple [ii r.1, ln (eInt .i64) r.2.1, ln eGMove_Deed r.2.2]
abbrev sp32 (p11 : Int) (p12 : List (Int)) (p13 : List (GMove_Deed)) (p14 : Int) (r : Int × List (Int) × List (GMove_Deed)) : Prop := PCall Try.prog 32 [ii p11, ln (eInt .i64) p12, ln eGMove_Deed p13, ii p14] (zg32 r)
@[reducible] def zg33 (r : GMove_Told × Int) : HV := .tuple [eGMove_Told r.1, ii r.2]
abbrev sp33 (p15 : Int) (p16 : List (Int)) (p17 : List (GMove_Deed)) (r : GMove_Told × Int) : Prop := PCall Try.prog 33 [ii p15, ln (eInt .i64) p16, ln eGMove_Deed p17] (zg33 r)
@[reducible] def zg34 (r : Bool) : HV := .bool r
abbrev sp34 (r : Bool) : Prop := PCall Try.prog 34 [] (zg34 r)
@[reducible] def zg36 (r : Bool) : HV := .bool r
abbrev sp36 (p20 : List (GMove_Got)) (p21 : List (GMove_Got)) (r : Bool) : Prop := PCall Try.prog 36 [ln eGMove_Got p20, ln eGMove_Got p21] (zg36 r)
@[reducible] def zg73 (r : List (GMove_Got)) : HV := ln eGMove_Got r
abbrev sp73 (p23 : List (GMove_Got)) (r : List (GMove_Got)) : Prop := PCall Try.prog 73 [ln eGMove_Got p23] (zg73 r)
def hc10 : C := (.seq (.reg [oo 8 (.mv (.c (.bool false)))] [0, 1, 2, 3]) (.seq (.reg [mo 19 0, mo 20 1, mo 21 2, co 22 (.call 32 [19, 20, 21, (.c (.int .i64 150))]), mo 18 22, oo 23 (.extract 18 0), oo 24 (.extract 18 1), oo 25 (.extract 18 2), mo 9 23, mo 10 24, mo 11 25] [3, 9, 10, 11]) (.seq (.reg [mo 27 9, mo 28 10, mo 29 11, mo 30 3, mo 31 11, oo 32 (.len false 31), oo 33 (.bin .add 32 (.c (.int .i64 1))), co 34 (.call 17 [30, 33]), oo 35 (.slice 5 29 none (some 34) none), co 36 (.call 33 [27, 28, 35]), mo 26 36, oo 37 (.extract 26 0), oo 38 (.extract 26 1), oo 12 (.alloc none [(.list [] .full), (.list [] .full), (.int .i64 0), (.int .i64 0)]), os (.store 4 12 37), mo 13 38] [9, 10, 11, 12, 13]) (.seq (.reg [mo 40 9, mo 41 10, mo 42 11, co 43 (.call 33 [40, 41, 42]), mo 39 43, oo 44 (.extract 39 0), oo 45 (.extract 39 1), oo 14 (.alloc none [(.list [] .full), (.list [] .full), (.int .i64 0), (.int .i64 0)]), os (.store 4 14 44), mo 15 45] [10, 12, 13, 14, 15]) (.seq (.seq (.reg [co 46 (.call 34 []), oo 47 (.un .not 46), mo 48 47, og 49 (.mv 13) 48 false, og 50 (.eqv true .int 49 (.c (.int .i64 0))) 48 false, oo 51 (.pick 48 (.c (.bool true)) 50), mo 52 51, og 53 (.mv 15) 52 false, og 54 (.eqv true .int 53 (.c (.int .i64 0))) 52 false, oo 55 (.pick 52 (.c (.bool true)) 54), mo 56 55, og 57 (.faddr 0 1 12) 56 false, og 58 (.load none 57) 56 false, og 59 (.len false 58) 56 false, og 60 (.mv 10) 56 false, og 61 (.len false 60) 56 false, og 62 (.eqv true .int 59 61) 56 false, oo 63 (.pick 56 (.c (.bool true)) 62), mo 64 63, og 65 (.faddr 0 1 14) 64 false, og 66 (.load none 65) 64 false, og 67 (.len false 66) 64 false, og 68 (.mv 10) 64 false, og 69 (.len false 68) 64 false, og 70 (.eqv true .int 67 69) 64 false, oo 71 (.pick 64 (.c (.bool true)) 70)] [12, 14, 71]) (.cond 71 (.seq (.reg [oo 8 (.mv (.c (.bool false)))] [8]) .ret) .skip)) (.seq (.seq (.reg [oo 72 (.faddr 0 1 12), oo 73 (.load none 72), oo 74 (.len false 73), oo 75 (.mv (.c (.int .i64 0)))] [14, 73, 74, 75]) (.block 0 (.loop (.seq (.reg [oo 76 (.bin .lss 75 74)] [14, 73, 74, 75, 76]) (.seq (.cond 76 .skip (.exit 0)) (.seq (.block 1 (.seq (.reg [mo 77 75, oo 78 (.iaddr 1 73 75), oo 79 (.load none 78), mo 16 77, mo 17 79] [14, 16, 17, 73, 74, 75]) (.seq (.reg [mo 80 17, oo 81 (.len false 80), oo 82 (.faddr 0 1 14), oo 83 (.load none 82), mo 84 16, oo 85 (.iaddr 1 83 84), oo 86 (.load none 85), oo 87 (.len false 86), oo 88 (.bin .gtr 81 87), mo 89 88, og 90 (.mv 17) 89 false, og 91 (.faddr 0 1 14) 89 false, og 92 (.load none 91) 89 false, og 93 (.mv 16) 89 false, og 94 (.iaddr 1 92 93) 89 false, og 95 (.load none 94) 89 false, og 96 (.mv 17) 89 false, og 97 (.len false 96) 89 false, og 98 (.slice 2 95 none (some 97) none) 89 false, cg 99 (.call 36 [90, 98]) 89 false, og 100 (.un .not 99) 89 false, oo 101 (.pick 89 (.c (.bool true)) 100)] [14, 73, 74, 75, 101]) (.cond 101 (.seq (.reg [oo 8 (.mv (.c (.bool false)))] [8]) .ret) .skip)))) (.reg [oo 102 (.bin .add 75 (.c (.int .i64 1))), mo 75 102] [14, 73, 74, 75]))))))) (.seq (.reg [oo 8 (.mv (.c (.bool true)))] [8]) .ret)))))))
def ha10 : Ann := ⟨[], [], [(0, [0, 1, 2, 3]), (1, [3, 9, 10, 11]), (2, [9, 10, 11, 12, 13]), (3, [10, 12, 13, 14, 15]), (4, [12, 14, 71]), (5, [8]), (6, [14, 73, 74, 75]), (7, [14, 73, 74, 75, 76]), (8, [14, 16, 17, 73, 74, 75]), (9, [14, 73, 74, 75, 101]), (10, [8]), (11, [14, 73, 74, 75]), (12, [8])], []⟩
theorem hk10 : comp Try.prog ha10 Try.f10.ntmps Try.f10.code = some hc10 := by kernel_rfl
def w10 (p1 : Int) (p2 : List (Int)) (p3 : List (GMove_Deed)) (p4 : Int) (Q : Bool → Prop) : Prop :=
  ∃ r5 : Int × List (Int) × List (GMove_Deed), sp32 p1 p2 p3 (150 : Int) r5 ∧ (R64 ((r5.2.2.length : Int) + (1 : Int))) ∧ ∀ v6 : Int, v6 = (r5.2.2.length : Int) + (1 : Int) → ∃ r7 : Int, sp17 p4 v6 r7 ∧ (0 ≤ (0 : Int) ∧ (0 : Int) ≤ r7 ∧ r7 ≤ (r5.2.2.length : Int)) ∧ ∀ v8 : List GMove_Deed, v8 = (r5.2.2.take (r7 : Int).toNat).drop ((0 : Int) : Int).toNat → ∃ r9 : GMove_Told × Int, sp33 r5.1 r5.2.1 v8 r9 ∧ ∃ r10 : GMove_Told × Int, sp33 r5.1 r5.2.1 r5.2.2 r10 ∧ ∃ r11 : Bool, sp34 r11 ∧ (((!r11) = true → Q false) ∧ ((!r11) = false → ((r9.2 ≠ (0 : Int) → Q false) ∧ (r9.2 = (0 : Int) → ((r10.2 ≠ (0 : Int) → Q false) ∧ (r10.2 = (0 : Int) → (((r9.1.Got.length : Int) ≠ (r5.2.1.length : Int) → Q false) ∧ ((r9.1.Got.length : Int) = (r5.2.1.length : Int) → (((r10.1.Got.length : Int) ≠ (r5.2.1.length : Int) → Q false) ∧ ((r10.1.Got.length : Int) = (r5.2.1.length : Int) → ∃ (I20 : Int → Prop) (M21 : Int → Nat), I20 (0 : Int) ∧ ∀ (v12 : Int), I20 v12 → ∀ v22 : Bool, v22 = decide (v12 < (r9.1.Got.length : Int)) → ((v22 = true → (0 ≤ v12 ∧ v12 < (r9.1.Got.length : Int)) ∧ ∀ a23 : List (GMove_Got), r9.1.Got[(v12 : Int).toNat]? = some a23 → (0 ≤ v12 ∧ v12 < (r10.1.Got.length : Int)) ∧ ∀ a24 : List (GMove_Got), r10.1.Got[(v12 : Int).toNat]? = some a24 → (((a24.length : Int) < (a23.length : Int) → Q false) ∧ ((a23.length : Int) ≤ (a24.length : Int) → (0 ≤ v12 ∧ v12 < (r10.1.Got.length : Int)) ∧ ∀ a25 : List (GMove_Got), r10.1.Got[(v12 : Int).toNat]? = some a25 → (0 ≤ (0 : Int) ∧ (0 : Int) ≤ (a23.length : Int) ∧ (a23.length : Int) ≤ (a25.length : Int)) ∧ ∀ v26 : List GMove_Got, v26 = (a25.take ((a23.length : Int) : Int).toNat).drop ((0 : Int) : Int).toNat → ∃ r27 : Bool, sp36 a23 v26 r27 ∧ (((!r27) = true → Q false) ∧ ((!r27) = false → (R64 (v12 + (1 : Int))) ∧ ∀ v28 : Int, v28 = v12 + (1 : Int) → (I20 v28 ∧ M21 v28 < M21 v12)))))) ∧ (v22 = false → Q true))))))))))))
theorem ok10 (p1 : Int) (p2 : List (Int)) (p3 : List (GMove_Deed)) (p4 : Int) (r : Bool) (hw : w10 p1 p2 p3 p4 fun r' => r' = r) : sp10 p1 p2 p3 p4 r := by
  refine zf (rs := [.t 8]) (g := zg10) Try.func10 hk10 ?_
  unfold w10 at hw
  show SC Try.prog Try.f10.ntmps 0 hc10 _ [(0, ii p1), (1, ln (eInt .i64) p2), (2, ln eGMove_Deed p3), (3, ii p4)] []
  unfold hc10
  refine q_reg (st_mv rfl (g_endq [(0, ii p1), (1, ln (eInt .i64) p2), (2, ln eGMove_Deed p3), (3, ii p4)] rfl ?_))
  refine q_reg (st_mv rfl (st_mv rfl (st_mv rfl (k_call dh (ec rfl (ec rfl (ec rfl (ec rfl en)))) rfl hw fun r5 hw => st_mv rfl (st_extract rfl rfl (st_extract rfl rfl (st_extract rfl rfl (st_mv rfl (st_mv rfl (st_mv rfl (g_endq [(3, ii p4), (9, ii r5.1), (10, ln (eInt .i64) r5.2.1), (11, ln eGMove_Deed r5.2.2)] rfl ?_)))))))))))
  refine q_reg (st_mv rfl (st_mv rfl (st_mv rfl (st_mv rfl (st_mv rfl (g_len rfl (g_add rfl rfl hw fun v6 hw => k_call dh (ec rfl (ec rfl en)) rfl hw fun r7 hw => g_slice enc_GMove_Deed rfl bnd_none (bnd_some rfl) hw fun v8 hw => k_call dh (ec rfl (ec rfl (ec rfl en))) rfl hw fun r9 hw => st_mv rfl (st_extract rfl rfl (st_extract rfl rfl (g_alloc (n := 0) rfl rfl (g_sp (v := eGMove_Told r9.1) (h' := [.cells (HV.cells (eGMove_Told r9.1))]) rfl rfl rfl (st_mv rfl (g_endq [(9, ii r5.1), (10, ln (eInt .i64) r5.2.1), (11, ln eGMove_Deed r5.2.2), (12, .ptr 0 0), (13, ii r9.2)] rfl ?_)))))))))))))
  refine q_reg (st_mv rfl (st_mv rfl (st_mv rfl (k_call dh (ec rfl (ec rfl (ec rfl en))) rfl hw fun r10 hw => st_mv rfl (st_extract rfl rfl (st_extract rfl rfl (g_alloc (n := 1) rfl rfl (g_sp (v := eGMove_Told r10.1) (h' := [.cells (HV.cells (eGMove_Told r9.1)), .cells (HV.cells (eGMove_Told r10.1))]) rfl rfl rfl (st_mv rfl (g_endq [(10, ln (eInt .i64) r5.2.1), (12, .ptr 0 0), (13, ii r9.2), (14, .ptr 1 0), (15, ii r10.2)] rfl ?_))))))))))
  refine sc_seq (q_reg (k_call dh en rfl hw fun r11 hw => st_not rfl (st_mv rfl (g_split rfl hw ?_ ?_))))
  · intro c hw
    rw [c]
    refine st_gtf rfl (st_gtf rfl (st_pick_t rfl rfl rfl (st_mv rfl (st_gtf rfl (st_gtf rfl (st_pick_t rfl rfl rfl (st_mv rfl (st_gtf rfl (st_gtf rfl (st_gtf rfl (st_gtf rfl (st_gtf rfl (st_gtf rfl (st_pick_t rfl rfl rfl (st_mv rfl (st_gtf rfl (st_gtf rfl (st_gtf rfl (st_gtf rfl (st_gtf rfl (st_gtf rfl (st_pick_t rfl rfl rfl (g_endq [(12, .ptr 0 0), (14, .ptr 1 0), (71, .bool true)] rfl ?_)))))))))))))))))))))))
    refine s_cond_t rfl (q_reg (st_mv rfl (g_endq [(8, .bool false)] rfl ?_)))
    exact sc_ret (sq_r (gr1 (g := zg10) (ho := fun _ => []) [.bool false] hw (.inr rfl) (wr [])))
  · intro c hw
    rw [c]
    refine st_g rfl (st_mv rfl (st_g rfl (g_nei rfl rfl hw (fun hw => st_pick_f rfl rfl rfl (st_mv rfl (st_gtf rfl (st_gtf rfl (st_pick_t rfl rfl rfl (st_mv rfl (st_gtf rfl (st_gtf rfl (st_gtf rfl (st_gtf rfl (st_gtf rfl (st_gtf rfl (st_pick_t rfl rfl rfl (st_mv rfl (st_gtf rfl (st_gtf rfl (st_gtf rfl (st_gtf rfl (st_gtf rfl (st_gtf rfl (st_pick_t rfl rfl rfl (g_endq [(12, .ptr 0 0), (14, .ptr 1 0), (71, .bool true)] rfl ?_)))))))))))))))))))))) (fun hw => st_pick_f rfl rfl rfl (st_mv rfl (st_g rfl (st_mv rfl (st_g rfl (g_nei rfl rfl hw (fun hw => st_pick_f rfl rfl rfl (st_mv rfl (st_gtf rfl (st_gtf rfl (st_gtf rfl (st_gtf rfl (st_gtf rfl (st_gtf rfl (st_pick_t rfl rfl rfl (st_mv rfl (st_gtf rfl (st_gtf rfl (st_gtf rfl (st_gtf rfl (st_gtf rfl (st_gtf rfl (st_pick_t rfl rfl rfl (g_endq [(12, .ptr 0 0), (14, .ptr 1 0), (71, .bool true)] rfl ?_)))))))))))))))))) (fun hw => st_pick_f rfl rfl rfl (st_mv rfl (st_g rfl (g_faddr_p rfl (st_g rfl (g_load_p rfl rfl rfl (st_g rfl (g_len rfl (st_g rfl (st_mv rfl (st_g rfl (g_len rfl (st_g rfl (g_nei rfl rfl hw (fun hw => st_pick_f rfl rfl rfl (st_mv rfl (st_gtf rfl (st_gtf rfl (st_gtf rfl (st_gtf rfl (st_gtf rfl (st_gtf rfl (st_pick_t rfl rfl rfl (g_endq [(12, .ptr 0 0), (14, .ptr 1 0), (71, .bool true)] rfl ?_)))))))))) (fun hw => st_pick_f rfl rfl rfl (st_mv rfl (st_g rfl (g_faddr_p rfl (st_g rfl (g_load_p rfl rfl rfl (st_g rfl (g_len rfl (st_g rfl (st_mv rfl (st_g rfl (g_len rfl (st_g rfl (g_nei rfl rfl hw (fun hw => st_pick_f rfl rfl rfl (g_endq [(12, .ptr 0 0), (14, .ptr 1 0), (71, .bool true)] rfl ?_)) (fun hw => st_pick_f rfl rfl rfl (g_endq [(12, .ptr 0 0), (14, .ptr 1 0), (71, .bool false)] rfl ?_)))))))))))))))))))))))))))))))))))))))
    · refine s_cond_t rfl (q_reg (st_mv rfl (g_endq [(8, .bool false)] rfl ?_)))
      exact sc_ret (sq_r (gr1 (g := zg10) (ho := fun _ => []) [.bool false] hw (.inr rfl) (wr [])))
    · refine s_cond_t rfl (q_reg (st_mv rfl (g_endq [(8, .bool false)] rfl ?_)))
      exact sc_ret (sq_r (gr1 (g := zg10) (ho := fun _ => []) [.bool false] hw (.inr rfl) (wr [])))
    · refine s_cond_t rfl (q_reg (st_mv rfl (g_endq [(8, .bool false)] rfl ?_)))
      exact sc_ret (sq_r (gr1 (g := zg10) (ho := fun _ => []) [.bool false] hw (.inr rfl) (wr [])))
    · refine s_cond_t rfl (q_reg (st_mv rfl (g_endq [(8, .bool false)] rfl ?_)))
      exact sc_ret (sq_r (gr1 (g := zg10) (ho := fun _ => []) [.bool false] hw (.inr rfl) (wr [])))
    · refine s_cond_f rfl (sc_skip (sq_n (sc_seq (q_reg (g_faddr_p rfl (g_load_p rfl rfl rfl (g_len rfl (st_mv rfl (g_endq [(14, .ptr 1 0), (73, ln (eLst eGMove_Got) r9.1.Got), (74, ii (r9.1.Got.length : Int)), (75, ii 0)] rfl ?_)))))))))
      refine sc_block ?_
      obtain ⟨I20, M21, hi, hw⟩ := hw
      refine sc_loop (X := { x : Int // I20 x }) (fun x => ([(14, .ptr 0 0), (73, ln (eLst eGMove_Got) r9.1.Got), (74, ii (r9.1.Got.length : Int)), (75, ii x.1)], [.cells (HV.cells (eGMove_Told r10.1))])) (fun x => M21 x.1) ⟨(0 : Int), hi⟩ (wr [1]) ?_
      rintro ⟨v12, hi2⟩
      have hw := hw v12 hi2
      clear hi
      refine q_reg (gb_cmp rfl rfl trivial rfl hw fun v22 hw => g_endq [(14, .ptr 0 0), (73, ln (eLst eGMove_Got) r9.1.Got), (74, ii (r9.1.Got.length : Int)), (75, ii v12), (76, .bool v22)] rfl ?_)
      refine sc_seq (s_cond rfl hw (fun hw => ?_) (fun hw => ?_))
      · refine sc_skip (sq_n (sc_seq (sc_block (q_reg (st_mv rfl (g_iaddr (enc_lst enc_GMove_Got) rfl rfl hw fun a23 hw => st_load_r rfl rfl (st_mv rfl (st_mv rfl (g_endq [(14, .ptr 0 0), (16, ii v12), (17, ln eGMove_Got a23), (73, ln (eLst eGMove_Got) r9.1.Got), (74, ii (r9.1.Got.length : Int)), (75, ii v12)] rfl ?_)))))))))
        refine q_reg (st_mv rfl (g_len rfl (g_faddr_p rfl (g_load_p rfl rfl rfl (st_mv rfl (g_iaddr (enc_lst enc_GMove_Got) rfl rfl hw fun a24 hw => st_load_r rfl rfl (g_len rfl (g_gtr rfl rfl hw (fun hw => st_mv rfl (st_gtf rfl (st_gtf rfl (st_gtf rfl (st_gtf rfl (st_gtf rfl (st_gtf rfl (st_gtf rfl (st_gtf rfl (st_gtf rfl (st_gtf rfl (st_gtf rfl (st_pick_t rfl rfl rfl (g_endq [(14, .ptr 0 0), (73, ln (eLst eGMove_Got) r9.1.Got), (74, ii (r9.1.Got.length : Int)), (75, ii v12), (101, .bool true)] rfl ?_)))))))))))))) (fun hw => st_mv rfl (st_g rfl (st_mv rfl (st_g rfl (g_faddr_p rfl (st_g rfl (g_load_p rfl rfl rfl (st_g rfl (st_mv rfl (st_g rfl (g_iaddr (enc_lst enc_GMove_Got) rfl rfl hw fun a25 hw => st_g rfl (st_load_r rfl rfl (st_g rfl (st_mv rfl (st_g rfl (g_len rfl (st_g rfl (g_slice enc_GMove_Got rfl bnd_none (bnd_some rfl) hw fun v26 hw => st_g rfl (k_call dh (ec rfl (ec rfl en)) rfl hw fun r27 hw => st_g rfl (st_not rfl (st_pick_f rfl rfl rfl (g_endq [(14, .ptr 0 0), (73, ln (eLst eGMove_Got) r9.1.Got), (74, ii (r9.1.Got.length : Int)), (75, ii v12), (101, .bool (!r27))] rfl ?_))))))))))))))))))))))))))))))
        · refine s_cond_t rfl (q_reg (st_mv rfl (g_endq [(8, .bool false)] rfl ?_)))
          exact sc_ret (bl_r (sq_r (lo_r (bl_r (sq_r (gr1 (g := zg10) (ho := fun _ => []) [.bool false] hw (.inr rfl) (wr [])))))))
        · refine s_cond rfl hw (fun hw => ?_) (fun hw => ?_)
          · refine q_reg (st_mv rfl (g_endq [(8, .bool false)] rfl ?_))
            exact sc_ret (bl_r (sq_r (lo_r (bl_r (sq_r (gr1 (g := zg10) (ho := fun _ => []) [.bool false] hw (.inr rfl) (wr [])))))))
          · refine sc_skip (bl_n (sq_n (s_reg (g_add rfl rfl hw fun v28 hw => st_mv rfl (g_end [(14, .ptr 0 0), (73, ln (eLst eGMove_Got) r9.1.Got), (74, ii (r9.1.Got.length : Int)), (75, ii v28)] rfl ?_)))))
            exact lo_n ⟨v28, hw.1⟩ hw.2 ws
      · refine sc_exit (sq_x (lo_x (bl_x (sq_n (q_reg (st_mv rfl (g_endq [(8, .bool true)] rfl ?_)))))))
        exact sc_ret (gr1 (g := zg10) (ho := fun _ => []) [.bool true] hw (.inr rfl) (wr []))
def hc17 : C := (.seq (.reg [oo 4 (.mv (.c (.int .i64 0)))] [0, 1]) (.seq (.seq (.reg [mo 5 0, oo 6 (.bin .lss 5 (.c (.int .i64 0)))] [0, 1, 6]) (.cond 6 (.reg [mo 7 0, oo 8 (.bin .add 7 (.c (.int .i64 1))), oo 9 (.un .neg 8), mo 0 9] [0, 1]) .skip)) (.seq (.reg [mo 10 0, mo 11 1, oo 12 (.bin .rem 10 11), mo 4 12] [4]) .ret)))
def ha17 : Ann := ⟨[], [], [(0, [0, 1]), (1, [0, 1, 6]), (2, [0, 1]), (3, [4])], []⟩
theorem hk17 : comp Try.prog ha17 Try.f17.ntmps Try.f17.code = some hc17 := by kernel_rfl
def w17 (p1 : Int) (p2 : Int) (Q : Int → Prop) : Prop :=
  ∃ J4 : Int → Prop, (((p1 < (0 : Int) → (R64 (p1 + (1 : Int))) ∧ ∀ v5 : Int, v5 = p1 + (1 : Int) → (-9223372036854775807 ≤ v5 ∧ v5 ≤ 9223372036854775807) ∧ ∀ v6 : Int, v6 = -(v5) → J4 v6) ∧ ((0 : Int) ≤ p1 → J4 p1))) ∧ ∀ (v3 : Int), J4 v3 → (p2 ≠ 0) ∧ ∀ v7 : Int, v7 = (v3).tmod p2 → Q v7
theorem ok17 (p1 : Int) (p2 : Int) (r : Int) (hw : w17 p1 p2 fun r' => r' = r) : sp17 p1 p2 r := by
  refine zf (rs := [.t 4]) (g := zg17) Try.func17 hk17 ?_
  unfold w17 at hw
  show SC Try.prog Try.f17.ntmps 0 hc17 _ [(0, ii p1), (1, ii p2)] []
  unfold hc17
  refine q_reg (st_mv rfl (g_endq [(0, ii p1), (1, ii p2)] rfl ?_))
  obtain ⟨J4, hw, hk⟩ := hw
  refine sc_join (A := Int) (fun x => J4 x) (fun x => ([(0, ii x), (1, ii p2)], [])) ?_ ?_
  · rintro v3 hj
    have hw := hk v3 hj
    clear hk hj
    refine q_reg (st_mv rfl (st_mv rfl (g_rem rfl rfl hw fun v7 hw => st_mv rfl (g_endq [(4, ii v7)] rfl ?_))))
    exact sc_ret (gr1 (g := zg17) (ho := fun _ => []) [ii v7] hw (.inr rfl) ws)
  · clear hk
    refine q_reg (st_mv rfl (g_lss rfl rfl hw (fun hw => g_endq [(0, ii p1), (1, ii p2), (6, .bool true)] rfl ?_) (fun hw => g_endq [(0, ii p1), (1, ii p2), (6, .bool false)] rfl ?_)))
    · refine s_cond_t rfl (s_reg (st_mv rfl (g_add rfl rfl hw fun v5 hw => g_neg rfl hw fun v6 hw => st_mv rfl (g_end [(0, ii v6), (1, ii p2)] rfl ?_))))
      exact jo_n v6 hw ws
    · exact s_cond_f rfl (sc_skip (jo_n p1 hw ws))
def hc32 : C := (.seq (.reg [oo 8 (.mv (.c (.int .i64 0))), oo 9 (.mv (.c (.list [] .full))), oo 10 (.mv (.c (.list [] .full)))] [0, 1, 2, 3]) (.seq (.reg [mo 17 0, co 18 (.call 17 [17, (.c (.int .i64 3))]), oo 19 (.bin .add (.c (.int .i64 1)) 18), mo 0 19] [0, 1, 2, 3]) (.seq (.reg [oo 20 (.mklist 1 [(.c (.int .i64 1))]), mo 11 20] [0, 1, 2, 3, 11]) (.seq (.seq (.reg [mo 21 1, oo 22 (.len false 21), oo 23 (.mv (.c (.int .i64 0)))] [0, 2, 3, 11, 21, 22, 23]) (.block 0 (.loop (.seq (.reg [oo 24 (.bin .lss 23 22)] [0, 2, 3, 11, 21, 22, 23, 24]) (.seq (.cond 24 .skip (.exit 0)) (.seq (.block 1 (.seq (.reg [mo 25 23, oo 26 (.iaddr 1 21 23), oo 27 (.load none 26), mo 12 25, mo 13 27] [0, 2, 3, 11, 12, 13, 21, 22, 23]) (.seq (.reg [mo 28 12, oo 29 (.bin .lss 28 (.c (.int .i64 2)))] [0, 2, 3, 11, 13, 21, 22, 23, 29]) (.cond 29 (.reg [mo 30 11, mo 31 13, mo 32 0, co 33 (.call 17 [31, 32]), oo 34 (.bin .add (.c (.int .i64 1)) 33), oo 35 (.mklist 1 [34]), oo 36 (.append 1 8 30 35), mo 11 36] [0, 2, 3, 11, 21, 22, 23]) .skip)))) (.reg [oo 37 (.bin .add 23 (.c (.int .i64 1))), mo 23 37] [0, 2, 3, 11, 21, 22, 23]))))))) (.seq (.reg [oo 14 (.mv (.c (.list [] .full)))] [0, 2, 3, 11, 14]) (.seq (.seq (.reg [mo 38 2, oo 39 (.len false 38), oo 40 (.mv (.c (.int .i64 0)))] [0, 3, 11, 14, 38, 39, 40]) (.block 2 (.loop (.seq (.reg [oo 41 (.bin .lss 40 39)] [0, 3, 11, 14, 38, 39, 40, 41]) (.seq (.cond 41 .skip (.exit 2)) (.seq (.block 3 (.seq (.reg [mo 42 40, oo 43 (.iaddr 5 38 40), oo 44 (.load (some 5) 43), oo 16 (.alloc none [(.int .i64 0), (.int .i64 0), (.int .i64 0), (.int .i64 0), (.int .i64 0)]), mo 15 42, os (.store 5 16 44)] [0, 3, 11, 14, 15, 16, 38, 39, 40]) (.seq (.reg [mo 45 15, mo 46 3, oo 47 (.bin .lss 45 46)] [0, 3, 11, 14, 15, 16, 38, 39, 40, 47]) (.cond 47 (.dreg [mo 48 14, oo 49 (.faddr 0 1 16), oo 50 (.load none 49), co 51 (.call 17 [50, (.c (.int .i64 3))]), oo 52 (.bin .add (.c (.int .i64 1)) 51), oo 53 (.faddr 1 1 16), oo 54 (.load none 53), mo 55 0, co 56 (.call 17 [54, 55]), oo 57 (.bin .add (.c (.int .i64 1)) 56), oo 58 (.faddr 2 1 16), oo 59 (.load none 58), mo 60 0, co 61 (.call 17 [59, 60]), oo 62 (.bin .add (.c (.int .i64 1)) 61), oo 63 (.faddr 3 1 16), oo 64 (.load none 63), mo 65 11, oo 66 (.len false 65), co 67 (.call 17 [64, 66]), mo 68 15, oo 69 (.build [(.int .i64 0), (.int .i64 0), (.int .i64 0), (.int .i64 0), (.int .i64 0)] [(0, 1, 52), (1, 1, 57), (2, 1, 62), (3, 1, 67), (4, 1, 68)]), oo 70 (.mklist 5 [69]), oo 71 (.append 5 40 48 70), mo 14 71] [] 0 [0, 3, 11, 14, 38, 39, 40]) .skip)))) (.reg [oo 72 (.bin .add 40 (.c (.int .i64 1))), mo 40 72] [0, 3, 11, 14, 38, 39, 40]))))))) (.seq (.reg [mo 73 0, mo 74 11, mo 75 14, mo 8 73, mo 9 74, mo 10 75] [8, 9, 10]) .ret)))))))
def ha32 : Ann := ⟨[], [], [(0, [0, 1, 2, 3]), (1, [0, 1, 2, 3]), (2, [0, 1, 2, 3, 11]), (3, [0, 2, 3, 11, 21, 22, 23]), (4, [0, 2, 3, 11, 21, 22, 23, 24]), (5, [0, 2, 3, 11, 12, 13, 21, 22, 23]), (6, [0, 2, 3, 11, 13, 21, 22, 23, 29]), (7, [0, 2, 3, 11, 21, 22, 23]), (8, [0, 2, 3, 11, 21, 22, 23]), (9, [0, 2, 3, 11, 14]), (10, [0, 3, 11, 14, 38, 39, 40]), (11, [0, 3, 11, 14, 38, 39, 40, 41]), (12, [0, 3, 11, 14, 15, 16, 38, 39, 40]), (13, [0, 3, 11, 14, 15, 16, 38, 39, 40, 47]), (14, [0, 3, 11, 14, 38, 39, 40]), (15, [0, 3, 11, 14, 38, 39, 40]), (16, [8, 9, 10])], []⟩
theorem hk32 : comp Try.prog ha32 Try.f32.ntmps Try.f32.code = some hc32 := by kernel_rfl
def w32 (p1 : Int) (p2 : List (Int)) (p3 : List (GMove_Deed)) (p4 : Int) (Q : Int × List (Int) × List (GMove_Deed) → Prop) : Prop :=
  ∃ r5 : Int, sp17 p1 (3 : Int) r5 ∧ (R64 ((1 : Int) + r5)) ∧ ∀ v6 : Int, v6 = (1 : Int) + r5 → ∃ (I16 : (List Int) → Int → Prop) (M17 : (List Int) → Int → Nat), I16 ([(1 : Int)] : List Int) (0 : Int) ∧ ∀ (v7 : List Int) (v8 : Int), I16 v7 v8 → ∀ v18 : Bool, v18 = decide (v8 < (p2.length : Int)) → ((v18 = true → (0 ≤ v8 ∧ v8 < (p2.length : Int)) ∧ ∀ a19 : Int, p2[(v8 : Int).toNat]? = some a19 → ((v8 < (2 : Int) → ∃ r20 : Int, sp17 a19 v6 r20 ∧ (R64 ((1 : Int) + r20)) ∧ ∀ v21 : Int, v21 = (1 : Int) + r20 → ((v7.length + ([v21] : List Int).length) * 8 ≤ 140737488355328) ∧ ∀ v22 : List Int, v22 = v7 ++ ([v21] : List Int) → (R64 (v8 + (1 : Int))) ∧ ∀ v23 : Int, v23 = v8 + (1 : Int) → (I16 v22 v23 ∧ M17 v22 v23 < M17 v7 v8)) ∧ ((2 : Int) ≤ v8 → (R64 (v8 + (1 : Int))) ∧ ∀ v24 : Int, v24 = v8 + (1 : Int) → (I16 v7 v24 ∧ M17 v7 v24 < M17 v7 v8)))) ∧ (v18 = false → ∃ (I39 : (List GMove_Deed) → Int → Prop) (M40 : (List GMove_Deed) → Int → Nat), I39 ([] : List GMove_Deed) (0 : Int) ∧ ∀ (v25 : List GMove_Deed) (v26 : Int), I39 v25 v26 → ∀ v41 : Bool, v41 = decide (v26 < (p3.length : Int)) → ((v41 = true → (0 ≤ v26 ∧ v26 < (p3.length : Int)) ∧ ∀ a42 : GMove_Deed, p3[(v26 : Int).toNat]? = some a42 → ((v26 < p4 → ∃ r43 : Int, sp17 a42.Kind (3 : Int) r43 ∧ (R64 ((1 : Int) + r43)) ∧ ∀ v44 : Int, v44 = (1 : Int) + r43 → ∃ r45 : Int, sp17 a42.From v6 r45 ∧ (R64 ((1 : Int) + r45)) ∧ ∀ v46 : Int, v46 = (1 : Int) + r45 → ∃ r47 : Int, sp17 a42.To v6 r47 ∧ (R64 ((1 : Int) + r47)) ∧ ∀ v48 : Int, v48 = (1 : Int) + r47 → ∃ r49 : Int, sp17 a42.Who (v7.length : Int) r49 ∧ ((v25.length + ([(GMove_Deed.mk v44 v46 v48 r49 v26)] : List GMove_Deed).length) * 40 ≤ 140737488355328) ∧ ∀ v50 : List GMove_Deed, v50 = v25 ++ ([(GMove_Deed.mk v44 v46 v48 r49 v26)] : List GMove_Deed) → (R64 (v26 + (1 : Int))) ∧ ∀ v51 : Int, v51 = v26 + (1 : Int) → (I39 v50 v51 ∧ M40 v50 v51 < M40 v25 v26)) ∧ (p4 ≤ v26 → (R64 (v26 + (1 : Int))) ∧ ∀ v52 : Int, v52 = v26 + (1 : Int) → (I39 v25 v52 ∧ M40 v25 v52 < M40 v25 v26)))) ∧ (v41 = false → Q (v6, v7, v25)))))
theorem ok32 (p1 : Int) (p2 : List (Int)) (p3 : List (GMove_Deed)) (p4 : Int) (r : Int × List (Int) × List (GMove_Deed)) (hw : w32 p1 p2 p3 p4 fun r' => r' = r) : sp32 p1 p2 p3 p4 r := by
  refine zf (rs := [.t 8, .t 9, .t 10]) (g := zg32) Try.func32 hk32 ?_
  unfold w32 at hw
  show SC Try.prog Try.f32.ntmps 0 hc32 _ [(0, ii p1), (1, ln (eInt .i64) p2), (2, ln eGMove_Deed p3), (3, ii p4)] []
  unfold hc32
  refine q_reg (st_mv rfl (st_mv rfl (st_mv rfl (g_endq [(0, ii p1), (1, ln (eInt .i64) p2), (2, ln eGMove_Deed p3), (3, ii p4)] rfl ?_))))
  refine q_reg (st_mv rfl (k_call dh (ec rfl (ec rfl en)) rfl hw fun r5 hw => g_add rfl rfl hw fun v6 hw => st_mv rfl (g_endq [(0, ii v6), (1, ln (eInt .i64) p2), (2, ln eGMove_Deed p3), (3, ii p4)] rfl ?_)))
  refine q_reg (g_mkl (enc_int .i64) [(1 : Int)] (ec rfl en) rfl (mz mkn) (st_mv rfl (g_endq [(0, ii v6), (1, ln (eInt .i64) p2), (2, ln eGMove_Deed p3), (3, ii p4), (11, lf (eInt .i64) ([(1 : Int)] : List Int))] rfl ?_)))
  refine sc_seq (q_reg (st_mv rfl (g_len rfl (st_mv rfl (g_endq [(0, ii v6), (2, ln eGMove_Deed p3), (3, ii p4), (11, lf (eInt .i64) ([(1 : Int)] : List Int)), (21, ln (eInt .i64) p2), (22, ii (p2.length : Int)), (23, ii 0)] rfl ?_)))))
  refine sc_block ?_
  obtain ⟨I16, M17, hi, hw⟩ := hw
  refine sc_loop (X := { x : List Int × Int // I16 x.1 x.2 }) (fun x => ([(0, ii v6), (2, ln eGMove_Deed p3), (3, ii p4), (11, .list (List.map (eInt .i64) x.1.1) (.own 0 1 1)), (21, ln (eInt .i64) p2), (22, ii (p2.length : Int)), (23, ii x.1.2)], [.tok (1 + x.1.1.length)])) (fun x => M17 x.1.1 x.1.2) ⟨(([(1 : Int)] : List Int), (0 : Int)), hi⟩ ((w_acc (l := ([(1 : Int)] : List Int)) 11 1 (n := 0) rfl (enc_int .i64) rfl).trans ws) ?_
  rintro ⟨⟨v7, v8⟩, hi2⟩
  have hw := hw v7 v8 hi2
  clear hi
  refine q_reg (gb_cmp rfl rfl trivial rfl hw fun v18 hw => g_endq [(0, ii v6), (2, ln eGMove_Deed p3), (3, ii p4), (11, .list (List.map (eInt .i64) v7) (.own 0 1 1)), (21, ln (eInt .i64) p2), (22, ii (p2.length : Int)), (23, ii v8), (24, .bool v18)] rfl ?_)
  refine sc_seq (s_cond rfl hw (fun hw => ?_) (fun hw => ?_))
  · refine sc_skip (sq_n (sc_seq (sc_block (q_reg (st_mv rfl (g_iaddr (enc_int .i64) rfl rfl hw fun a19 hw => st_load_r rfl rfl (st_mv rfl (st_mv rfl (g_endq [(0, ii v6), (2, ln eGMove_Deed p3), (3, ii p4), (11, .list (List.map (eInt .i64) v7) (.own 0 1 1)), (12, ii v8), (13, ii a19), (21, ln (eInt .i64) p2), (22, ii (p2.length : Int)), (23, ii v8)] rfl ?_)))))))))
    refine q_reg (st_mv rfl (g_lss rfl rfl hw (fun hw => g_endq [(0, ii v6), (2, ln eGMove_Deed p3), (3, ii p4), (11, .list (List.map (eInt .i64) v7) (.own 0 1 1)), (13, ii a19), (21, ln (eInt .i64) p2), (22, ii (p2.length : Int)), (23, ii v8), (29, .bool true)] rfl ?_) (fun hw => g_endq [(0, ii v6), (2, ln eGMove_Deed p3), (3, ii p4), (11, .list (List.map (eInt .i64) v7) (.own 0 1 1)), (13, ii a19), (21, ln (eInt .i64) p2), (22, ii (p2.length : Int)), (23, ii v8), (29, .bool false)] rfl ?_)))
    · refine s_cond_t rfl (s_reg (st_mv rfl (st_mv rfl (st_mv rfl (k_call dh (ec rfl (ec rfl en)) rfl hw fun r20 hw => g_add rfl rfl hw fun v21 hw => g_mkl (enc_int .i64) [v21] (ec rfl en) rfl (mz mkn) (g_appo (enc_int .i64) rfl rfl rfl hw (fun z => [.tok (1 + z.length)]) (fun _ => rfl) fun v22 hw => st_mv rfl (g_end [(0, ii v6), (2, ln eGMove_Deed p3), (3, ii p4), (11, .list (List.map (eInt .i64) v22) (.own 0 1 1)), (21, ln (eInt .i64) p2), (22, ii (p2.length : Int)), (23, ii v8)] rfl ?_)))))))
      refine bl_n (sq_n (s_reg (g_add rfl rfl hw fun v23 hw => st_mv rfl (g_end [(0, ii v6), (2, ln eGMove_Deed p3), (3, ii p4), (11, .list (List.map (eInt .i64) v22) (.own 0 1 1)), (21, ln (eInt .i64) p2), (22, ii (p2.length : Int)), (23, ii v23)] rfl ?_))))
      exact lo_n ⟨(v22, v23), hw.1⟩ hw.2 ws
    · refine s_cond_f rfl (sc_skip (bl_n (sq_n (s_reg (g_add rfl rfl hw fun v24 hw => st_mv rfl (g_end [(0, ii v6), (2, ln eGMove_Deed p3), (3, ii p4), (11, .list (List.map (eInt .i64) v7) (.own 0 1 1)), (21, ln (eInt .i64) p2), (22, ii (p2.length : Int)), (23, ii v24)] rfl ?_))))))
      exact lo_n ⟨(v7, v24), hw.1⟩ hw.2 ws
  · refine sc_exit (sq_x (lo_x (bl_x (sq_n (q_reg (st_mv rfl (g_endq [(0, ii v6), (2, ln eGMove_Deed p3), (3, ii p4), (11, .list (List.map (eInt .i64) v7) (.own 0 1 1)), (14, nl eGMove_Deed)] rfl ?_)))))))
    refine sc_seq (q_reg (st_mv rfl (g_len rfl (st_mv rfl (g_endq [(0, ii v6), (3, ii p4), (11, .list (List.map (eInt .i64) v7) (.own 0 1 1)), (14, nl eGMove_Deed), (38, ln eGMove_Deed p3), (39, ii (p3.length : Int)), (40, ii 0)] rfl ?_)))))
    refine sc_block ?_
    obtain ⟨I39, M40, hi, hw⟩ := hw
    refine sc_loop (X := { x : List GMove_Deed × Int // I39 x.1 x.2 }) (fun x => ([(0, ii v6), (3, ii p4), (11, .list (List.map (eInt .i64) v7) (.own 0 1 1)), (14, .list (List.map eGMove_Deed x.1.1) (.own 1 1 5)), (38, ln eGMove_Deed p3), (39, ii (p3.length : Int)), (40, ii x.1.2)], [.tok (1 + v7.length), .tok (1 + x.1.1.length)])) (fun x => M40 x.1.1 x.1.2) ⟨(([] : List GMove_Deed), (0 : Int)), hi⟩ ((w_acc (l := ([] : List GMove_Deed)) 14 5 (n := 1) rfl enc_GMove_Deed rfl).trans ws) ?_
    rintro ⟨⟨v25, v26⟩, hi2⟩
    have hw := hw v25 v26 hi2
    clear hi
    refine q_reg (gb_cmp rfl rfl trivial rfl hw fun v41 hw => g_endq [(0, ii v6), (3, ii p4), (11, .list (List.map (eInt .i64) v7) (.own 0 1 1)), (14, .list (List.map eGMove_Deed v25) (.own 1 1 5)), (38, ln eGMove_Deed p3), (39, ii (p3.length : Int)), (40, ii v26), (41, .bool v41)] rfl ?_)
    refine sc_seq (s_cond rfl hw (fun hw => ?_) (fun hw => ?_))
    · refine sc_skip (sq_n (sc_seq (sc_block (q_reg (st_mv rfl (g_iaddr enc_GMove_Deed rfl rfl hw fun a42 hw => st_load_r (v := eGMove_Deed a42) rfl rfl (g_alloc (n := 2) rfl rfl (st_mv rfl (g_sp (v := eGMove_Deed a42) (h' := [.tok (1 + v7.length), .tok (1 + v25.length), .cells (HV.cells (eGMove_Deed a42))]) rfl rfl rfl (g_endq [(0, ii v6), (3, ii p4), (11, .list (List.map (eInt .i64) v7) (.own 0 1 1)), (14, .list (List.map eGMove_Deed v25) (.own 1 1 5)), (15, ii v26), (16, .ptr 2 0), (38, ln eGMove_Deed p3), (39, ii (p3.length : Int)), (40, ii v26)] rfl ?_))))))))))
      refine q_reg (st_mv rfl (st_mv rfl (g_lss rfl rfl hw (fun hw => g_endq [(0, ii v6), (3, ii p4), (11, .list (List.map (eInt .i64) v7) (.own 0 1 1)), (14, .list (List.map eGMove_Deed v25) (.own 1 1 5)), (15, ii v26), (16, .ptr 2 0), (38, ln eGMove_Deed p3), (39, ii (p3.length : Int)), (40, ii v26), (47, .bool true)] rfl ?_) (fun hw => g_endq [(0, ii v6), (3, ii p4), (11, .list (List.map (eInt .i64) v7) (.own 0 1 1)), (14, .list (List.map eGMove_Deed v25) (.own 1 1 5)), (15, ii v26), (16, .ptr 2 0), (38, ln eGMove_Deed p3), (39, ii (p3.length : Int)), (40, ii v26), (47, .bool false)] rfl ?_))))
      · refine s_cond_t rfl (s_dreg Try.mixed rfl (st_mv rfl (g_faddr_p rfl (g_load_p rfl rfl rfl (k_call dd (ec rfl (ec rfl en)) rfl hw fun r43 hw => g_add rfl rfl hw fun v44 hw => g_faddr_p rfl (g_load_p rfl rfl rfl (st_mv rfl (k_call dd (ec rfl (ec rfl en)) rfl hw fun r45 hw => g_add rfl rfl hw fun v46 hw => g_faddr_p rfl (g_load_p rfl rfl rfl (st_mv rfl (k_call dd (ec rfl (ec rfl en)) rfl hw fun r47 hw => g_add rfl rfl hw fun v48 hw => g_faddr_p rfl (g_load_p rfl rfl rfl (st_mv rfl (g_len rfl (k_call dd (ec rfl (ec rfl en)) rfl hw fun r49 hw => st_mv rfl (g_build (cs := [ii v44, ii v46, ii v48, ii r49, ii v26]) (ep_cons rfl (ep_cons rfl (ep_cons rfl (ep_cons rfl (ep_cons rfl ep_nil))))) rfl (g_mkl enc_GMove_Deed [(GMove_Deed.mk v44 v46 v48 r49 v26)] (ec rfl en) rfl (mz mkn) (g_appo enc_GMove_Deed rfl rfl rfl hw (fun z => [.tok (1 + v7.length), .tok (1 + z.length), .cells (HV.cells (eGMove_Deed a42))]) (fun _ => rfl) fun v50 hw => st_mv rfl (st_mid (g_end [(0, ii v6), (3, ii p4), (11, .list (List.map (eInt .i64) v7) (.own 0 1 1)), (14, .list (List.map eGMove_Deed v50) (.own 1 1 5)), (38, ln eGMove_Deed p3), (39, ii (p3.length : Int)), (40, ii v26)] rfl ?_))))))))))))))))))))
        refine bl_n (sq_n (s_reg (g_add rfl rfl hw fun v51 hw => st_mv rfl (g_end [(0, ii v6), (3, ii p4), (11, .list (List.map (eInt .i64) v7) (.own 0 1 1)), (14, .list (List.map eGMove_Deed v50) (.own 1 1 5)), (38, ln eGMove_Deed p3), (39, ii (p3.length : Int)), (40, ii v51)] rfl ?_))))
        exact lo_n ⟨(v50, v51), hw.1⟩ hw.2 (wr [0, 1])
      · refine s_cond_f rfl (sc_skip (bl_n (sq_n (s_reg (g_add rfl rfl hw fun v52 hw => st_mv rfl (g_end [(0, ii v6), (3, ii p4), (11, .list (List.map (eInt .i64) v7) (.own 0 1 1)), (14, .list (List.map eGMove_Deed v25) (.own 1 1 5)), (38, ln eGMove_Deed p3), (39, ii (p3.length : Int)), (40, ii v52)] rfl ?_))))))
        exact lo_n ⟨(v25, v52), hw.1⟩ hw.2 (wr [0, 1])
    · refine sc_exit (sq_x (lo_x (bl_x (sq_n (q_reg (st_mv rfl (st_mv rfl (st_mv rfl (st_mv rfl (st_mv rfl (st_mv rfl (g_endq [(8, ii v6), (9, .list (List.map (eInt .i64) v7) (.own 0 1 1)), (10, .list (List.map eGMove_Deed v25) (.own 1 1 5))] rfl ?_))))))))))))
      exact sc_ret (gr (g := zg32) (ho := fun _ => []) [ii v6, .list (List.map (eInt .i64) v7) (.own 0 1 1), .list (List.map eGMove_Deed v25) (.own 1 1 5)] [ii v6, ln (eInt .i64) v7, ln eGMove_Deed v25] hw (.inr rfl) (wr []))
def hc34 : C := (.seq (.reg [oo 0 (.mv (.c (.bool false)))] []) (.seq (.reg [oo 4 (.mklist 1 [(.c (.int .i64 1))]), oo 5 (.build [(.int .i64 0), (.int .i64 0), (.int .i64 0), (.int .i64 0), (.int .i64 0)] [(0, 1, (.c (.int .i64 1))), (1, 1, (.c (.int .i64 2))), (4, 1, (.c (.int .i64 7)))]), oo 6 (.build [(.int .i64 0), (.int .i64 0), (.int .i64 0), (.int .i64 0), (.int .i64 0)] [(0, 1, (.c (.int .i64 2))), (2, 1, (.c (.int .i64 2)))]), oo 7 (.build [(.int .i64 0), (.int .i64 0), (.int .i64 0), (.int .i64 0), (.int .i64 0)] [(0, 1, (.c (.int .i64 3))), (1, 1, (.c (.int .i64 2))), (2, 1, (.c (.int .i64 1)))]), oo 8 (.build [(.int .i64 0), (.int .i64 0), (.int .i64 0), (.int .i64 0), (.int .i64 0)] [(0, 1, (.c (.int .i64 3))), (1, 1, (.c (.int .i64 1))), (2, 1, (.c (.int .i64 2)))]), oo 9 (.build [(.int .i64 0), (.int .i64 0), (.int .i64 0), (.int .i64 0), (.int .i64 0)] [(0, 1, (.c (.int .i64 3))), (1, 1, (.c (.int .i64 1))), (2, 1, (.c (.int .i64 2)))]), oo 10 (.build [(.int .i64 0), (.int .i64 0), (.int .i64 0), (.int .i64 0), (.int .i64 0)] [(0, 1, (.c (.int .i64 3))), (1, 1, (.c (.int .i64 1))), (2, 1, (.c (.int .i64 2)))]), oo 11 (.mklist 5 [5, 6, 7, 8, 9, 10]), co 12 (.call 33 [(.c (.int .i64 2)), 4, 11]), mo 3 12, oo 13 (.extract 3 0), oo 14 (.extract 3 1), oo 1 (.alloc none [(.list [] .full), (.list [] .full), (.int .i64 0), (.int .i64 0)]), os (.store 4 1 13), mo 2 14] [1, 2]) (.seq (.reg [mo 15 2, oo 16 (.eqv false .int 15 (.c (.int .i64 0))), mo 17 16, og 18 (.faddr 0 1 1) 17 true, og 19 (.load none 18) 17 true, og 20 (.len false 19) 17 true, og 21 (.eqv false .int 20 (.c (.int .i64 1))) 17 true, oo 22 (.pick 17 21 (.c (.bool false))), mo 23 22, og 24 (.faddr 0 1 1) 23 true, og 25 (.load none 24) 23 true, og 26 (.iaddr 1 25 (.c (.int .i64 0))) 23 true, og 27 (.load none 26) 23 true, og 28 (.build [(.int .i64 0), (.int .i64 0)] [(0, 1, (.c (.int .i64 2))), (1, 1, (.c (.int .i64 7)))]) 23 true, og 29 (.mklist 2 [28]) 23 true, cg 30 (.call 36 [27, 29]) 23 true, oo 31 (.pick 23 30 (.c (.bool false))), mo 32 31, og 33 (.faddr 1 1 1) 32 true, og 34 (.load none 33) 32 true, og 35 (.iaddr 1 34 (.c (.int .i64 0))) 32 true, og 36 (.load none 35) 32 true, og 37 (.eqv false .int 36 (.c (.int .i64 2))) 32 true, oo 38 (.pick 32 37 (.c (.bool false))), mo 0 38] [0]) .ret)))
def ha34 : Ann := ⟨[], [], [(0, []), (1, [1, 2]), (2, [0])], []⟩
theorem hk34 : comp Try.prog ha34 Try.f34.ntmps Try.f34.code = some hc34 := by kernel_rfl
def w34  (Q : Bool → Prop) : Prop :=
  ∃ r1 : GMove_Told × Int, sp33 (2 : Int) ([(1 : Int)] : List Int) ([(GMove_Deed.mk (1 : Int) (2 : Int) (0 : Int) (0 : Int) (7 : Int)), (GMove_Deed.mk (2 : Int) (0 : Int) (2 : Int) (0 : Int) (0 : Int)), (GMove_Deed.mk (3 : Int) (2 : Int) (1 : Int) (0 : Int) (0 : Int)), (GMove_Deed.mk (3 : Int) (1 : Int) (2 : Int) (0 : Int) (0 : Int)), (GMove_Deed.mk (3 : Int) (1 : Int) (2 : Int) (0 : Int) (0 : Int)), (GMove_Deed.mk (3 : Int) (1 : Int) (2 : Int) (0 : Int) (0 : Int))] : List GMove_Deed) r1 ∧ ((r1.2 = (0 : Int) → (((r1.1.Got.length : Int) = (1 : Int) → (0 ≤ (0 : Int) ∧ (0 : Int) < (r1.1.Got.length : Int)) ∧ ∀ a2 : List (GMove_Got), r1.1.Got[((0 : Int) : Int).toNat]? = some a2 → ∃ r3 : Bool, sp36 a2 ([(GMove_Got.mk (2 : Int) (7 : Int))] : List GMove_Got) r3 ∧ ((r3 = true → (0 ≤ (0 : Int) ∧ (0 : Int) < (r1.1.At.length : Int)) ∧ ∀ a4 : Int, r1.1.At[((0 : Int) : Int).toNat]? = some a4 → ∀ v5 : Bool, v5 = (if false then !(a4 == (2 : Int)) else (a4 == (2 : Int))) → Q v5) ∧ (r3 = false → Q false))) ∧ ((r1.1.Got.length : Int) ≠ (1 : Int) → Q false))) ∧ (r1.2 ≠ (0 : Int) → Q false))
theorem ok34  (r : Bool) (hw : w34  fun r' => r' = r) : sp34  r := by
  refine zf (rs := [.t 0]) (g := zg34) Try.func34 hk34 ?_
  unfold w34 at hw
  show SC Try.prog Try.f34.ntmps 0 hc34 _ [] []
  unfold hc34
  refine q_reg (st_mv rfl (g_endq [] rfl ?_))
  refine q_reg (g_mkl (enc_int .i64) [(1 : Int)] (ec rfl en) rfl (mz mkn) (g_build (cs := [ii 1, ii 2, ii 0, ii 0, ii 7]) (ep_cons rfl (ep_cons rfl (ep_cons rfl ep_nil))) rfl (g_build (cs := [ii 2, ii 0, ii 2, ii 0, ii 0]) (ep_cons rfl (ep_cons rfl ep_nil)) rfl (g_build (cs := [ii 3, ii 2, ii 1, ii 0, ii 0]) (ep_cons rfl (ep_cons rfl (ep_cons rfl ep_nil))) rfl (g_build (cs := [ii 3, ii 1, ii 2, ii 0, ii 0]) (ep_cons rfl (ep_cons rfl (ep_cons rfl ep_nil))) rfl (g_build (cs := [ii 3, ii 1, ii 2, ii 0, ii 0]) (ep_cons rfl (ep_cons rfl (ep_cons rfl ep_nil))) rfl (g_build (cs := [ii 3, ii 1, ii 2, ii 0, ii 0]) (ep_cons rfl (ep_cons rfl (ep_cons rfl ep_nil))) rfl (g_mkl enc_GMove_Deed [(GMove_Deed.mk (1 : Int) (2 : Int) (0 : Int) (0 : Int) (7 : Int)), (GMove_Deed.mk (2 : Int) (0 : Int) (2 : Int) (0 : Int) (0 : Int)), (GMove_Deed.mk (3 : Int) (2 : Int) (1 : Int) (0 : Int) (0 : Int)), (GMove_Deed.mk (3 : Int) (1 : Int) (2 : Int) (0 : Int) (0 : Int)), (GMove_Deed.mk (3 : Int) (1 : Int) (2 : Int) (0 : Int) (0 : Int)), (GMove_Deed.mk (3 : Int) (1 : Int) (2 : Int) (0 : Int) (0 : Int))] (ec rfl (ec rfl (ec rfl (ec rfl (ec rfl (ec rfl en)))))) rfl (mz (mz (mz (mz (mz (mz mkn)))))) (k_call dh (ec rfl (ec rfl (ec rfl en))) rfl hw fun r1 hw => st_mv rfl (st_extract rfl rfl (st_extract rfl rfl (g_alloc (n := 0) rfl rfl (g_sp (v := eGMove_Told r1.1) (h' := [.cells (HV.cells (eGMove_Told r1.1))]) rfl rfl rfl (st_mv rfl (g_endq [(1, .ptr 0 0), (2, ii r1.2)] rfl ?_)))))))))))))))
  refine q_reg (st_mv rfl (g_eqi rfl rfl hw (fun hw => st_mv rfl (st_g rfl (g_faddr_p rfl (st_g rfl (g_load_p rfl rfl rfl (st_g rfl (g_len rfl (st_g rfl (g_eqi rfl rfl hw (fun hw => st_pick_t rfl rfl rfl (st_mv rfl (st_g rfl (g_faddr_p rfl (st_g rfl (g_load_p rfl rfl rfl (st_g rfl (g_iaddr (enc_lst enc_GMove_Got) rfl rfl hw fun a2 hw => st_g rfl (st_load_r rfl rfl (st_g rfl (g_build (cs := [ii 2, ii 7]) (ep_cons rfl (ep_cons rfl ep_nil)) rfl (st_g rfl (g_mkl enc_GMove_Got [(GMove_Got.mk (2 : Int) (7 : Int))] (ec rfl en) rfl (mz mkn) (st_g rfl (k_call dh (ec rfl (ec rfl en)) rfl hw fun r3 hw => st_pick_t rfl rfl rfl (st_mv rfl (g_split rfl hw ?_ ?_))))))))))))))))) (fun hw => st_pick_t rfl rfl rfl (st_mv rfl (st_gft rfl (st_gft rfl (st_gft rfl (st_gft rfl (st_gft rfl (st_gft rfl (st_gft rfl (st_pick_f rfl rfl rfl (st_mv rfl (st_gft rfl (st_gft rfl (st_gft rfl (st_gft rfl (st_gft rfl (st_pick_f rfl rfl rfl (st_mv rfl (g_endq [(0, .bool false)] rfl ?_)))))))))))))))))))))))))))) (fun hw => st_mv rfl (st_gft rfl (st_gft rfl (st_gft rfl (st_gft rfl (st_pick_f rfl rfl rfl (st_mv rfl (st_gft rfl (st_gft rfl (st_gft rfl (st_gft rfl (st_gft rfl (st_gft rfl (st_gft rfl (st_pick_f rfl rfl rfl (st_mv rfl (st_gft rfl (st_gft rfl (st_gft rfl (st_gft rfl (st_gft rfl (st_pick_f rfl rfl rfl (st_mv rfl (g_endq [(0, .bool false)] rfl ?_))))))))))))))))))))))))))
  · intro c hw
    rw [c]
    refine st_g rfl (g_faddr_p rfl (st_g rfl (g_load_p rfl rfl rfl (st_g rfl (g_iaddr (enc_int .i64) rfl rfl hw fun a4 hw => st_g rfl (st_load_r rfl rfl (st_g rfl (gb_eqi rfl rfl hw fun v5 hw => st_pick_t rfl rfl rfl (st_mv rfl (g_endq [(0, .bool v5)] rfl ?_))))))))))
    exact sc_ret (gr1 (g := zg34) (ho := fun _ => []) [.bool v5] hw (.inr rfl) (wr []))
  · intro c hw
    rw [c]
    refine st_gft rfl (st_gft rfl (st_gft rfl (st_gft rfl (st_gft rfl (st_pick_f rfl rfl rfl (st_mv rfl (g_endq [(0, .bool false)] rfl ?_)))))))
    exact sc_ret (gr1 (g := zg34) (ho := fun _ => []) [.bool false] hw (.inr rfl) (wr []))
  · exact sc_ret (gr1 (g := zg34) (ho := fun _ => []) [.bool false] hw (.inr rfl) (wr []))
  · exact sc_ret (gr1 (g := zg34) (ho := fun _ => []) [.bool false] hw (.inr rfl) (wr []))
def hc36 : C := (.seq (.reg [oo 4 (.mv (.c (.bool false)))] [0, 1]) (.seq (.seq (.reg [mo 6 0, oo 7 (.len false 6), mo 8 1, oo 9 (.len false 8), oo 10 (.eqv true .int 7 9)] [0, 1, 10]) (.cond 10 (.seq (.reg [oo 4 (.mv (.c (.bool false)))] [4]) .ret) .skip)) (.seq (.seq (.reg [mo 11 0, oo 12 (.len false 11), oo 13 (.mv (.c (.int .i64 0)))] [0, 1, 12, 13]) (.block 0 (.loop (.seq (.reg [oo 14 (.bin .lss 13 12)] [0, 1, 12, 13, 14]) (.seq (.cond 14 .skip (.exit 0)) (.seq (.block 1 (.seq (.reg [mo 15 13, mo 5 15] [0, 1, 5, 12, 13]) (.seq (.dreg [mo 16 0, mo 17 5, oo 18 (.iaddr 2 16 17), oo 19 (.load (some 2) 18), mo 20 1, mo 21 5, oo 22 (.iaddr 2 20 21), oo 23 (.load (some 2) 22), oo 24 (.eqv true (.agg [.i, .i]) 19 23)] [] 0 [0, 1, 12, 13, 24]) (.cond 24 (.seq (.reg [oo 4 (.mv (.c (.bool false)))] [4]) .ret) .skip)))) (.reg [oo 25 (.bin .add 13 (.c (.int .i64 1))), mo 13 25] [0, 1, 12, 13]))))))) (.seq (.reg [oo 4 (.mv (.c (.bool true)))] [4]) .ret))))
def ha36 : Ann := ⟨[], [], [(0, [0, 1]), (1, [0, 1, 10]), (2, [4]), (3, [0, 1, 12, 13]), (4, [0, 1, 12, 13, 14]), (5, [0, 1, 5, 12, 13]), (6, [0, 1, 12, 13, 24]), (7, [4]), (8, [0, 1, 12, 13]), (9, [4])], []⟩
theorem hk36 : comp Try.prog ha36 Try.f36.ntmps Try.f36.code = some hc36 := by kernel_rfl
def w36 (p1 : List (GMove_Got)) (p2 : List (GMove_Got)) (Q : Bool → Prop) : Prop :=
  (((p1.length : Int) ≠ (p2.length : Int) → Q false) ∧ ((p1.length : Int) = (p2.length : Int) → ∃ (I8 : Int → Prop) (M9 : Int → Nat), I8 (0 : Int) ∧ ∀ (v3 : Int), I8 v3 → ∀ v10 : Bool, v10 = decide (v3 < (p1.length : Int)) → ((v10 = true → (0 ≤ v3 ∧ v3 < (p1.length : Int)) ∧ ∀ a11 : GMove_Got, p1[(v3 : Int).toNat]? = some a11 → (0 ≤ v3 ∧ v3 < (p2.length : Int)) ∧ ∀ a12 : GMove_Got, p2[(v3 : Int).toNat]? = some a12 → ((a11 ≠ a12 → Q false) ∧ (a11 = a12 → (R64 (v3 + (1 : Int))) ∧ ∀ v13 : Int, v13 = v3 + (1 : Int) → (I8 v13 ∧ M9 v13 < M9 v3)))) ∧ (v10 = false → Q true))))
theorem ok36 (p1 : List (GMove_Got)) (p2 : List (GMove_Got)) (r : Bool) (hw : w36 p1 p2 fun r' => r' = r) : sp36 p1 p2 r := by
  refine zf (rs := [.t 4]) (g := zg36) Try.func36 hk36 ?_
  unfold w36 at hw
  show SC Try.prog Try.f36.ntmps 0 hc36 _ [(0, ln eGMove_Got p1), (1, ln eGMove_Got p2)] []
  unfold hc36
  refine q_reg (st_mv rfl (g_endq [(0, ln eGMove_Got p1), (1, ln eGMove_Got p2)] rfl ?_))
  refine sc_seq (q_reg (st_mv rfl (g_len rfl (st_mv rfl (g_len rfl (g_nei rfl rfl hw (fun hw => g_endq [(0, ln eGMove_Got p1), (1, ln eGMove_Got p2), (10, .bool true)] rfl ?_) (fun hw => g_endq [(0, ln eGMove_Got p1), (1, ln eGMove_Got p2), (10, .bool false)] rfl ?_)))))))
  · refine s_cond_t rfl (q_reg (st_mv rfl (g_endq [(4, .bool false)] rfl ?_)))
    exact sc_ret (sq_r (gr1 (g := zg36) (ho := fun _ => []) [.bool false] hw (.inr rfl) ws))
  · refine s_cond_f rfl (sc_skip (sq_n (sc_seq (q_reg (st_mv rfl (g_len rfl (st_mv rfl (g_endq [(0, ln eGMove_Got p1), (1, ln eGMove_Got p2), (12, ii (p1.length : Int)), (13, ii 0)] rfl ?_))))))))
    refine sc_block ?_
    obtain ⟨I8, M9, hi, hw⟩ := hw
    refine sc_loop (X := { x : Int // I8 x }) (fun x => ([(0, ln eGMove_Got p1), (1, ln eGMove_Got p2), (12, ii (p1.length : Int)), (13, ii x.1)], [])) (fun x => M9 x.1) ⟨(0 : Int), hi⟩ ws ?_
    rintro ⟨v3, hi2⟩
    have hw := hw v3 hi2
    clear hi
    refine q_reg (gb_cmp rfl rfl trivial rfl hw fun v10 hw => g_endq [(0, ln eGMove_Got p1), (1, ln eGMove_Got p2), (12, ii (p1.length : Int)), (13, ii v3), (14, .bool v10)] rfl ?_)
    refine sc_seq (s_cond rfl hw (fun hw => ?_) (fun hw => ?_))
    · refine sc_skip (sq_n (sc_seq (sc_block (q_reg (st_mv rfl (st_mv rfl (g_endq [(0, ln eGMove_Got p1), (1, ln eGMove_Got p2), (5, ii v3), (12, ii (p1.length : Int)), (13, ii v3)] rfl ?_)))))))
      refine sc_seq (s_dreg Try.mixed rfl (st_mv rfl (st_mv rfl (g_iaddr enc_GMove_Got rfl rfl hw fun a11 hw => st_load_r (v := eGMove_Got a11) rfl rfl (st_mv rfl (st_mv rfl (g_iaddr enc_GMove_Got rfl rfl hw fun a12 hw => st_load_r (v := eGMove_Got a12) rfl rfl (g_nea (fk := eGMove_Got) enck_GMove_Got (fun a => ⟨_, rfl⟩) a11 a12 rfl rfl hw (fun hw => st_mid (g_end [(0, ln eGMove_Got p1), (1, ln eGMove_Got p2), (12, ii (p1.length : Int)), (13, ii v3), (24, .bool true)] rfl ?_)) (fun hw => st_mid (g_end [(0, ln eGMove_Got p1), (1, ln eGMove_Got p2), (12, ii (p1.length : Int)), (13, ii v3), (24, .bool false)] rfl ?_))))))))))
      · refine sq_n (s_cond_t rfl (q_reg (st_mv rfl (g_endq [(4, .bool false)] rfl ?_))))
        exact sc_ret (bl_r (sq_r (lo_r (bl_r (sq_r (gr1 (g := zg36) (ho := fun _ => []) [.bool false] hw (.inr rfl) ws))))))
      · refine sq_n (s_cond_f rfl (sc_skip (bl_n (sq_n (s_reg (g_add rfl rfl hw fun v13 hw => st_mv rfl (g_end [(0, ln eGMove_Got p1), (1, ln eGMove_Got p2), (12, ii (p1.length : Int)), (13, ii v13)] rfl ?_)))))))
        exact lo_n ⟨v13, hw.1⟩ hw.2 ws
    · refine sc_exit (sq_x (lo_x (bl_x (sq_n (q_reg (st_mv rfl (g_endq [(4, .bool true)] rfl ?_)))))))
      exact sc_ret (gr1 (g := zg36) (ho := fun _ => []) [.bool true] hw (.inr rfl) ws)
def hc73 : C := (.seq (.reg [oo 2 (.mv (.c (.list [] .full)))] [0]) (.seq (.seq (.reg [mo 3 0, oo 4 (.eqv false .slice 3 (.c .nilslice))] [0, 4]) (.cond 4 (.seq (.reg [oo 2 (.mv (.c (.list [] .full)))] [2]) .ret) .skip)) (.seq (.reg [oo 5 (.mklist 2 []), mo 6 0, oo 7 (.append 2 16 5 6), mo 2 7] [2]) .ret)))
def ha73 : Ann := ⟨[], [], [(0, [0]), (1, [0, 4]), (2, [2]), (3, [2])], []⟩
theorem hk73 : comp Try.prog ha73 Try.f73.ntmps Try.f73.code = some hc73 := by kernel_rfl
def w73 (p1 : List (GMove_Got)) (Q : List (GMove_Got) → Prop) : Prop :=
  ((p1.length = 0 → Q ([] : List GMove_Got)) ∧ (((([] : List GMove_Got).length + p1.length) * 16 ≤ 140737488355328) ∧ ∀ v2 : List GMove_Got, v2 = ([] : List GMove_Got) ++ p1 → Q v2))
theorem ok73 (p1 : List (GMove_Got)) (r : List (GMove_Got)) (hw : w73 p1 fun r' => r' = r) : sp73 p1 r := by
  refine zf (rs := [.t 2]) (g := zg73) Try.func73 hk73 ?_
  unfold w73 at hw
  show SC Try.prog Try.f73.ntmps 0 hc73 _ [(0, ln eGMove_Got p1)] []
  unfold hc73
  refine q_reg (st_mv rfl (g_endq [(0, ln eGMove_Got p1)] rfl ?_))
  refine sc_seq (q_reg (st_mv rfl (g_eqn2 rfl rfl hw (fun hw => g_endq [(0, ln eGMove_Got p1), (4, .bool true)] rfl ?_) (fun hw => g_endq [(0, ln eGMove_Got p1), (4, .bool false)] rfl ?_))))
  · refine s_cond_t rfl (q_reg (st_mv rfl (g_endq [(2, nl eGMove_Got)] rfl ?_)))
    exact sc_ret (sq_r (gr (g := zg73) (ho := fun _ => []) [nl eGMove_Got] [ln eGMove_Got ([] : List GMove_Got)] hw (.inr rfl) ws))
  · refine s_cond_f rfl (sc_skip (sq_n (q_reg (g_mkl enc_GMove_Got [] en rfl mkn (st_mv rfl (g_appf enc_GMove_Got rfl rfl (n := 0) rfl hw fun v2 hw => st_mv rfl (g_endq [(2, .list (List.map eGMove_Got v2) (.own 0 1 2))] rfl ?_)))))))
    exact sc_ret (gr (g := zg73) (ho := fun _ => []) [.list (List.map eGMove_Got v2) (.own 0 1 2)] [ln eGMove_Got v2] hw (.inr rfl) (wr []))
end Go.Hw.VM

