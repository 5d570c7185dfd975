import Derived.Test.YtonoaimefgodfaaHwF2
import Derived.Test.YtonoaimefgodfaaHwNest
import Derived.Test.YtonoaimefgodfaaProg
set_option linter.unusedVariables false
set_option linter.unusedSimpArgs false
namespace Go.Hw.VK
open Go Go.Proofs
theorem _root_.Go.Proofs.Try.mixed : Try.prog.follows .mixedOrders = true := by kernel_rfl
structure GMark_Deed where
  Kind : Int
  From : Int
  To : Int
  N : Int
  deriving DecidableEq
def eGMark_Deed (a : GMark_Deed) : HV := .agg [ii a.Kind, ii a.From, ii a.To, ii a.N]
theorem enc_GMark_Deed : Enc eGMark_Deed 4 := ⟨fun a => (pvc (.int _ _) (pvc (.int _ _) (pvc (.int _ _) (pvc (.int _ _) pvn)))), fun _ => rfl, fun _ => rfl, fun _ => rfl⟩
instance : EncC eGMark_Deed 4 := ⟨enc_GMark_Deed⟩
instance (a : GMark_Deed) : PVi (eGMark_Deed a) := ⟨enc_GMark_Deed.all a⟩
instance (a : GMark_Deed) : PVl (eGMark_Deed a).cells := ⟨enc_GMark_Deed.pv a⟩
structure GMark_Shot where
  Done : Bool
  States : List (Int)
  Ways : List (List (List (Int)))
  Now : List (Int)
  Left : Int
  deriving DecidableEq
def eGMark_Shot (a : GMark_Shot) : HV := .agg [.bool a.Done, ln (eInt .i64) a.States, ln (eLst (eLst (eInt .i64))) a.Ways, ln (eInt .i64) a.Now, ii a.Left]
theorem enc_GMark_Shot : Enc eGMark_Shot 5 := ⟨fun a => (pvc (.bool _) (pvc (pv_lst (enc_int .i64) _ _ (by simp)) (pvc (pv_lst (enc_lst (enc_lst (enc_int .i64))) _ _ (by simp)) (pvc (pv_lst (enc_int .i64) _ _ (by simp)) (pvc (.int _ _) pvn))))), fun _ => rfl, fun _ => rfl, fun _ => rfl⟩
instance : EncC eGMark_Shot 5 := ⟨enc_GMark_Shot⟩
instance (a : GMark_Shot) : PVi (eGMark_Shot a) := ⟨enc_GMark_Shot.all a⟩
instance (a : GMark_Shot) : PVl (eGMark_Shot a).cells := ⟨enc_GMark_Shot.pv a⟩
@[reducible] def zg11 (r : Bool) : HV := .bool r
abbrev sp11 (p16 : List (Int)) (p17 : List (GMark_Deed)) (r : Bool) : Prop := PCall Try.prog 11 [ln (eInt .i64) p16, ln eGMark_Deed p17] (zg11 r)
@[reducible] def zg17 (r : Int) : HV := ii r
abbrev sp17 (p23 : Int) (p24 : Int) (r : Int) : Prop := PCall Try.prog 17 [ii p23, ii p24] (zg17 r)
@[reducible] def zg24 (r : Bool) : HV := .bool r
abbrev sp24 (p25 : List (Int)) (p26 : List (Int)) (r : Bool) : Prop := PCall Try.prog 24 [ln (eInt .i64) p25, ln (eInt .i64) p26] (zg24 r)
@[reducible] def zg37 (r : List (Int) × List (GMark_Deed) × Int) : HV := .tuple [ln (eInt .i64) r.1, ln eGMark_Deed r.2.1, ii r.2.2]
abbrev sp37 (p27 : List (Int)) (p28 : List (GMark_Deed)) (r : List (Int) × List (GMark_Deed) × Int) : Prop := PCall Try.prog 37 [ln (eInt .i64) p27, ln eGMark_Deed p28] (zg37 r)
@[reducible] def zg38 (r : GMark_Shot × Int) : HV := .tuple [eGMark_Shot r.1, ii r.2]
abbrev sp38 (p31 : List (Int)) (p32 : List (GMark_Deed)) (r : GMark_Shot × Int) : Prop := PCall Try.prog 38 [ln (eInt .i64) p31, ln eGMark_Deed p32] (zg38 r)
@[reducible] def zg39 (r : Bool) : HV := .bool r
abbrev sp39 (r : Bool) : Prop := PCall Try.prog 39 [] (zg39 r)
@[reducible] def zg46 (r : Bool) : HV := .bool r
abbrev sp46 (p39 : List (Int)) (p40 : Int) (r : Bool) : Prop := PCall Try.prog 46 [ln (eInt .i64) p39, ii p40] (zg46 r)
@[reducible] def zg47 (r : List (Int)) : HV := ln (eInt .i64) r
abbrev sp47 (p41 : List (Int)) (r : List (Int)) : Prop := PCall Try.prog 47 [ln (eInt .i64) p41] (zg47 r)
@[reducible] def zg48 (r : Int) : HV := ii r
abbrev sp48 (p42 : List (Int)) (p43 : Int) (r : Int) : Prop := PCall Try.prog 48 [ln (eInt .i64) p42, ii p43] (zg48 r)
@[reducible] def zg50 (r : Bool) : HV := .bool r
abbrev sp50 (p44 : List (Bool)) (p45 : Bool) (r : Bool) : Prop := PCall Try.prog 50 [ln eBool p44, .bool p45] (zg50 r)
@[reducible] def zg63 (r : Int) : HV := ii r
abbrev sp63 (p46 : List (Bool)) (p47 : Bool) (r : Int) : Prop := PCall Try.prog 63 [ln eBool p46, .bool p47] (zg63 r)
def hc11 : C := (.seq (.reg [oo 4 (.mv (.c (.bool false)))] [0, 1]) (.seq (.reg [mo 23 0, mo 24 1, co 25 (.call 37 [23, 24]), mo 22 25, oo 26 (.extract 22 0), oo 27 (.extract 22 1), oo 28 (.extract 22 2), mo 5 26, mo 6 27, mo 7 28] [5, 6, 7]) (.seq (.reg [mo 30 5, mo 31 6, co 32 (.call 38 [30, 31]), mo 29 32, oo 33 (.extract 29 0), oo 34 (.extract 29 1), oo 8 (.alloc none [(.bool false), (.list [] .full), (.list [] .full), (.list [] .full), (.int .i64 0)]), os (.store 5 8 33), mo 9 34] [5, 7, 8, 9]) (.seq (.seq (.reg [co 35 (.call 39 []), oo 36 (.un .not 35), mo 37 36, og 38 (.mv 9) 37 false, og 39 (.eqv true .int 38 (.c (.int .i64 0))) 37 false, oo 40 (.pick 37 (.c (.bool true)) 39)] [5, 7, 8, 40]) (.cond 40 (.seq (.reg [oo 4 (.mv (.c (.bool false)))] [4]) .ret) .skip)) (.seq (.reg [oo 41 (.faddr 4 1 8), oo 42 (.load none 41), mo 10 42] [5, 7, 8, 10]) (.seq (.seq (.reg [oo 43 (.faddr 3 1 8), oo 44 (.load none 43), oo 45 (.len false 44), oo 46 (.mv (.c (.int .i64 0)))] [5, 7, 8, 10, 44, 45, 46]) (.block 0 (.loop (.seq (.reg [oo 47 (.bin .lss 46 45)] [5, 7, 8, 10, 44, 45, 46, 47]) (.seq (.cond 47 .skip (.exit 0)) (.seq (.block 1 (.seq (.reg [oo 48 (.iaddr 1 44 46), oo 49 (.load none 48), mo 12 49] [5, 7, 8, 10, 12, 44, 45, 46]) (.reg [mo 50 10, mo 51 12, oo 52 (.bin .add 50 51), mo 10 52] [5, 7, 8, 10, 44, 45, 46]))) (.reg [oo 53 (.bin .add 46 (.c (.int .i64 1))), mo 46 53] [5, 7, 8, 10, 44, 45, 46]))))))) (.seq (.seq (.reg [mo 54 10, mo 55 7, oo 56 (.eqv true .int 54 55), mo 57 56, og 58 (.faddr 3 1 8) 57 false, og 59 (.load none 58) 57 false, og 60 (.len false 59) 57 false, og 61 (.mv 5) 57 false, og 62 (.len false 61) 57 false, og 63 (.eqv true .int 60 62) 57 false, oo 64 (.pick 57 (.c (.bool true)) 63)] [7, 8, 64]) (.cond 64 (.seq (.reg [oo 4 (.mv (.c (.bool false)))] [4]) .ret) .skip)) (.seq (.seq (.reg [oo 65 (.faddr 0 1 8), oo 66 (.load none 65), oo 67 (.un .not 66)] [7, 8, 67]) (.cond 67 (.seq (.reg [oo 68 (.faddr 1 1 8), oo 69 (.load none 68), oo 70 (.len false 69), oo 71 (.eqv false .int 70 (.c (.int .i64 0))), mo 4 71] [4]) .ret) .skip)) (.seq (.reg [oo 13 (.mv (.c (.int .i64 0)))] [7, 8, 13]) (.seq (.seq (.reg [oo 72 (.faddr 1 1 8), oo 73 (.load none 72), oo 74 (.len false 73), oo 75 (.mv (.c (.int .i64 0)))] [7, 8, 13, 73, 74, 75]) (.block 2 (.loop (.seq (.reg [oo 76 (.bin .lss 75 74)] [7, 8, 13, 73, 74, 75, 76]) (.seq (.cond 76 .skip (.exit 2)) (.seq (.block 3 (.seq (.reg [oo 77 (.iaddr 1 73 75), oo 78 (.load none 77), mo 15 78] [7, 8, 13, 15, 73, 74, 75]) (.reg [mo 79 13, mo 80 15, oo 81 (.bin .add 79 80), mo 13 81] [7, 8, 13, 73, 74, 75]))) (.reg [oo 82 (.bin .add 75 (.c (.int .i64 1))), mo 75 82] [7, 8, 13, 73, 74, 75]))))))) (.seq (.seq (.reg [oo 83 (.faddr 2 1 8), oo 84 (.load none 83), oo 85 (.len false 84), oo 86 (.mv (.c (.int .i64 0)))] [7, 13, 84, 85, 86]) (.block 4 (.loop (.seq (.reg [oo 87 (.bin .lss 86 85)] [7, 13, 84, 85, 86, 87]) (.seq (.cond 87 .skip (.exit 4)) (.seq (.block 5 (.seq (.reg [oo 88 (.iaddr 1 84 86), oo 89 (.load none 88), mo 17 89] [7, 13, 17, 84, 85, 86]) (.seq (.reg [mo 90 17, oo 91 (.len false 90), oo 92 (.mv (.c (.int .i64 0)))] [7, 13, 84, 85, 86, 90, 91, 92]) (.block 6 (.loop (.seq (.reg [oo 93 (.bin .lss 92 91)] [7, 13, 84, 85, 86, 90, 91, 92, 93]) (.seq (.cond 93 .skip (.exit 6)) (.seq (.block 7 (.seq (.reg [oo 94 (.iaddr 1 90 92), oo 95 (.load none 94), mo 19 95] [7, 13, 19, 84, 85, 86, 90, 91, 92]) (.seq (.reg [mo 96 19, oo 97 (.len false 96), oo 98 (.mv (.c (.int .i64 0)))] [7, 13, 84, 85, 86, 90, 91, 92, 96, 97, 98]) (.block 8 (.loop (.seq (.reg [oo 99 (.bin .lss 98 97)] [7, 13, 84, 85, 86, 90, 91, 92, 96, 97, 98, 99]) (.seq (.cond 99 .skip (.exit 8)) (.seq (.block 9 (.seq (.reg [oo 100 (.iaddr 1 96 98), oo 101 (.load none 100), mo 21 101] [7, 13, 21, 84, 85, 86, 90, 91, 92, 96, 97, 98]) (.reg [mo 102 13, mo 103 21, oo 104 (.bin .add 102 103), mo 13 104] [7, 13, 84, 85, 86, 90, 91, 92, 96, 97, 98]))) (.reg [oo 105 (.bin .add 98 (.c (.int .i64 1))), mo 98 105] [7, 13, 84, 85, 86, 90, 91, 92, 96, 97, 98]))))))))) (.reg [oo 106 (.bin .add 92 (.c (.int .i64 1))), mo 92 106] [7, 13, 84, 85, 86, 90, 91, 92]))))))))) (.reg [oo 107 (.bin .add 86 (.c (.int .i64 1))), mo 86 107] [7, 13, 84, 85, 86]))))))) (.seq (.reg [mo 108 13, mo 109 7, oo 110 (.eqv false .int 108 109), mo 4 110] [4]) .ret))))))))))))
def ha11 : Ann := ⟨[], [], [(0, [0, 1]), (1, [5, 6, 7]), (2, [5, 7, 8, 9]), (3, [5, 7, 8, 40]), (4, [4]), (5, [5, 7, 8, 10]), (6, [5, 7, 8, 10, 44, 45, 46]), (7, [5, 7, 8, 10, 44, 45, 46, 47]), (8, [5, 7, 8, 10, 12, 44, 45, 46]), (9, [5, 7, 8, 10, 44, 45, 46]), (10, [5, 7, 8, 10, 44, 45, 46]), (11, [7, 8, 64]), (12, [4]), (13, [7, 8, 67]), (14, [4]), (15, [7, 8, 13]), (16, [7, 8, 13, 73, 74, 75]), (17, [7, 8, 13, 73, 74, 75, 76]), (18, [7, 8, 13, 15, 73, 74, 75]), (19, [7, 8, 13, 73, 74, 75]), (20, [7, 8, 13, 73, 74, 75]), (21, [7, 13, 84, 85, 86]), (22, [7, 13, 84, 85, 86, 87]), (23, [7, 13, 17, 84, 85, 86]), (24, [7, 13, 84, 85, 86, 90, 91, 92]), (25, [7, 13, 84, 85, 86, 90, 91, 92, 93]), (26, [7, 13, 19, 84, 85, 86, 90, 91, 92]), (27, [7, 13, 84, 85, 86, 90, 91, 92, 96, 97, 98]), (28, [7, 13, 84, 85, 86, 90, 91, 92, 96, 97, 98, 99]), (29, [7, 13, 21, 84, 85, 86, 90, 91, 92, 96, 97, 98]), (30, [7, 13, 84, 85, 86, 90, 91, 92, 96, 97, 98]), (31, [7, 13, 84, 85, 86, 90, 91, 92, 96, 97, 98]), (32, [7, 13, 84, 85, 86, 90, 91, 92]), (33, [7, 13, 84, 85, 86]), (34, [4])], []⟩
theorem hk11 : comp Try.prog ha11 Try.f11.ntmps Try.f11.code = some hc11 := by kernel_rfl
def w11 (p1 : List (Int)) (p2 : List (GMark_Deed)) (Q : Bool → Prop) : Prop :=
  ∃ r3 : List (Int) × List (GMark_Deed) × Int, sp37 p1 p2 r3 ∧ ∃ r4 : GMark_Shot × Int, sp38 r3.1 r3.2.1 r4 ∧ ∃ r5 : Bool, sp39 r5 ∧ (((!r5) = true → Q false) ∧ ((!r5) = false → ((r4.2 ≠ (0 : Int) → Q false) ∧ (r4.2 = (0 : Int) → ∃ (I12 : Int → Int → Prop) (M13 : Int → Int → Nat), I12 r4.1.Left (0 : Int) ∧ ∀ (v6 : Int) (v7 : Int), I12 v6 v7 → ∀ v14 : Bool, v14 = decide (v7 < (r4.1.Now.length : Int)) → ((v14 = true → (0 ≤ v7 ∧ v7 < (r4.1.Now.length : Int)) ∧ ∀ a15 : Int, r4.1.Now[(v7 : Int).toNat]? = some a15 → (R64 (v6 + a15)) ∧ ∀ v16 : Int, v16 = v6 + a15 → (R64 (v7 + (1 : Int))) ∧ ∀ v17 : Int, v17 = v7 + (1 : Int) → (I12 v16 v17 ∧ M13 v16 v17 < M13 v6 v7)) ∧ (v14 = false → ((v6 ≠ r3.2.2 → Q false) ∧ (v6 = r3.2.2 → (((r4.1.Now.length : Int) ≠ (r3.1.length : Int) → Q false) ∧ ((r4.1.Now.length : Int) = (r3.1.length : Int) → (((!r4.1.Done) = true → ∀ v18 : Bool, v18 = (if false then !((r4.1.States.length : Int) == (0 : Int)) else ((r4.1.States.length : Int) == (0 : Int))) → Q v18) ∧ ((!r4.1.Done) = false → ∃ (I25 : Int → Int → Prop) (M26 : Int → Int → Nat), I25 (0 : Int) (0 : Int) ∧ ∀ (v19 : Int) (v20 : Int), I25 v19 v20 → ∀ v27 : Bool, v27 = decide (v20 < (r4.1.States.length : Int)) → ((v27 = true → (0 ≤ v20 ∧ v20 < (r4.1.States.length : Int)) ∧ ∀ a28 : Int, r4.1.States[(v20 : Int).toNat]? = some a28 → (R64 (v19 + a28)) ∧ ∀ v29 : Int, v29 = v19 + a28 → (R64 (v20 + (1 : Int))) ∧ ∀ v30 : Int, v30 = v20 + (1 : Int) → (I25 v29 v30 ∧ M26 v29 v30 < M26 v19 v20)) ∧ (v27 = false → ∃ (I70 : Int → Int → Prop) (M71 : Int → Int → Nat), I70 v19 (0 : Int) ∧ ∀ (v31 : Int) (v32 : Int), I70 v31 v32 → ∀ v72 : Bool, v72 = decide (v32 < (r4.1.Ways.length : Int)) → ((v72 = true → (0 ≤ v32 ∧ v32 < (r4.1.Ways.length : Int)) ∧ ∀ a73 : List (List (Int)), r4.1.Ways[(v32 : Int).toNat]? = some a73 → ∃ (I91 : Int → Int → Prop) (M92 : Int → Int → Nat), I91 v31 (0 : Int) ∧ ∀ (v74 : Int) (v75 : Int), I91 v74 v75 → ∀ v93 : Bool, v93 = decide (v75 < (a73.length : Int)) → ((v93 = true → (0 ≤ v75 ∧ v75 < (a73.length : Int)) ∧ ∀ a94 : List (Int), a73[(v75 : Int).toNat]? = some a94 → ∃ (I101 : Int → Int → Prop) (M102 : Int → Int → Nat), I101 v74 (0 : Int) ∧ ∀ (v95 : Int) (v96 : Int), I101 v95 v96 → ∀ v103 : Bool, v103 = decide (v96 < (a94.length : Int)) → ((v103 = true → (0 ≤ v96 ∧ v96 < (a94.length : Int)) ∧ ∀ a104 : Int, a94[(v96 : Int).toNat]? = some a104 → (R64 (v95 + a104)) ∧ ∀ v105 : Int, v105 = v95 + a104 → (R64 (v96 + (1 : Int))) ∧ ∀ v106 : Int, v106 = v96 + (1 : Int) → (I101 v105 v106 ∧ M102 v105 v106 < M102 v95 v96)) ∧ (v103 = false → (R64 (v75 + (1 : Int))) ∧ ∀ v107 : Int, v107 = v75 + (1 : Int) → (I91 v95 v107 ∧ M92 v95 v107 < M92 v74 v75)))) ∧ (v93 = false → (R64 (v32 + (1 : Int))) ∧ ∀ v108 : Int, v108 = v32 + (1 : Int) → (I70 v74 v108 ∧ M71 v74 v108 < M71 v31 v32)))) ∧ (v72 = false → ∀ v109 : Bool, v109 = (if false then !(v31 == r3.2.2) else (v31 == r3.2.2)) → Q v109))))))))))))))))
theorem ok11 (p1 : List (Int)) (p2 : List (GMark_Deed)) (r : Bool) (hw : w11 p1 p2 fun r' => r' = r) : sp11 p1 p2 r := by
  refine zf (rs := [.t 4]) (g := zg11) Try.func11 hk11 ?_
  unfold w11 at hw
  show SC Try.prog Try.f11.ntmps 0 hc11 _ [(0, ln (eInt .i64) p1), (1, ln eGMark_Deed p2)] []
  unfold hc11
  refine q_reg (st_mv rfl (g_endq [(0, ln (eInt .i64) p1), (1, ln eGMark_Deed p2)] rfl ?_))
  refine q_reg (st_mv rfl (st_mv rfl (k_call dh (ec rfl (ec rfl en)) rfl hw fun r3 hw => st_mv rfl (st_extract rfl rfl (st_extract rfl rfl (st_extract rfl rfl (st_mv rfl (st_mv rfl (st_mv rfl (g_endq [(5, ln (eInt .i64) r3.1), (6, ln eGMark_Deed r3.2.1), (7, ii r3.2.2)] rfl ?_))))))))))
  refine q_reg (st_mv rfl (st_mv rfl (k_call dh (ec rfl (ec rfl en)) rfl hw fun r4 hw => st_mv rfl (st_extract rfl rfl (st_extract rfl rfl (g_alloc (n := 0) rfl rfl (g_sp (v := eGMark_Shot r4.1) (h' := [.cells (HV.cells (eGMark_Shot r4.1))]) rfl rfl rfl (st_mv rfl (g_endq [(5, ln (eInt .i64) r3.1), (7, ii r3.2.2), (8, .ptr 0 0), (9, ii r4.2)] rfl ?_)))))))))
  refine sc_seq (q_reg (k_call dh en rfl hw fun r5 hw => st_not rfl (st_mv rfl (g_split rfl hw ?_ ?_))))
  · intro c hw
    rw [c]
    refine st_gtf rfl (st_gtf rfl (st_pick_t rfl rfl rfl (g_endq [(5, ln (eInt .i64) r3.1), (7, ii r3.2.2), (8, .ptr 0 0), (40, .bool true)] rfl ?_)))
    refine s_cond_t rfl (q_reg (st_mv rfl (g_endq [(4, .bool false)] rfl ?_)))
    exact sc_ret (sq_r (gr1 (g := zg11) (ho := fun _ => []) [.bool false] hw (.inr rfl) (wr [])))
  · intro c hw
    rw [c]
    refine st_g rfl (st_mv rfl (st_g rfl (g_nei rfl rfl hw (fun hw => st_pick_f rfl rfl rfl (g_endq [(5, ln (eInt .i64) r3.1), (7, ii r3.2.2), (8, .ptr 0 0), (40, .bool true)] rfl ?_)) (fun hw => st_pick_f rfl rfl rfl (g_endq [(5, ln (eInt .i64) r3.1), (7, ii r3.2.2), (8, .ptr 0 0), (40, .bool false)] rfl ?_)))))
    · refine s_cond_t rfl (q_reg (st_mv rfl (g_endq [(4, .bool false)] rfl ?_)))
      exact sc_ret (sq_r (gr1 (g := zg11) (ho := fun _ => []) [.bool false] hw (.inr rfl) (wr [])))
    · refine s_cond_f rfl (sc_skip (sq_n (q_reg (g_faddr_p rfl (g_load_p rfl rfl rfl (st_mv rfl (g_endq [(5, ln (eInt .i64) r3.1), (7, ii r3.2.2), (8, .ptr 0 0), (10, ii r4.1.Left)] rfl ?_)))))))
      refine sc_seq (q_reg (g_faddr_p rfl (g_load_p rfl rfl rfl (g_len rfl (st_mv rfl (g_endq [(5, ln (eInt .i64) r3.1), (7, ii r3.2.2), (8, .ptr 0 0), (10, ii r4.1.Left), (44, ln (eInt .i64) r4.1.Now), (45, ii (r4.1.Now.length : Int)), (46, ii 0)] rfl ?_))))))
      refine sc_block ?_
      obtain ⟨I12, M13, hi, hw⟩ := hw
      refine sc_loop (X := { x : Int × Int // I12 x.1 x.2 }) (fun x => ([(5, ln (eInt .i64) r3.1), (7, ii r3.2.2), (8, .ptr 0 0), (10, ii x.1.1), (44, ln (eInt .i64) r4.1.Now), (45, ii (r4.1.Now.length : Int)), (46, ii x.1.2)], [.cells (HV.cells (eGMark_Shot r4.1))])) (fun x => M13 x.1.1 x.1.2) ⟨(r4.1.Left, (0 : Int)), hi⟩ ws ?_
      rintro ⟨⟨v6, v7⟩, hi2⟩
      have hw := hw v6 v7 hi2
      clear hi
      refine q_reg (gb_cmp rfl rfl trivial rfl hw fun v14 hw => g_endq [(5, ln (eInt .i64) r3.1), (7, ii r3.2.2), (8, .ptr 0 0), (10, ii v6), (44, ln (eInt .i64) r4.1.Now), (45, ii (r4.1.Now.length : Int)), (46, ii v7), (47, .bool v14)] rfl ?_)
      refine sc_seq (s_cond rfl hw (fun hw => ?_) (fun hw => ?_))
      · refine sc_skip (sq_n (sc_seq (sc_block (q_reg (g_iaddr (enc_int .i64) rfl rfl hw fun a15 hw => st_load_r rfl rfl (st_mv rfl (g_endq [(5, ln (eInt .i64) r3.1), (7, ii r3.2.2), (8, .ptr 0 0), (10, ii v6), (12, ii a15), (44, ln (eInt .i64) r4.1.Now), (45, ii (r4.1.Now.length : Int)), (46, ii v7)] rfl ?_)))))))
        refine s_reg (st_mv rfl (st_mv rfl (g_add rfl rfl hw fun v16 hw => st_mv rfl (g_end [(5, ln (eInt .i64) r3.1), (7, ii r3.2.2), (8, .ptr 0 0), (10, ii v16), (44, ln (eInt .i64) r4.1.Now), (45, ii (r4.1.Now.length : Int)), (46, ii v7)] rfl ?_))))
        refine bl_n (sq_n (s_reg (g_add rfl rfl hw fun v17 hw => st_mv rfl (g_end [(5, ln (eInt .i64) r3.1), (7, ii r3.2.2), (8, .ptr 0 0), (10, ii v16), (44, ln (eInt .i64) r4.1.Now), (45, ii (r4.1.Now.length : Int)), (46, ii v17)] rfl ?_))))
        exact lo_n ⟨(v16, v17), hw.1⟩ hw.2 ws
      · refine sc_exit (sq_x (lo_x (bl_x (sq_n (sc_seq (q_reg (st_mv rfl (st_mv rfl (g_nei rfl rfl hw (fun hw => st_mv rfl (st_gtf rfl (st_gtf rfl (st_gtf rfl (st_gtf rfl (st_gtf rfl (st_gtf rfl (st_pick_t rfl rfl rfl (g_endq [(7, ii r3.2.2), (8, .ptr 0 0), (64, .bool true)] rfl ?_))))))))) (fun hw => st_mv rfl (st_g rfl (g_faddr_p rfl (st_g rfl (g_load_p rfl rfl rfl (st_g rfl (g_len rfl (st_g rfl (st_mv rfl (st_g rfl (g_len rfl (st_g rfl (g_nei rfl rfl hw (fun hw => st_pick_f rfl rfl rfl (g_endq [(7, ii r3.2.2), (8, .ptr 0 0), (64, .bool true)] rfl ?_)) (fun hw => st_pick_f rfl rfl rfl (g_endq [(7, ii r3.2.2), (8, .ptr 0 0), (64, .bool false)] rfl ?_))))))))))))))))))))))))
        · refine s_cond_t rfl (q_reg (st_mv rfl (g_endq [(4, .bool false)] rfl ?_)))
          exact sc_ret (sq_r (gr1 (g := zg11) (ho := fun _ => []) [.bool false] hw (.inr rfl) (wr [])))
        · refine s_cond_t rfl (q_reg (st_mv rfl (g_endq [(4, .bool false)] rfl ?_)))
          exact sc_ret (sq_r (gr1 (g := zg11) (ho := fun _ => []) [.bool false] hw (.inr rfl) (wr [])))
        · refine s_cond_f rfl (sc_skip (sq_n (sc_seq (q_reg (g_faddr_p rfl (g_load_p rfl rfl rfl (st_not rfl (g_endq [(7, ii r3.2.2), (8, .ptr 0 0), (67, .bool (!r4.1.Done))] rfl ?_))))))))
          refine s_cond rfl hw (fun hw => ?_) (fun hw => ?_)
          · refine q_reg (g_faddr_p rfl (g_load_p rfl rfl rfl (g_len rfl (gb_eqi rfl rfl hw fun v18 hw => st_mv rfl (g_endq [(4, .bool v18)] rfl ?_)))))
            exact sc_ret (sq_r (gr1 (g := zg11) (ho := fun _ => []) [.bool v18] hw (.inr rfl) (wr [])))
          · refine sc_skip (sq_n (q_reg (st_mv rfl (g_endq [(7, ii r3.2.2), (8, .ptr 0 0), (13, ii 0)] rfl ?_))))
            refine sc_seq (q_reg (g_faddr_p rfl (g_load_p rfl rfl rfl (g_len rfl (st_mv rfl (g_endq [(7, ii r3.2.2), (8, .ptr 0 0), (13, ii 0), (73, ln (eInt .i64) r4.1.States), (74, ii (r4.1.States.length : Int)), (75, ii 0)] rfl ?_))))))
            refine sc_block ?_
            obtain ⟨I25, M26, hi, hw⟩ := hw
            refine sc_loop (X := { x : Int × Int // I25 x.1 x.2 }) (fun x => ([(7, ii r3.2.2), (8, .ptr 0 0), (13, ii x.1.1), (73, ln (eInt .i64) r4.1.States), (74, ii (r4.1.States.length : Int)), (75, ii x.1.2)], [.cells (HV.cells (eGMark_Shot r4.1))])) (fun x => M26 x.1.1 x.1.2) ⟨((0 : Int), (0 : Int)), hi⟩ ws ?_
            rintro ⟨⟨v19, v20⟩, hi2⟩
            have hw := hw v19 v20 hi2
            clear hi
            refine q_reg (gb_cmp rfl rfl trivial rfl hw fun v27 hw => g_endq [(7, ii r3.2.2), (8, .ptr 0 0), (13, ii v19), (73, ln (eInt .i64) r4.1.States), (74, ii (r4.1.States.length : Int)), (75, ii v20), (76, .bool v27)] rfl ?_)
            refine sc_seq (s_cond rfl hw (fun hw => ?_) (fun hw => ?_))
            · refine sc_skip (sq_n (sc_seq (sc_block (q_reg (g_iaddr (enc_int .i64) rfl rfl hw fun a28 hw => st_load_r rfl rfl (st_mv rfl (g_endq [(7, ii r3.2.2), (8, .ptr 0 0), (13, ii v19), (15, ii a28), (73, ln (eInt .i64) r4.1.States), (74, ii (r4.1.States.length : Int)), (75, ii v20)] rfl ?_)))))))
              refine s_reg (st_mv rfl (st_mv rfl (g_add rfl rfl hw fun v29 hw => st_mv rfl (g_end [(7, ii r3.2.2), (8, .ptr 0 0), (13, ii v29), (73, ln (eInt .i64) r4.1.States), (74, ii (r4.1.States.length : Int)), (75, ii v20)] rfl ?_))))
              refine bl_n (sq_n (s_reg (g_add rfl rfl hw fun v30 hw => st_mv rfl (g_end [(7, ii r3.2.2), (8, .ptr 0 0), (13, ii v29), (73, ln (eInt .i64) r4.1.States), (74, ii (r4.1.States.length : Int)), (75, ii v30)] rfl ?_))))
              exact lo_n ⟨(v29, v30), hw.1⟩ hw.2 ws
            · refine sc_exit (sq_x (lo_x (bl_x (sq_n (sc_seq (q_reg (g_faddr_p rfl (g_load_p rfl rfl rfl (g_len rfl (st_mv rfl (g_endq [(7, ii r3.2.2), (13, ii v19), (84, ln (eLst (eLst (eInt .i64))) r4.1.Ways), (85, ii (r4.1.Ways.length : Int)), (86, ii 0)] rfl ?_)))))))))))
              refine sc_block ?_
              obtain ⟨I70, M71, hi, hw⟩ := hw
              refine sc_loop (X := { x : Int × Int // I70 x.1 x.2 }) (fun x => ([(7, ii r3.2.2), (13, ii x.1.1), (84, ln (eLst (eLst (eInt .i64))) r4.1.Ways), (85, ii (r4.1.Ways.length : Int)), (86, ii x.1.2)], [])) (fun x => M71 x.1.1 x.1.2) ⟨(v19, (0 : Int)), hi⟩ (wr []) ?_
              rintro ⟨⟨v31, v32⟩, hi2⟩
              have hw := hw v31 v32 hi2
              clear hi
              refine q_reg (gb_cmp rfl rfl trivial rfl hw fun v72 hw => g_endq [(7, ii r3.2.2), (13, ii v31), (84, ln (eLst (eLst (eInt .i64))) r4.1.Ways), (85, ii (r4.1.Ways.length : Int)), (86, ii v32), (87, .bool v72)] rfl ?_)
              refine sc_seq (s_cond rfl hw (fun hw => ?_) (fun hw => ?_))
              · refine sc_skip (sq_n (sc_seq (sc_block (q_reg (g_iaddr (enc_lst (enc_lst (enc_int .i64))) rfl rfl hw fun a73 hw => st_load_r rfl rfl (st_mv rfl (g_endq [(7, ii r3.2.2), (13, ii v31), (17, ln (eLst (eInt .i64)) a73), (84, ln (eLst (eLst (eInt .i64))) r4.1.Ways), (85, ii (r4.1.Ways.length : Int)), (86, ii v32)] rfl ?_)))))))
                refine q_reg (st_mv rfl (g_len rfl (st_mv rfl (g_endq [(7, ii r3.2.2), (13, ii v31), (84, ln (eLst (eLst (eInt .i64))) r4.1.Ways), (85, ii (r4.1.Ways.length : Int)), (86, ii v32), (90, ln (eLst (eInt .i64)) a73), (91, ii (a73.length : Int)), (92, ii 0)] rfl ?_))))
                refine sc_block ?_
                obtain ⟨I91, M92, hi, hw⟩ := hw
                refine sc_loop (X := { x : Int × Int // I91 x.1 x.2 }) (fun x => ([(7, ii r3.2.2), (13, ii x.1.1), (84, ln (eLst (eLst (eInt .i64))) r4.1.Ways), (85, ii (r4.1.Ways.length : Int)), (86, ii v32), (90, ln (eLst (eInt .i64)) a73), (91, ii (a73.length : Int)), (92, ii x.1.2)], [])) (fun x => M92 x.1.1 x.1.2) ⟨(v31, (0 : Int)), hi⟩ ws ?_
                rintro ⟨⟨v74, v75⟩, hi2⟩
                have hw := hw v74 v75 hi2
                clear hi
                refine q_reg (gb_cmp rfl rfl trivial rfl hw fun v93 hw => g_endq [(7, ii r3.2.2), (13, ii v74), (84, ln (eLst (eLst (eInt .i64))) r4.1.Ways), (85, ii (r4.1.Ways.length : Int)), (86, ii v32), (90, ln (eLst (eInt .i64)) a73), (91, ii (a73.length : Int)), (92, ii v75), (93, .bool v93)] rfl ?_)
                refine sc_seq (s_cond rfl hw (fun hw => ?_) (fun hw => ?_))
                · refine sc_skip (sq_n (sc_seq (sc_block (q_reg (g_iaddr (enc_lst (enc_int .i64)) rfl rfl hw fun a94 hw => st_load_r rfl rfl (st_mv rfl (g_endq [(7, ii r3.2.2), (13, ii v74), (19, ln (eInt .i64) a94), (84, ln (eLst (eLst (eInt .i64))) r4.1.Ways), (85, ii (r4.1.Ways.length : Int)), (86, ii v32), (90, ln (eLst (eInt .i64)) a73), (91, ii (a73.length : Int)), (92, ii v75)] rfl ?_)))))))
                  refine q_reg (st_mv rfl (g_len rfl (st_mv rfl (g_endq [(7, ii r3.2.2), (13, ii v74), (84, ln (eLst (eLst (eInt .i64))) r4.1.Ways), (85, ii (r4.1.Ways.length : Int)), (86, ii v32), (90, ln (eLst (eInt .i64)) a73), (91, ii (a73.length : Int)), (92, ii v75), (96, ln (eInt .i64) a94), (97, ii (a94.length : Int)), (98, ii 0)] rfl ?_))))
                  refine sc_block ?_
                  obtain ⟨I101, M102, hi, hw⟩ := hw
                  refine sc_loop (X := { x : Int × Int // I101 x.1 x.2 }) (fun x => ([(7, ii r3.2.2), (13, ii x.1.1), (84, ln (eLst (eLst (eInt .i64))) r4.1.Ways), (85, ii (r4.1.Ways.length : Int)), (86, ii v32), (90, ln (eLst (eInt .i64)) a73), (91, ii (a73.length : Int)), (92, ii v75), (96, ln (eInt .i64) a94), (97, ii (a94.length : Int)), (98, ii x.1.2)], [])) (fun x => M102 x.1.1 x.1.2) ⟨(v74, (0 : Int)), hi⟩ ws ?_
                  rintro ⟨⟨v95, v96⟩, hi2⟩
                  have hw := hw v95 v96 hi2
                  clear hi
                  refine q_reg (gb_cmp rfl rfl trivial rfl hw fun v103 hw => g_endq [(7, ii r3.2.2), (13, ii v95), (84, ln (eLst (eLst (eInt .i64))) r4.1.Ways), (85, ii (r4.1.Ways.length : Int)), (86, ii v32), (90, ln (eLst (eInt .i64)) a73), (91, ii (a73.length : Int)), (92, ii v75), (96, ln (eInt .i64) a94), (97, ii (a94.length : Int)), (98, ii v96), (99, .bool v103)] rfl ?_)
                  refine sc_seq (s_cond rfl hw (fun hw => ?_) (fun hw => ?_))
                  · refine sc_skip (sq_n (sc_seq (sc_block (q_reg (g_iaddr (enc_int .i64) rfl rfl hw fun a104 hw => st_load_r rfl rfl (st_mv rfl (g_endq [(7, ii r3.2.2), (13, ii v95), (21, ii a104), (84, ln (eLst (eLst (eInt .i64))) r4.1.Ways), (85, ii (r4.1.Ways.length : Int)), (86, ii v32), (90, ln (eLst (eInt .i64)) a73), (91, ii (a73.length : Int)), (92, ii v75), (96, ln (eInt .i64) a94), (97, ii (a94.length : Int)), (98, ii v96)] rfl ?_)))))))
                    refine s_reg (st_mv rfl (st_mv rfl (g_add rfl rfl hw fun v105 hw => st_mv rfl (g_end [(7, ii r3.2.2), (13, ii v105), (84, ln (eLst (eLst (eInt .i64))) r4.1.Ways), (85, ii (r4.1.Ways.length : Int)), (86, ii v32), (90, ln (eLst (eInt .i64)) a73), (91, ii (a73.length : Int)), (92, ii v75), (96, ln (eInt .i64) a94), (97, ii (a94.length : Int)), (98, ii v96)] rfl ?_))))
                    refine bl_n (sq_n (s_reg (g_add rfl rfl hw fun v106 hw => st_mv rfl (g_end [(7, ii r3.2.2), (13, ii v105), (84, ln (eLst (eLst (eInt .i64))) r4.1.Ways), (85, ii (r4.1.Ways.length : Int)), (86, ii v32), (90, ln (eLst (eInt .i64)) a73), (91, ii (a73.length : Int)), (92, ii v75), (96, ln (eInt .i64) a94), (97, ii (a94.length : Int)), (98, ii v106)] rfl ?_))))
                    exact lo_n ⟨(v105, v106), hw.1⟩ hw.2 ws
                  · refine sc_exit (sq_x (lo_x (bl_x (bl_n (sq_n (s_reg (g_add rfl rfl hw fun v107 hw => st_mv rfl (g_end [(7, ii r3.2.2), (13, ii v95), (84, ln (eLst (eLst (eInt .i64))) r4.1.Ways), (85, ii (r4.1.Ways.length : Int)), (86, ii v32), (90, ln (eLst (eInt .i64)) a73), (91, ii (a73.length : Int)), (92, ii v107)] rfl ?_))))))))
                    exact lo_n ⟨(v95, v107), hw.1⟩ hw.2 ws
                · refine sc_exit (sq_x (lo_x (bl_x (bl_n (sq_n (s_reg (g_add rfl rfl hw fun v108 hw => st_mv rfl (g_end [(7, ii r3.2.2), (13, ii v74), (84, ln (eLst (eLst (eInt .i64))) r4.1.Ways), (85, ii (r4.1.Ways.length : Int)), (86, ii v108)] rfl ?_))))))))
                  exact lo_n ⟨(v74, v108), hw.1⟩ hw.2 ws
              · refine sc_exit (sq_x (lo_x (bl_x (sq_n (q_reg (st_mv rfl (st_mv rfl (gb_eqi rfl rfl hw fun v109 hw => st_mv rfl (g_endq [(4, .bool v109)] rfl ?_)))))))))
                exact sc_ret (gr1 (g := zg11) (ho := fun _ => []) [.bool v109] hw (.inr rfl) ws)
def hc17 : C := (.seq (.reg [oo 4 (.mv (.c (.int .i64 0)))] [0, 1]) (.seq (.seq (.reg [mo 5 0, oo 6 (.bin .lss 5 (.c (.int .i64 0)))] [0, 1, 6]) (.cond 6 (.reg [mo 7 0, oo 8 (.bin .add 7 (.c (.int .i64 1))), oo 9 (.un .neg 8), mo 0 9] [0, 1]) .skip)) (.seq (.reg [mo 10 0, mo 11 1, oo 12 (.bin .rem 10 11), mo 4 12] [4]) .ret)))
def ha17 : Ann := ⟨[], [], [(0, [0, 1]), (1, [0, 1, 6]), (2, [0, 1]), (3, [4])], []⟩
theorem hk17 : comp Try.prog ha17 Try.f17.ntmps Try.f17.code = some hc17 := by kernel_rfl
def w17 (p1 : Int) (p2 : Int) (Q : Int → Prop) : Prop :=
  ∃ J4 : Int → Prop, (((p1 < (0 : Int) → (R64 (p1 + (1 : Int))) ∧ ∀ v5 : Int, v5 = p1 + (1 : Int) → (-9223372036854775807 ≤ v5 ∧ v5 ≤ 9223372036854775807) ∧ ∀ v6 : Int, v6 = -(v5) → J4 v6) ∧ ((0 : Int) ≤ p1 → J4 p1))) ∧ ∀ (v3 : Int), J4 v3 → (p2 ≠ 0) ∧ ∀ v7 : Int, v7 = (v3).tmod p2 → Q v7
theorem ok17 (p1 : Int) (p2 : Int) (r : Int) (hw : w17 p1 p2 fun r' => r' = r) : sp17 p1 p2 r := by
  refine zf (rs := [.t 4]) (g := zg17) Try.func17 hk17 ?_
  unfold w17 at hw
  show SC Try.prog Try.f17.ntmps 0 hc17 _ [(0, ii p1), (1, ii p2)] []
  unfold hc17
  refine q_reg (st_mv rfl (g_endq [(0, ii p1), (1, ii p2)] rfl ?_))
  obtain ⟨J4, hw, hk⟩ := hw
  refine sc_join (A := Int) (fun x => J4 x) (fun x => ([(0, ii x), (1, ii p2)], [])) ?_ ?_
  · rintro v3 hj
    have hw := hk v3 hj
    clear hk hj
    refine q_reg (st_mv rfl (st_mv rfl (g_rem rfl rfl hw fun v7 hw => st_mv rfl (g_endq [(4, ii v7)] rfl ?_))))
    exact sc_ret (gr1 (g := zg17) (ho := fun _ => []) [ii v7] hw (.inr rfl) ws)
  · clear hk
    refine q_reg (st_mv rfl (g_lss rfl rfl hw (fun hw => g_endq [(0, ii p1), (1, ii p2), (6, .bool true)] rfl ?_) (fun hw => g_endq [(0, ii p1), (1, ii p2), (6, .bool false)] rfl ?_)))
    · refine s_cond_t rfl (s_reg (st_mv rfl (g_add rfl rfl hw fun v5 hw => g_neg rfl hw fun v6 hw => st_mv rfl (g_end [(0, ii v6), (1, ii p2)] rfl ?_))))
      exact jo_n v6 hw ws
    · exact s_cond_f rfl (sc_skip (jo_n p1 hw ws))
def hc24 : C := (.seq (.reg [oo 4 (.mv (.c (.bool false)))] [0, 1]) (.seq (.seq (.reg [mo 6 0, oo 7 (.len false 6), mo 8 1, oo 9 (.len false 8), oo 10 (.eqv true .int 7 9)] [0, 1, 10]) (.cond 10 (.seq (.reg [oo 4 (.mv (.c (.bool false)))] [4]) .ret) .skip)) (.seq (.seq (.reg [mo 11 0, oo 12 (.len false 11), oo 13 (.mv (.c (.int .i64 0)))] [0, 1, 12, 13]) (.block 0 (.loop (.seq (.reg [oo 14 (.bin .lss 13 12)] [0, 1, 12, 13, 14]) (.seq (.cond 14 .skip (.exit 0)) (.seq (.block 1 (.seq (.reg [mo 15 13, mo 5 15] [0, 1, 5, 12, 13]) (.seq (.dreg [mo 16 0, mo 17 5, oo 18 (.iaddr 1 16 17), oo 19 (.load none 18), mo 20 1, mo 21 5, oo 22 (.iaddr 1 20 21), oo 23 (.load none 22), oo 24 (.eqv true .int 19 23)] [] 0 [0, 1, 12, 13, 24]) (.cond 24 (.seq (.reg [oo 4 (.mv (.c (.bool false)))] [4]) .ret) .skip)))) (.reg [oo 25 (.bin .add 13 (.c (.int .i64 1))), mo 13 25] [0, 1, 12, 13]))))))) (.seq (.reg [oo 4 (.mv (.c (.bool true)))] [4]) .ret))))
def ha24 : Ann := ⟨[], [], [(0, [0, 1]), (1, [0, 1, 10]), (2, [4]), (3, [0, 1, 12, 13]), (4, [0, 1, 12, 13, 14]), (5, [0, 1, 5, 12, 13]), (6, [0, 1, 12, 13, 24]), (7, [4]), (8, [0, 1, 12, 13]), (9, [4])], []⟩
theorem hk24 : comp Try.prog ha24 Try.f24.ntmps Try.f24.code = some hc24 := by kernel_rfl
def w24 (p1 : List (Int)) (p2 : List (Int)) (Q : Bool → Prop) : Prop :=
  (((p1.length : Int) ≠ (p2.length : Int) → Q false) ∧ ((p1.length : Int) = (p2.length : Int) → ∃ (I8 : Int → Prop) (M9 : Int → Nat), I8 (0 : Int) ∧ ∀ (v3 : Int), I8 v3 → ∀ v10 : Bool, v10 = decide (v3 < (p1.length : Int)) → ((v10 = true → (0 ≤ v3 ∧ v3 < (p1.length : Int)) ∧ ∀ a11 : Int, p1[(v3 : Int).toNat]? = some a11 → (0 ≤ v3 ∧ v3 < (p2.length : Int)) ∧ ∀ a12 : Int, p2[(v3 : Int).toNat]? = some a12 → ((a11 ≠ a12 → Q false) ∧ (a11 = a12 → (R64 (v3 + (1 : Int))) ∧ ∀ v13 : Int, v13 = v3 + (1 : Int) → (I8 v13 ∧ M9 v13 < M9 v3)))) ∧ (v10 = false → Q true))))
theorem ok24 (p1 : List (Int)) (p2 : List (Int)) (r : Bool) (hw : w24 p1 p2 fun r' => r' = r) : sp24 p1 p2 r := by
  refine zf (rs := [.t 4]) (g := zg24) Try.func24 hk24 ?_
  unfold w24 at hw
  show SC Try.prog Try.f24.ntmps 0 hc24 _ [(0, ln (eInt .i64) p1), (1, ln (eInt .i64) p2)] []
  unfold hc24
  refine q_reg (st_mv rfl (g_endq [(0, ln (eInt .i64) p1), (1, ln (eInt .i64) p2)] rfl ?_))
  refine sc_seq (q_reg (st_mv rfl (g_len rfl (st_mv rfl (g_len rfl (g_nei rfl rfl hw (fun hw => g_endq [(0, ln (eInt .i64) p1), (1, ln (eInt .i64) p2), (10, .bool true)] rfl ?_) (fun hw => g_endq [(0, ln (eInt .i64) p1), (1, ln (eInt .i64) p2), (10, .bool false)] rfl ?_)))))))
  · refine s_cond_t rfl (q_reg (st_mv rfl (g_endq [(4, .bool false)] rfl ?_)))
    exact sc_ret (sq_r (gr1 (g := zg24) (ho := fun _ => []) [.bool false] hw (.inr rfl) ws))
  · refine s_cond_f rfl (sc_skip (sq_n (sc_seq (q_reg (st_mv rfl (g_len rfl (st_mv rfl (g_endq [(0, ln (eInt .i64) p1), (1, ln (eInt .i64) p2), (12, ii (p1.length : Int)), (13, ii 0)] rfl ?_))))))))
    refine sc_block ?_
    obtain ⟨I8, M9, hi, hw⟩ := hw
    refine sc_loop (X := { x : Int // I8 x }) (fun x => ([(0, ln (eInt .i64) p1), (1, ln (eInt .i64) p2), (12, ii (p1.length : Int)), (13, ii x.1)], [])) (fun x => M9 x.1) ⟨(0 : Int), hi⟩ ws ?_
    rintro ⟨v3, hi2⟩
    have hw := hw v3 hi2
    clear hi
    refine q_reg (gb_cmp rfl rfl trivial rfl hw fun v10 hw => g_endq [(0, ln (eInt .i64) p1), (1, ln (eInt .i64) p2), (12, ii (p1.length : Int)), (13, ii v3), (14, .bool v10)] rfl ?_)
    refine sc_seq (s_cond rfl hw (fun hw => ?_) (fun hw => ?_))
    · refine sc_skip (sq_n (sc_seq (sc_block (q_reg (st_mv rfl (st_mv rfl (g_endq [(0, ln (eInt .i64) p1), (1, ln (eInt .i64) p2), (5, ii v3), (12, ii (p1.length : Int)), (13, ii v3)] rfl ?_)))))))
      refine sc_seq (s_dreg Try.mixed rfl (st_mv rfl (st_mv rfl (g_iaddr (enc_int .i64) rfl rfl hw fun a11 hw => st_load_r rfl rfl (st_mv rfl (st_mv rfl (g_iaddr (enc_int .i64) rfl rfl hw fun a12 hw => st_load_r rfl rfl (g_nei rfl rfl hw (fun hw => st_mid (g_end [(0, ln (eInt .i64) p1), (1, ln (eInt .i64) p2), (12, ii (p1.length : Int)), (13, ii v3), (24, .bool true)] rfl ?_)) (fun hw => st_mid (g_end [(0, ln (eInt .i64) p1), (1, ln (eInt .i64) p2), (12, ii (p1.length : Int)), (13, ii v3), (24, .bool false)] rfl ?_))))))))))
      · refine sq_n (s_cond_t rfl (q_reg (st_mv rfl (g_endq [(4, .bool false)] rfl ?_))))
        exact sc_ret (bl_r (sq_r (lo_r (bl_r (sq_r (gr1 (g := zg24) (ho := fun _ => []) [.bool false] hw (.inr rfl) ws))))))
      · refine sq_n (s_cond_f rfl (sc_skip (bl_n (sq_n (s_reg (g_add rfl rfl hw fun v13 hw => st_mv rfl (g_end [(0, ln (eInt .i64) p1), (1, ln (eInt .i64) p2), (12, ii (p1.length : Int)), (13, ii v13)] rfl ?_)))))))
        exact lo_n ⟨v13, hw.1⟩ hw.2 ws
    · refine sc_exit (sq_x (lo_x (bl_x (sq_n (q_reg (st_mv rfl (g_endq [(4, .bool true)] rfl ?_)))))))
      exact sc_ret (gr1 (g := zg24) (ho := fun _ => []) [.bool true] hw (.inr rfl) ws)
def hc37 : C := (.seq (.reg [oo 4 (.mv (.c (.list [] .full))), oo 5 (.mv (.c (.list [] .full))), oo 6 (.mv (.c (.int .i64 0)))] [0, 1]) (.seq (.reg [oo 14 (.mklist 1 [(.c (.int .i64 10))]), mo 7 14] [0, 1, 7]) (.seq (.reg [oo 8 (.mv (.c (.int .i64 10)))] [0, 1, 7, 8]) (.seq (.seq (.reg [mo 15 0, oo 16 (.len false 15), oo 17 (.mv (.c (.int .i64 0)))] [1, 7, 8, 15, 16, 17]) (.block 0 (.loop (.seq (.reg [oo 18 (.bin .lss 17 16)] [1, 7, 8, 15, 16, 17, 18]) (.seq (.cond 18 .skip (.exit 0)) (.seq (.block 1 (.seq (.reg [mo 19 17, oo 20 (.iaddr 1 15 17), oo 21 (.load none 20), mo 9 19, mo 10 21] [1, 7, 8, 9, 10, 15, 16, 17]) (.seq (.reg [mo 22 9, oo 23 (.bin .lss 22 (.c (.int .i64 4)))] [1, 7, 8, 10, 15, 16, 17, 23]) (.cond 23 (.seq (.reg [mo 24 7, mo 25 10, co 26 (.call 17 [25, (.c (.int .i64 50))]), oo 27 (.mklist 1 [26]), oo 28 (.append 1 8 24 27), mo 7 28] [1, 7, 8, 10, 15, 16, 17]) (.reg [mo 29 8, mo 30 10, co 31 (.call 17 [30, (.c (.int .i64 50))]), oo 32 (.bin .add 29 31), mo 8 32] [1, 7, 8, 15, 16, 17])) .skip)))) (.reg [oo 33 (.bin .add 17 (.c (.int .i64 1))), mo 17 33] [1, 7, 8, 15, 16, 17]))))))) (.seq (.reg [oo 11 (.mv (.c (.list [] .full)))] [1, 7, 8, 11]) (.seq (.seq (.reg [mo 34 1, oo 35 (.len false 34), oo 36 (.mv (.c (.int .i64 0)))] [7, 8, 11, 34, 35, 36]) (.block 2 (.loop (.seq (.reg [oo 37 (.bin .lss 36 35)] [7, 8, 11, 34, 35, 36, 37]) (.seq (.cond 37 .skip (.exit 2)) (.seq (.block 3 (.seq (.reg [mo 38 36, oo 39 (.iaddr 4 34 36), oo 40 (.load (some 4) 39), oo 13 (.alloc none [(.int .i64 0), (.int .i64 0), (.int .i64 0), (.int .i64 0)]), mo 12 38, os (.store 4 13 40)] [7, 8, 11, 12, 13, 34, 35, 36]) (.seq (.reg [mo 41 12, oo 42 (.bin .lss 41 (.c (.int .i64 150)))] [7, 8, 11, 13, 34, 35, 36, 42]) (.cond 42 (.dreg [mo 43 11, oo 44 (.faddr 0 1 13), oo 45 (.load none 44), co 46 (.call 17 [45, (.c (.int .i64 3))]), oo 47 (.bin .add (.c (.int .i64 1)) 46), oo 48 (.faddr 1 1 13), oo 49 (.load none 48), mo 50 7, oo 51 (.len false 50), co 52 (.call 17 [49, 51]), oo 53 (.faddr 2 1 13), oo 54 (.load none 53), mo 55 7, oo 56 (.len false 55), co 57 (.call 17 [54, 56]), oo 58 (.faddr 3 1 13), oo 59 (.load none 58), co 60 (.call 17 [59, (.c (.int .i64 12))]), oo 61 (.bin .add (.c (.int .i64 1)) 60), oo 62 (.build [(.int .i64 0), (.int .i64 0), (.int .i64 0), (.int .i64 0)] [(0, 1, 47), (1, 1, 52), (2, 1, 57), (3, 1, 61)]), oo 63 (.mklist 4 [62]), oo 64 (.append 4 32 43 63), mo 11 64] [] 0 [7, 8, 11, 34, 35, 36]) .skip)))) (.reg [oo 65 (.bin .add 36 (.c (.int .i64 1))), mo 36 65] [7, 8, 11, 34, 35, 36]))))))) (.seq (.reg [mo 66 7, mo 67 11, mo 68 8, mo 4 66, mo 5 67, mo 6 68] [4, 5, 6]) .ret)))))))
def ha37 : Ann := ⟨[], [], [(0, [0, 1]), (1, [0, 1, 7]), (2, [0, 1, 7, 8]), (3, [1, 7, 8, 15, 16, 17]), (4, [1, 7, 8, 15, 16, 17, 18]), (5, [1, 7, 8, 9, 10, 15, 16, 17]), (6, [1, 7, 8, 10, 15, 16, 17, 23]), (7, [1, 7, 8, 10, 15, 16, 17]), (8, [1, 7, 8, 15, 16, 17]), (9, [1, 7, 8, 15, 16, 17]), (10, [1, 7, 8, 11]), (11, [7, 8, 11, 34, 35, 36]), (12, [7, 8, 11, 34, 35, 36, 37]), (13, [7, 8, 11, 12, 13, 34, 35, 36]), (14, [7, 8, 11, 13, 34, 35, 36, 42]), (15, [7, 8, 11, 34, 35, 36]), (16, [7, 8, 11, 34, 35, 36]), (17, [4, 5, 6])], []⟩
theorem hk37 : comp Try.prog ha37 Try.f37.ntmps Try.f37.code = some hc37 := by kernel_rfl
def w37 (p1 : List (Int)) (p2 : List (GMark_Deed)) (Q : List (Int) × List (GMark_Deed) × Int → Prop) : Prop :=
  ∃ (I14 : (List Int) → Int → Int → Prop) (M15 : (List Int) → Int → Int → Nat), I14 ([(10 : Int)] : List Int) (10 : Int) (0 : Int) ∧ ∀ (v3 : List Int) (v4 : Int) (v5 : Int), I14 v3 v4 v5 → ∀ v16 : Bool, v16 = decide (v5 < (p1.length : Int)) → ((v16 = true → (0 ≤ v5 ∧ v5 < (p1.length : Int)) ∧ ∀ a17 : Int, p1[(v5 : Int).toNat]? = some a17 → ((v5 < (4 : Int) → ∃ r18 : Int, sp17 a17 (50 : Int) r18 ∧ ((v3.length + ([r18] : List Int).length) * 8 ≤ 140737488355328) ∧ ∀ v19 : List Int, v19 = v3 ++ ([r18] : List Int) → ∃ r20 : Int, sp17 a17 (50 : Int) r20 ∧ (R64 (v4 + r20)) ∧ ∀ v21 : Int, v21 = v4 + r20 → (R64 (v5 + (1 : Int))) ∧ ∀ v22 : Int, v22 = v5 + (1 : Int) → (I14 v19 v21 v22 ∧ M15 v19 v21 v22 < M15 v3 v4 v5)) ∧ ((4 : Int) ≤ v5 → (R64 (v5 + (1 : Int))) ∧ ∀ v23 : Int, v23 = v5 + (1 : Int) → (I14 v3 v4 v23 ∧ M15 v3 v4 v23 < M15 v3 v4 v5)))) ∧ (v16 = false → ∃ (I37 : (List GMark_Deed) → Int → Prop) (M38 : (List GMark_Deed) → Int → Nat), I37 ([] : List GMark_Deed) (0 : Int) ∧ ∀ (v24 : List GMark_Deed) (v25 : Int), I37 v24 v25 → ∀ v39 : Bool, v39 = decide (v25 < (p2.length : Int)) → ((v39 = true → (0 ≤ v25 ∧ v25 < (p2.length : Int)) ∧ ∀ a40 : GMark_Deed, p2[(v25 : Int).toNat]? = some a40 → ((v25 < (150 : Int) → ∃ r41 : Int, sp17 a40.Kind (3 : Int) r41 ∧ (R64 ((1 : Int) + r41)) ∧ ∀ v42 : Int, v42 = (1 : Int) + r41 → ∃ r43 : Int, sp17 a40.From (v3.length : Int) r43 ∧ ∃ r44 : Int, sp17 a40.To (v3.length : Int) r44 ∧ ∃ r45 : Int, sp17 a40.N (12 : Int) r45 ∧ (R64 ((1 : Int) + r45)) ∧ ∀ v46 : Int, v46 = (1 : Int) + r45 → ((v24.length + ([(GMark_Deed.mk v42 r43 r44 v46)] : List GMark_Deed).length) * 32 ≤ 140737488355328) ∧ ∀ v47 : List GMark_Deed, v47 = v24 ++ ([(GMark_Deed.mk v42 r43 r44 v46)] : List GMark_Deed) → (R64 (v25 + (1 : Int))) ∧ ∀ v48 : Int, v48 = v25 + (1 : Int) → (I37 v47 v48 ∧ M38 v47 v48 < M38 v24 v25)) ∧ ((150 : Int) ≤ v25 → (R64 (v25 + (1 : Int))) ∧ ∀ v49 : Int, v49 = v25 + (1 : Int) → (I37 v24 v49 ∧ M38 v24 v49 < M38 v24 v25)))) ∧ (v39 = false → Q (v3, v24, v4)))))
theorem ok37 (p1 : List (Int)) (p2 : List (GMark_Deed)) (r : List (Int) × List (GMark_Deed) × Int) (hw : w37 p1 p2 fun r' => r' = r) : sp37 p1 p2 r := by
  refine zf (rs := [.t 4, .t 5, .t 6]) (g := zg37) Try.func37 hk37 ?_
  unfold w37 at hw
  show SC Try.prog Try.f37.ntmps 0 hc37 _ [(0, ln (eInt .i64) p1), (1, ln eGMark_Deed p2)] []
  unfold hc37
  refine q_reg (st_mv rfl (st_mv rfl (st_mv rfl (g_endq [(0, ln (eInt .i64) p1), (1, ln eGMark_Deed p2)] rfl ?_))))
  refine q_reg (g_mkl (enc_int .i64) [(10 : Int)] (ec rfl en) rfl (mz mkn) (st_mv rfl (g_endq [(0, ln (eInt .i64) p1), (1, ln eGMark_Deed p2), (7, lf (eInt .i64) ([(10 : Int)] : List Int))] rfl ?_)))
  refine q_reg (st_mv rfl (g_endq [(0, ln (eInt .i64) p1), (1, ln eGMark_Deed p2), (7, lf (eInt .i64) ([(10 : Int)] : List Int)), (8, ii 10)] rfl ?_))
  refine sc_seq (q_reg (st_mv rfl (g_len rfl (st_mv rfl (g_endq [(1, ln eGMark_Deed p2), (7, lf (eInt .i64) ([(10 : Int)] : List Int)), (8, ii 10), (15, ln (eInt .i64) p1), (16, ii (p1.length : Int)), (17, ii 0)] rfl ?_)))))
  refine sc_block ?_
  obtain ⟨I14, M15, hi, hw⟩ := hw
  refine sc_loop (X := { x : List Int × Int × Int // I14 x.1 x.2.1 x.2.2 }) (fun x => ([(1, ln eGMark_Deed p2), (7, .list (List.map (eInt .i64) x.1.1) (.own 0 1 1)), (8, ii x.1.2.1), (15, ln (eInt .i64) p1), (16, ii (p1.length : Int)), (17, ii x.1.2.2)], [.tok (1 + x.1.1.length)])) (fun x => M15 x.1.1 x.1.2.1 x.1.2.2) ⟨(([(10 : Int)] : List Int), (10 : Int), (0 : Int)), hi⟩ ((w_acc (l := ([(10 : Int)] : List Int)) 7 1 (n := 0) rfl (enc_int .i64) rfl).trans ws) ?_
  rintro ⟨⟨v3, v4, v5⟩, hi2⟩
  have hw := hw v3 v4 v5 hi2
  clear hi
  refine q_reg (gb_cmp rfl rfl trivial rfl hw fun v16 hw => g_endq [(1, ln eGMark_Deed p2), (7, .list (List.map (eInt .i64) v3) (.own 0 1 1)), (8, ii v4), (15, ln (eInt .i64) p1), (16, ii (p1.length : Int)), (17, ii v5), (18, .bool v16)] rfl ?_)
  refine sc_seq (s_cond rfl hw (fun hw => ?_) (fun hw => ?_))
  · refine sc_skip (sq_n (sc_seq (sc_block (q_reg (st_mv rfl (g_iaddr (enc_int .i64) rfl rfl hw fun a17 hw => st_load_r rfl rfl (st_mv rfl (st_mv rfl (g_endq [(1, ln eGMark_Deed p2), (7, .list (List.map (eInt .i64) v3) (.own 0 1 1)), (8, ii v4), (9, ii v5), (10, ii a17), (15, ln (eInt .i64) p1), (16, ii (p1.length : Int)), (17, ii v5)] rfl ?_)))))))))
    refine q_reg (st_mv rfl (g_lss rfl rfl hw (fun hw => g_endq [(1, ln eGMark_Deed p2), (7, .list (List.map (eInt .i64) v3) (.own 0 1 1)), (8, ii v4), (10, ii a17), (15, ln (eInt .i64) p1), (16, ii (p1.length : Int)), (17, ii v5), (23, .bool true)] rfl ?_) (fun hw => g_endq [(1, ln eGMark_Deed p2), (7, .list (List.map (eInt .i64) v3) (.own 0 1 1)), (8, ii v4), (10, ii a17), (15, ln (eInt .i64) p1), (16, ii (p1.length : Int)), (17, ii v5), (23, .bool false)] rfl ?_)))
    · refine s_cond_t rfl (q_reg (st_mv rfl (st_mv rfl (k_call dh (ec rfl (ec rfl en)) rfl hw fun r18 hw => g_mkl (enc_int .i64) [r18] (ec rfl en) rfl (mz mkn) (g_appo (enc_int .i64) rfl rfl rfl hw (fun z => [.tok (1 + z.length)]) (fun _ => rfl) fun v19 hw => st_mv rfl (g_endq [(1, ln eGMark_Deed p2), (7, .list (List.map (eInt .i64) v19) (.own 0 1 1)), (8, ii v4), (10, ii a17), (15, ln (eInt .i64) p1), (16, ii (p1.length : Int)), (17, ii v5)] rfl ?_))))))
      refine s_reg (st_mv rfl (st_mv rfl (k_call dh (ec rfl (ec rfl en)) rfl hw fun r20 hw => g_add rfl rfl hw fun v21 hw => st_mv rfl (g_end [(1, ln eGMark_Deed p2), (7, .list (List.map (eInt .i64) v19) (.own 0 1 1)), (8, ii v21), (15, ln (eInt .i64) p1), (16, ii (p1.length : Int)), (17, ii v5)] rfl ?_))))
      refine bl_n (sq_n (s_reg (g_add rfl rfl hw fun v22 hw => st_mv rfl (g_end [(1, ln eGMark_Deed p2), (7, .list (List.map (eInt .i64) v19) (.own 0 1 1)), (8, ii v21), (15, ln (eInt .i64) p1), (16, ii (p1.length : Int)), (17, ii v22)] rfl ?_))))
      exact lo_n ⟨(v19, v21, v22), hw.1⟩ hw.2 ws
    · refine s_cond_f rfl (sc_skip (bl_n (sq_n (s_reg (g_add rfl rfl hw fun v23 hw => st_mv rfl (g_end [(1, ln eGMark_Deed p2), (7, .list (List.map (eInt .i64) v3) (.own 0 1 1)), (8, ii v4), (15, ln (eInt .i64) p1), (16, ii (p1.length : Int)), (17, ii v23)] rfl ?_))))))
      exact lo_n ⟨(v3, v4, v23), hw.1⟩ hw.2 ws
  · refine sc_exit (sq_x (lo_x (bl_x (sq_n (q_reg (st_mv rfl (g_endq [(1, ln eGMark_Deed p2), (7, .list (List.map (eInt .i64) v3) (.own 0 1 1)), (8, ii v4), (11, nl eGMark_Deed)] rfl ?_)))))))
    refine sc_seq (q_reg (st_mv rfl (g_len rfl (st_mv rfl (g_endq [(7, .list (List.map (eInt .i64) v3) (.own 0 1 1)), (8, ii v4), (11, nl eGMark_Deed), (34, ln eGMark_Deed p2), (35, ii (p2.length : Int)), (36, ii 0)] rfl ?_)))))
    refine sc_block ?_
    obtain ⟨I37, M38, hi, hw⟩ := hw
    refine sc_loop (X := { x : List GMark_Deed × Int // I37 x.1 x.2 }) (fun x => ([(7, .list (List.map (eInt .i64) v3) (.own 0 1 1)), (8, ii v4), (11, .list (List.map eGMark_Deed x.1.1) (.own 1 1 4)), (34, ln eGMark_Deed p2), (35, ii (p2.length : Int)), (36, ii x.1.2)], [.tok (1 + v3.length), .tok (1 + x.1.1.length)])) (fun x => M38 x.1.1 x.1.2) ⟨(([] : List GMark_Deed), (0 : Int)), hi⟩ ((w_acc (l := ([] : List GMark_Deed)) 11 4 (n := 1) rfl enc_GMark_Deed rfl).trans ws) ?_
    rintro ⟨⟨v24, v25⟩, hi2⟩
    have hw := hw v24 v25 hi2
    clear hi
    refine q_reg (gb_cmp rfl rfl trivial rfl hw fun v39 hw => g_endq [(7, .list (List.map (eInt .i64) v3) (.own 0 1 1)), (8, ii v4), (11, .list (List.map eGMark_Deed v24) (.own 1 1 4)), (34, ln eGMark_Deed p2), (35, ii (p2.length : Int)), (36, ii v25), (37, .bool v39)] rfl ?_)
    refine sc_seq (s_cond rfl hw (fun hw => ?_) (fun hw => ?_))
    · refine sc_skip (sq_n (sc_seq (sc_block (q_reg (st_mv rfl (g_iaddr enc_GMark_Deed rfl rfl hw fun a40 hw => st_load_r (v := eGMark_Deed a40) rfl rfl (g_alloc (n := 2) rfl rfl (st_mv rfl (g_sp (v := eGMark_Deed a40) (h' := [.tok (1 + v3.length), .tok (1 + v24.length), .cells (HV.cells (eGMark_Deed a40))]) rfl rfl rfl (g_endq [(7, .list (List.map (eInt .i64) v3) (.own 0 1 1)), (8, ii v4), (11, .list (List.map eGMark_Deed v24) (.own 1 1 4)), (12, ii v25), (13, .ptr 2 0), (34, ln eGMark_Deed p2), (35, ii (p2.length : Int)), (36, ii v25)] rfl ?_))))))))))
      refine q_reg (st_mv rfl (g_lss rfl rfl hw (fun hw => g_endq [(7, .list (List.map (eInt .i64) v3) (.own 0 1 1)), (8, ii v4), (11, .list (List.map eGMark_Deed v24) (.own 1 1 4)), (13, .ptr 2 0), (34, ln eGMark_Deed p2), (35, ii (p2.length : Int)), (36, ii v25), (42, .bool true)] rfl ?_) (fun hw => g_endq [(7, .list (List.map (eInt .i64) v3) (.own 0 1 1)), (8, ii v4), (11, .list (List.map eGMark_Deed v24) (.own 1 1 4)), (13, .ptr 2 0), (34, ln eGMark_Deed p2), (35, ii (p2.length : Int)), (36, ii v25), (42, .bool false)] rfl ?_)))
      · refine s_cond_t rfl (s_dreg Try.mixed rfl (st_mv rfl (g_faddr_p rfl (g_load_p rfl rfl rfl (k_call dd (ec rfl (ec rfl en)) rfl hw fun r41 hw => g_add rfl rfl hw fun v42 hw => g_faddr_p rfl (g_load_p rfl rfl rfl (st_mv rfl (g_len rfl (k_call dd (ec rfl (ec rfl en)) rfl hw fun r43 hw => g_faddr_p rfl (g_load_p rfl rfl rfl (st_mv rfl (g_len rfl (k_call dd (ec rfl (ec rfl en)) rfl hw fun r44 hw => g_faddr_p rfl (g_load_p rfl rfl rfl (k_call dd (ec rfl (ec rfl en)) rfl hw fun r45 hw => g_add rfl rfl hw fun v46 hw => g_build (cs := [ii v42, ii r43, ii r44, ii v46]) (ep_cons rfl (ep_cons rfl (ep_cons rfl (ep_cons rfl ep_nil)))) rfl (g_mkl enc_GMark_Deed [(GMark_Deed.mk v42 r43 r44 v46)] (ec rfl en) rfl (mz mkn) (g_appo enc_GMark_Deed rfl rfl rfl hw (fun z => [.tok (1 + v3.length), .tok (1 + z.length), .cells (HV.cells (eGMark_Deed a40))]) (fun _ => rfl) fun v47 hw => st_mv rfl (st_mid (g_end [(7, .list (List.map (eInt .i64) v3) (.own 0 1 1)), (8, ii v4), (11, .list (List.map eGMark_Deed v47) (.own 1 1 4)), (34, ln eGMark_Deed p2), (35, ii (p2.length : Int)), (36, ii v25)] rfl ?_)))))))))))))))))))
        refine bl_n (sq_n (s_reg (g_add rfl rfl hw fun v48 hw => st_mv rfl (g_end [(7, .list (List.map (eInt .i64) v3) (.own 0 1 1)), (8, ii v4), (11, .list (List.map eGMark_Deed v47) (.own 1 1 4)), (34, ln eGMark_Deed p2), (35, ii (p2.length : Int)), (36, ii v48)] rfl ?_))))
        exact lo_n ⟨(v47, v48), hw.1⟩ hw.2 (wr [0, 1])
      · refine s_cond_f rfl (sc_skip (bl_n (sq_n (s_reg (g_add rfl rfl hw fun v49 hw => st_mv rfl (g_end [(7, .list (List.map (eInt .i64) v3) (.own 0 1 1)), (8, ii v4), (11, .list (List.map eGMark_Deed v24) (.own 1 1 4)), (34, ln eGMark_Deed p2), (35, ii (p2.length : Int)), (36, ii v49)] rfl ?_))))))
        exact lo_n ⟨(v24, v49), hw.1⟩ hw.2 (wr [0, 1])
    · refine sc_exit (sq_x (lo_x (bl_x (sq_n (q_reg (st_mv rfl (st_mv rfl (st_mv rfl (st_mv rfl (st_mv rfl (st_mv rfl (g_endq [(4, .list (List.map (eInt .i64) v3) (.own 0 1 1)), (5, .list (List.map eGMark_Deed v24) (.own 1 1 4)), (6, ii v4)] rfl ?_))))))))))))
      exact sc_ret (gr (g := zg37) (ho := fun _ => []) [.list (List.map (eInt .i64) v3) (.own 0 1 1), .list (List.map eGMark_Deed v24) (.own 1 1 4), ii v4] [ln (eInt .i64) v3, ln eGMark_Deed v24, ii v4] hw (.inr rfl) (wr []))
def hc39 : C := (.seq (.reg [oo 0 (.mv (.c (.bool false)))] []) (.seq (.reg [oo 4 (.mklist 1 [(.c (.int .i64 5)), (.c (.int .i64 3))]), oo 5 (.build [(.int .i64 0), (.int .i64 0), (.int .i64 0), (.int .i64 0)] [(0, 1, (.c (.int .i64 1))), (2, 1, (.c (.int .i64 1))), (3, 1, (.c (.int .i64 2)))]), oo 6 (.build [(.int .i64 0), (.int .i64 0), (.int .i64 0), (.int .i64 0)] [(0, 1, (.c (.int .i64 3))), (1, 1, (.c (.int .i64 1)))]), oo 7 (.build [(.int .i64 0), (.int .i64 0), (.int .i64 0), (.int .i64 0)] [(0, 1, (.c (.int .i64 2))), (2, 1, (.c (.int .i64 1)))]), oo 8 (.build [(.int .i64 0), (.int .i64 0), (.int .i64 0), (.int .i64 0)] [(0, 1, (.c (.int .i64 2))), (1, 1, (.c (.int .i64 1)))]), oo 9 (.build [(.int .i64 0), (.int .i64 0), (.int .i64 0), (.int .i64 0)] [(0, 1, (.c (.int .i64 2))), (2, 1, (.c (.int .i64 1)))]), oo 10 (.mklist 4 [5, 6, 7, 8, 9]), co 11 (.call 38 [4, 10]), mo 3 11, oo 12 (.extract 3 0), oo 13 (.extract 3 1), oo 1 (.alloc none [(.bool false), (.list [] .full), (.list [] .full), (.list [] .full), (.int .i64 0)]), os (.store 5 1 12), mo 2 13] [1, 2]) (.seq (.reg [mo 14 2, oo 15 (.eqv false .int 14 (.c (.int .i64 0))), mo 16 15, og 17 (.faddr 0 1 1) 16 true, og 18 (.load none 17) 16 true, oo 19 (.pick 16 18 (.c (.bool false))), mo 20 19, og 21 (.faddr 1 1 1) 20 true, og 22 (.load none 21) 20 true, og 23 (.mklist 1 [(.c (.int .i64 3)), (.c (.int .i64 3))]) 20 true, cg 24 (.call 24 [22, 23]) 20 true, oo 25 (.pick 20 24 (.c (.bool false))), mo 26 25, og 27 (.faddr 3 1 1) 26 true, og 28 (.load none 27) 26 true, og 29 (.mklist 1 [(.c (.int .i64 3)), (.c (.int .i64 5))]) 26 true, cg 30 (.call 24 [28, 29]) 26 true, oo 31 (.pick 26 30 (.c (.bool false))), mo 32 31, og 33 (.faddr 2 1 1) 32 true, og 34 (.load none 33) 32 true, og 35 (.len false 34) 32 true, og 36 (.eqv false .int 35 (.c (.int .i64 2))) 32 true, oo 37 (.pick 32 36 (.c (.bool false))), mo 38 37, og 39 (.faddr 2 1 1) 38 true, og 40 (.load none 39) 38 true, og 41 (.iaddr 1 40 (.c (.int .i64 1))) 38 true, og 42 (.load none 41) 38 true, og 43 (.len false 42) 38 true, og 44 (.eqv false .int 43 (.c (.int .i64 1))) 38 true, oo 45 (.pick 38 44 (.c (.bool false))), mo 46 45, og 47 (.faddr 2 1 1) 46 true, og 48 (.load none 47) 46 true, og 49 (.iaddr 1 48 (.c (.int .i64 1))) 46 true, og 50 (.load none 49) 46 true, og 51 (.iaddr 1 50 (.c (.int .i64 0))) 46 true, og 52 (.load none 51) 46 true, og 53 (.mklist 1 [(.c (.int .i64 2))]) 46 true, cg 54 (.call 24 [52, 53]) 46 true, oo 55 (.pick 46 54 (.c (.bool false))), mo 0 55] [0]) .ret)))
def ha39 : Ann := ⟨[], [], [(0, []), (1, [1, 2]), (2, [0])], []⟩
theorem hk39 : comp Try.prog ha39 Try.f39.ntmps Try.f39.code = some hc39 := by kernel_rfl
def w39  (Q : Bool → Prop) : Prop :=
  ∃ r1 : GMark_Shot × Int, sp38 ([(5 : Int), (3 : Int)] : List Int) ([(GMark_Deed.mk (1 : Int) (0 : Int) (1 : Int) (2 : Int)), (GMark_Deed.mk (3 : Int) (1 : Int) (0 : Int) (0 : Int)), (GMark_Deed.mk (2 : Int) (0 : Int) (1 : Int) (0 : Int)), (GMark_Deed.mk (2 : Int) (1 : Int) (0 : Int) (0 : Int)), (GMark_Deed.mk (2 : Int) (0 : Int) (1 : Int) (0 : Int))] : List GMark_Deed) r1 ∧ ((r1.2 = (0 : Int) → ((r1.1.Done = true → ∃ r2 : Bool, sp24 r1.1.States ([(3 : Int), (3 : Int)] : List Int) r2 ∧ ((r2 = true → ∃ r3 : Bool, sp24 r1.1.Now ([(3 : Int), (5 : Int)] : List Int) r3 ∧ ((r3 = true → (((r1.1.Ways.length : Int) = (2 : Int) → (0 ≤ (1 : Int) ∧ (1 : Int) < (r1.1.Ways.length : Int)) ∧ ∀ a4 : List (List (Int)), r1.1.Ways[((1 : Int) : Int).toNat]? = some a4 → (((a4.length : Int) = (1 : Int) → (0 ≤ (1 : Int) ∧ (1 : Int) < (r1.1.Ways.length : Int)) ∧ ∀ a5 : List (List (Int)), r1.1.Ways[((1 : Int) : Int).toNat]? = some a5 → (0 ≤ (0 : Int) ∧ (0 : Int) < (a5.length : Int)) ∧ ∀ a6 : List (Int), a5[((0 : Int) : Int).toNat]? = some a6 → ∃ r7 : Bool, sp24 a6 ([(2 : Int)] : List Int) r7 ∧ Q r7) ∧ ((a4.length : Int) ≠ (1 : Int) → Q false))) ∧ ((r1.1.Ways.length : Int) ≠ (2 : Int) → Q false))) ∧ (r3 = false → Q false))) ∧ (r2 = false → Q false))) ∧ (r1.1.Done = false → Q false))) ∧ (r1.2 ≠ (0 : Int) → Q false))
theorem ok39  (r : Bool) (hw : w39  fun r' => r' = r) : sp39  r := by
  refine zf (rs := [.t 0]) (g := zg39) Try.func39 hk39 ?_
  unfold w39 at hw
  show SC Try.prog Try.f39.ntmps 0 hc39 _ [] []
  unfold hc39
  refine q_reg (st_mv rfl (g_endq [] rfl ?_))
  refine q_reg (g_mkl (enc_int .i64) [(5 : Int), (3 : Int)] (ec rfl (ec rfl en)) rfl (mz (mz mkn)) (g_build (cs := [ii 1, ii 0, ii 1, ii 2]) (ep_cons rfl (ep_cons rfl (ep_cons rfl ep_nil))) rfl (g_build (cs := [ii 3, ii 1, ii 0, ii 0]) (ep_cons rfl (ep_cons rfl ep_nil)) rfl (g_build (cs := [ii 2, ii 0, ii 1, ii 0]) (ep_cons rfl (ep_cons rfl ep_nil)) rfl (g_build (cs := [ii 2, ii 1, ii 0, ii 0]) (ep_cons rfl (ep_cons rfl ep_nil)) rfl (g_build (cs := [ii 2, ii 0, ii 1, ii 0]) (ep_cons rfl (ep_cons rfl ep_nil)) rfl (g_mkl enc_GMark_Deed [(GMark_Deed.mk (1 : Int) (0 : Int) (1 : Int) (2 : Int)), (GMark_Deed.mk (3 : Int) (1 : Int) (0 : Int) (0 : Int)), (GMark_Deed.mk (2 : Int) (0 : Int) (1 : Int) (0 : Int)), (GMark_Deed.mk (2 : Int) (1 : Int) (0 : Int) (0 : Int)), (GMark_Deed.mk (2 : Int) (0 : Int) (1 : Int) (0 : Int))] (ec rfl (ec rfl (ec rfl (ec rfl (ec rfl en))))) rfl (mz (mz (mz (mz (mz mkn))))) (k_call dh (ec rfl (ec rfl en)) rfl hw fun r1 hw => st_mv rfl (st_extract rfl rfl (st_extract rfl rfl (g_alloc (n := 0) rfl rfl (g_sp (v := eGMark_Shot r1.1) (h' := [.cells (HV.cells (eGMark_Shot r1.1))]) rfl rfl rfl (st_mv rfl (g_endq [(1, .ptr 0 0), (2, ii r1.2)] rfl ?_))))))))))))))
  refine q_reg (st_mv rfl (g_eqi rfl rfl hw (fun hw => st_mv rfl (st_g rfl (g_faddr_p rfl (st_g rfl (g_load_p rfl rfl rfl (st_pick_t rfl rfl rfl (st_mv rfl (g_split rfl hw ?_ ?_)))))))) (fun hw => st_mv rfl (st_gft rfl (st_gft rfl (st_pick_f rfl rfl rfl (st_mv rfl (st_gft rfl (st_gft rfl (st_gft rfl (st_gft rfl (st_pick_f rfl rfl rfl (st_mv rfl (st_gft rfl (st_gft rfl (st_gft rfl (st_gft rfl (st_pick_f rfl rfl rfl (st_mv rfl (st_gft rfl (st_gft rfl (st_gft rfl (st_gft rfl (st_pick_f rfl rfl rfl (st_mv rfl (st_gft rfl (st_gft rfl (st_gft rfl (st_gft rfl (st_gft rfl (st_gft rfl (st_pick_f rfl rfl rfl (st_mv rfl (st_gft rfl (st_gft rfl (st_gft rfl (st_gft rfl (st_gft rfl (st_gft rfl (st_gft rfl (st_gft rfl (st_pick_f rfl rfl rfl (st_mv rfl (g_endq [(0, .bool false)] rfl ?_))))))))))))))))))))))))))))))))))))))))))))
  · intro c hw
    rw [c]
    refine st_g rfl (g_faddr_p rfl (st_g rfl (g_load_p rfl rfl rfl (st_g rfl (g_mkl (enc_int .i64) [(3 : Int), (3 : Int)] (ec rfl (ec rfl en)) rfl (mz (mz mkn)) (st_g rfl (k_call dh (ec rfl (ec rfl en)) rfl hw fun r2 hw => st_pick_t rfl rfl rfl (st_mv rfl (g_split rfl hw ?_ ?_)))))))))
    · intro c hw
      rw [c]
      refine st_g rfl (g_faddr_p rfl (st_g rfl (g_load_p rfl rfl rfl (st_g rfl (g_mkl (enc_int .i64) [(3 : Int), (5 : Int)] (ec rfl (ec rfl en)) rfl (mz (mz mkn)) (st_g rfl (k_call dh (ec rfl (ec rfl en)) rfl hw fun r3 hw => st_pick_t rfl rfl rfl (st_mv rfl (g_split rfl hw ?_ ?_)))))))))
      · intro c hw
        rw [c]
        refine st_g rfl (g_faddr_p rfl (st_g rfl (g_load_p rfl rfl rfl (st_g rfl (g_len rfl (st_g rfl (g_eqi rfl rfl hw (fun hw => st_pick_t rfl rfl rfl (st_mv rfl (st_g rfl (g_faddr_p rfl (st_g rfl (g_load_p rfl rfl rfl (st_g rfl (g_iaddr (enc_lst (enc_lst (enc_int .i64))) rfl rfl hw fun a4 hw => st_g rfl (st_load_r rfl rfl (st_g rfl (g_len rfl (st_g rfl (g_eqi rfl rfl hw (fun hw => st_pick_t rfl rfl rfl (st_mv rfl (st_g rfl (g_faddr_p rfl (st_g rfl (g_load_p rfl rfl rfl (st_g rfl (g_iaddr (enc_lst (enc_lst (enc_int .i64))) rfl rfl hw fun a5 hw => st_g rfl (st_load_r rfl rfl (st_g rfl (g_iaddr (enc_lst (enc_int .i64)) rfl rfl hw fun a6 hw => st_g rfl (st_load_r rfl rfl (st_g rfl (g_mkl (enc_int .i64) [(2 : Int)] (ec rfl en) rfl (mz mkn) (st_g rfl (k_call dh (ec rfl (ec rfl en)) rfl hw fun r7 hw => st_pick_t rfl rfl rfl (st_mv rfl (g_endq [(0, .bool r7)] rfl ?_)))))))))))))))))) (fun hw => st_pick_t rfl rfl rfl (st_mv rfl (st_gft rfl (st_gft rfl (st_gft rfl (st_gft rfl (st_gft rfl (st_gft rfl (st_gft rfl (st_gft rfl (st_pick_f rfl rfl rfl (st_mv rfl (g_endq [(0, .bool false)] rfl ?_)))))))))))))))))))))))))) (fun hw => st_pick_t rfl rfl rfl (st_mv rfl (st_gft rfl (st_gft rfl (st_gft rfl (st_gft rfl (st_gft rfl (st_gft rfl (st_pick_f rfl rfl rfl (st_mv rfl (st_gft rfl (st_gft rfl (st_gft rfl (st_gft rfl (st_gft rfl (st_gft rfl (st_gft rfl (st_gft rfl (st_pick_f rfl rfl rfl (st_mv rfl (g_endq [(0, .bool false)] rfl ?_))))))))))))))))))))))))))))
        · exact sc_ret (gr1 (g := zg39) (ho := fun _ => []) [.bool r7] hw (.inr rfl) (wr []))
        · exact sc_ret (gr1 (g := zg39) (ho := fun _ => []) [.bool false] hw (.inr rfl) (wr []))
        · exact sc_ret (gr1 (g := zg39) (ho := fun _ => []) [.bool false] hw (.inr rfl) (wr []))
      · intro c hw
        rw [c]
        refine st_gft rfl (st_gft rfl (st_gft rfl (st_gft rfl (st_pick_f rfl rfl rfl (st_mv rfl (st_gft rfl (st_gft rfl (st_gft rfl (st_gft rfl (st_gft rfl (st_gft rfl (st_pick_f rfl rfl rfl (st_mv rfl (st_gft rfl (st_gft rfl (st_gft rfl (st_gft rfl (st_gft rfl (st_gft rfl (st_gft rfl (st_gft rfl (st_pick_f rfl rfl rfl (st_mv rfl (g_endq [(0, .bool false)] rfl ?_))))))))))))))))))))))))
        exact sc_ret (gr1 (g := zg39) (ho := fun _ => []) [.bool false] hw (.inr rfl) (wr []))
    · intro c hw
      rw [c]
      refine st_gft rfl (st_gft rfl (st_gft rfl (st_gft rfl (st_pick_f rfl rfl rfl (st_mv rfl (st_gft rfl (st_gft rfl (st_gft rfl (st_gft rfl (st_pick_f rfl rfl rfl (st_mv rfl (st_gft rfl (st_gft rfl (st_gft rfl (st_gft rfl (st_gft rfl (st_gft rfl (st_pick_f rfl rfl rfl (st_mv rfl (st_gft rfl (st_gft rfl (st_gft rfl (st_gft rfl (st_gft rfl (st_gft rfl (st_gft rfl (st_gft rfl (st_pick_f rfl rfl rfl (st_mv rfl (g_endq [(0, .bool false)] rfl ?_))))))))))))))))))))))))))))))
      exact sc_ret (gr1 (g := zg39) (ho := fun _ => []) [.bool false] hw (.inr rfl) (wr []))
  · intro c hw
    rw [c]
    refine st_gft rfl (st_gft rfl (st_gft rfl (st_gft rfl (st_pick_f rfl rfl rfl (st_mv rfl (st_gft rfl (st_gft rfl (st_gft rfl (st_gft rfl (st_pick_f rfl rfl rfl (st_mv rfl (st_gft rfl (st_gft rfl (st_gft rfl (st_gft rfl (st_pick_f rfl rfl rfl (st_mv rfl (st_gft rfl (st_gft rfl (st_gft rfl (st_gft rfl (st_gft rfl (st_gft rfl (st_pick_f rfl rfl rfl (st_mv rfl (st_gft rfl (st_gft rfl (st_gft rfl (st_gft rfl (st_gft rfl (st_gft rfl (st_gft rfl (st_gft rfl (st_pick_f rfl rfl rfl (st_mv rfl (g_endq [(0, .bool false)] rfl ?_))))))))))))))))))))))))))))))))))))
    exact sc_ret (gr1 (g := zg39) (ho := fun _ => []) [.bool false] hw (.inr rfl) (wr []))
  · exact sc_ret (gr1 (g := zg39) (ho := fun _ => []) [.bool false] hw (.inr rfl) (wr []))
def hc46 : C := (.seq (.reg [oo 4 (.mv (.c (.bool false)))] [0, 1]) (.seq (.reg [mo 5 0, mo 6 1, co 7 (.call 48 [5, 6]), oo 8 (.bin .geq 7 (.c (.int .i64 0))), mo 4 8] [4]) .ret))
def ha46 : Ann := ⟨[], [], [(0, [0, 1]), (1, [4])], []⟩
theorem hk46 : comp Try.prog ha46 Try.f46.ntmps Try.f46.code = some hc46 := by kernel_rfl
def w46 (p1 : List (Int)) (p2 : Int) (Q : Bool → Prop) : Prop :=
  ∃ r3 : Int, sp48 p1 p2 r3 ∧ ∀ v4 : Bool, v4 = decide (r3 ≥ (0 : Int)) → Q v4
theorem ok46 (p1 : List (Int)) (p2 : Int) (r : Bool) (hw : w46 p1 p2 fun r' => r' = r) : sp46 p1 p2 r := by
  refine zf (rs := [.t 4]) (g := zg46) Try.func46 hk46 ?_
  unfold w46 at hw
  show SC Try.prog Try.f46.ntmps 0 hc46 _ [(0, ln (eInt .i64) p1), (1, ii p2)] []
  unfold hc46
  refine q_reg (st_mv rfl (g_endq [(0, ln (eInt .i64) p1), (1, ii p2)] rfl ?_))
  refine q_reg (st_mv rfl (st_mv rfl (k_call dh (ec rfl (ec rfl en)) rfl hw fun r3 hw => gb_cmp rfl rfl trivial rfl hw fun v4 hw => st_mv rfl (g_endq [(4, .bool v4)] rfl ?_))))
  exact sc_ret (gr1 (g := zg46) (ho := fun _ => []) [.bool v4] hw (.inr rfl) ws)
def hc47 : C := (.seq (.reg [oo 2 (.mv (.c (.list [] .full)))] [0]) (.seq (.seq (.reg [mo 3 0, oo 4 (.eqv false .slice 3 (.c .nilslice))] [0, 4]) (.cond 4 (.seq (.reg [oo 2 (.mv (.c (.list [] .full)))] [2]) .ret) .skip)) (.seq (.reg [oo 5 (.mklist 1 []), mo 6 0, oo 7 (.append 1 8 5 6), mo 2 7] [2]) .ret)))
def ha47 : Ann := ⟨[], [], [(0, [0]), (1, [0, 4]), (2, [2]), (3, [2])], []⟩
theorem hk47 : comp Try.prog ha47 Try.f47.ntmps Try.f47.code = some hc47 := by kernel_rfl
def w47 (p1 : List (Int)) (Q : List (Int) → Prop) : Prop :=
  ((p1.length = 0 → Q ([] : List Int)) ∧ (((([] : List Int).length + p1.length) * 8 ≤ 140737488355328) ∧ ∀ v2 : List Int, v2 = ([] : List Int) ++ p1 → Q v2))
theorem ok47 (p1 : List (Int)) (r : List (Int)) (hw : w47 p1 fun r' => r' = r) : sp47 p1 r := by
  refine zf (rs := [.t 2]) (g := zg47) Try.func47 hk47 ?_
  unfold w47 at hw
  show SC Try.prog Try.f47.ntmps 0 hc47 _ [(0, ln (eInt .i64) p1)] []
  unfold hc47
  refine q_reg (st_mv rfl (g_endq [(0, ln (eInt .i64) p1)] rfl ?_))
  refine sc_seq (q_reg (st_mv rfl (g_eqn2 rfl rfl hw (fun hw => g_endq [(0, ln (eInt .i64) p1), (4, .bool true)] rfl ?_) (fun hw => g_endq [(0, ln (eInt .i64) p1), (4, .bool false)] rfl ?_))))
  · refine s_cond_t rfl (q_reg (st_mv rfl (g_endq [(2, nl (eInt .i64))] rfl ?_)))
    exact sc_ret (sq_r (gr (g := zg47) (ho := fun _ => []) [nl (eInt .i64)] [ln (eInt .i64) ([] : List Int)] hw (.inr rfl) ws))
  · refine s_cond_f rfl (sc_skip (sq_n (q_reg (g_mkl (enc_int .i64) [] en rfl mkn (st_mv rfl (g_appf (enc_int .i64) rfl rfl (n := 0) rfl hw fun v2 hw => st_mv rfl (g_endq [(2, .list (List.map (eInt .i64) v2) (.own 0 1 1))] rfl ?_)))))))
    exact sc_ret (gr (g := zg47) (ho := fun _ => []) [.list (List.map (eInt .i64) v2) (.own 0 1 1)] [ln (eInt .i64) v2] hw (.inr rfl) (wr []))
def hc48 : C := (.seq (.reg [oo 4 (.mv (.c (.int .i64 0)))] [0, 1]) (.seq (.seq (.reg [mo 6 0, oo 7 (.len false 6), oo 8 (.mv (.c (.int .i64 0)))] [0, 1, 7, 8]) (.block 0 (.loop (.seq (.reg [oo 9 (.bin .lss 8 7)] [0, 1, 7, 8, 9]) (.seq (.cond 9 .skip (.exit 0)) (.seq (.block 1 (.seq (.reg [mo 10 8, mo 5 10] [0, 1, 5, 7, 8]) (.seq (.reg [mo 11 1, mo 12 0, mo 13 5, oo 14 (.iaddr 1 12 13), oo 15 (.load none 14), oo 16 (.eqv false .int 11 15)] [0, 1, 5, 7, 8, 16]) (.cond 16 (.seq (.reg [mo 17 5, mo 4 17] [4]) .ret) .skip)))) (.reg [oo 18 (.bin .add 8 (.c (.int .i64 1))), mo 8 18] [0, 1, 7, 8]))))))) (.seq (.reg [oo 4 (.mv (.c (.int .i64 (-1))))] [4]) .ret)))
def ha48 : Ann := ⟨[], [], [(0, [0, 1]), (1, [0, 1, 7, 8]), (2, [0, 1, 7, 8, 9]), (3, [0, 1, 5, 7, 8]), (4, [0, 1, 5, 7, 8, 16]), (5, [4]), (6, [0, 1, 7, 8]), (7, [4])], []⟩
theorem hk48 : comp Try.prog ha48 Try.f48.ntmps Try.f48.code = some hc48 := by kernel_rfl
def w48 (p1 : List (Int)) (p2 : Int) (Q : Int → Prop) : Prop :=
  ∃ (I7 : Int → Prop) (M8 : Int → Nat), I7 (0 : Int) ∧ ∀ (v3 : Int), I7 v3 → ∀ v9 : Bool, v9 = decide (v3 < (p1.length : Int)) → ((v9 = true → (0 ≤ v3 ∧ v3 < (p1.length : Int)) ∧ ∀ a10 : Int, p1[(v3 : Int).toNat]? = some a10 → ((p2 = a10 → Q v3) ∧ (p2 ≠ a10 → (R64 (v3 + (1 : Int))) ∧ ∀ v11 : Int, v11 = v3 + (1 : Int) → (I7 v11 ∧ M8 v11 < M8 v3)))) ∧ (v9 = false → Q (-1 : Int)))
theorem ok48 (p1 : List (Int)) (p2 : Int) (r : Int) (hw : w48 p1 p2 fun r' => r' = r) : sp48 p1 p2 r := by
  refine zf (rs := [.t 4]) (g := zg48) Try.func48 hk48 ?_
  unfold w48 at hw
  show SC Try.prog Try.f48.ntmps 0 hc48 _ [(0, ln (eInt .i64) p1), (1, ii p2)] []
  unfold hc48
  refine q_reg (st_mv rfl (g_endq [(0, ln (eInt .i64) p1), (1, ii p2)] rfl ?_))
  refine sc_seq (q_reg (st_mv rfl (g_len rfl (st_mv rfl (g_endq [(0, ln (eInt .i64) p1), (1, ii p2), (7, ii (p1.length : Int)), (8, ii 0)] rfl ?_)))))
  refine sc_block ?_
  obtain ⟨I7, M8, hi, hw⟩ := hw
  refine sc_loop (X := { x : Int // I7 x }) (fun x => ([(0, ln (eInt .i64) p1), (1, ii p2), (7, ii (p1.length : Int)), (8, ii x.1)], [])) (fun x => M8 x.1) ⟨(0 : Int), hi⟩ ws ?_
  rintro ⟨v3, hi2⟩
  have hw := hw v3 hi2
  clear hi
  refine q_reg (gb_cmp rfl rfl trivial rfl hw fun v9 hw => g_endq [(0, ln (eInt .i64) p1), (1, ii p2), (7, ii (p1.length : Int)), (8, ii v3), (9, .bool v9)] rfl ?_)
  refine sc_seq (s_cond rfl hw (fun hw => ?_) (fun hw => ?_))
  · refine sc_skip (sq_n (sc_seq (sc_block (q_reg (st_mv rfl (st_mv rfl (g_endq [(0, ln (eInt .i64) p1), (1, ii p2), (5, ii v3), (7, ii (p1.length : Int)), (8, ii v3)] rfl ?_)))))))
    refine q_reg (st_mv rfl (st_mv rfl (st_mv rfl (g_iaddr (enc_int .i64) rfl rfl hw fun a10 hw => st_load_r rfl rfl (g_eqi rfl rfl hw (fun hw => g_endq [(0, ln (eInt .i64) p1), (1, ii p2), (5, ii v3), (7, ii (p1.length : Int)), (8, ii v3), (16, .bool true)] rfl ?_) (fun hw => g_endq [(0, ln (eInt .i64) p1), (1, ii p2), (5, ii v3), (7, ii (p1.length : Int)), (8, ii v3), (16, .bool false)] rfl ?_))))))
    · refine s_cond_t rfl (q_reg (st_mv rfl (st_mv rfl (g_endq [(4, ii v3)] rfl ?_))))
      exact sc_ret (bl_r (sq_r (lo_r (bl_r (sq_r (gr1 (g := zg48) (ho := fun _ => []) [ii v3] hw (.inr rfl) ws))))))
    · refine s_cond_f rfl (sc_skip (bl_n (sq_n (s_reg (g_add rfl rfl hw fun v11 hw => st_mv rfl (g_end [(0, ln (eInt .i64) p1), (1, ii p2), (7, ii (p1.length : Int)), (8, ii v11)] rfl ?_))))))
      exact lo_n ⟨v11, hw.1⟩ hw.2 ws
  · refine sc_exit (sq_x (lo_x (bl_x (sq_n (q_reg (st_mv rfl (g_endq [(4, ii (-1 : Int))] rfl ?_)))))))
    exact sc_ret (gr1 (g := zg48) (ho := fun _ => []) [ii (-1 : Int)] hw (.inr rfl) ws)
def hc63 : C := (.seq (.reg [oo 4 (.mv (.c (.int .i64 0)))] [0, 1]) (.seq (.seq (.reg [mo 6 0, oo 7 (.len false 6), oo 8 (.mv (.c (.int .i64 0)))] [0, 1, 7, 8]) (.block 0 (.loop (.seq (.reg [oo 9 (.bin .lss 8 7)] [0, 1, 7, 8, 9]) (.seq (.cond 9 .skip (.exit 0)) (.seq (.block 1 (.seq (.reg [mo 10 8, mo 5 10] [0, 1, 5, 7, 8]) (.seq (.reg [mo 11 1, mo 12 0, mo 13 5, oo 14 (.iaddr 1 12 13), oo 15 (.load none 14), oo 16 (.eqv false .bool 11 15)] [0, 1, 5, 7, 8, 16]) (.cond 16 (.seq (.reg [mo 17 5, mo 4 17] [4]) .ret) .skip)))) (.reg [oo 18 (.bin .add 8 (.c (.int .i64 1))), mo 8 18] [0, 1, 7, 8]))))))) (.seq (.reg [oo 4 (.mv (.c (.int .i64 (-1))))] [4]) .ret)))
def ha63 : Ann := ⟨[], [], [(0, [0, 1]), (1, [0, 1, 7, 8]), (2, [0, 1, 7, 8, 9]), (3, [0, 1, 5, 7, 8]), (4, [0, 1, 5, 7, 8, 16]), (5, [4]), (6, [0, 1, 7, 8]), (7, [4])], []⟩
theorem hk63 : comp Try.prog ha63 Try.f63.ntmps Try.f63.code = some hc63 := by kernel_rfl
def w63 (p1 : List (Bool)) (p2 : Bool) (Q : Int → Prop) : Prop :=
  ∃ (I8 : Int → Prop) (M9 : Int → Nat), I8 (0 : Int) ∧ ∀ (v3 : Int), I8 v3 → ∀ v10 : Bool, v10 = decide (v3 < (p1.length : Int)) → ((v10 = true → (0 ≤ v3 ∧ v3 < (p1.length : Int)) ∧ ∀ a11 : Bool, p1[(v3 : Int).toNat]? = some a11 → ∀ v12 : Bool, v12 = (if false then !(p2 == a11) else (p2 == a11)) → ((v12 = true → Q v3) ∧ (v12 = false → (R64 (v3 + (1 : Int))) ∧ ∀ v13 : Int, v13 = v3 + (1 : Int) → (I8 v13 ∧ M9 v13 < M9 v3)))) ∧ (v10 = false → Q (-1 : Int)))
theorem ok63 (p1 : List (Bool)) (p2 : Bool) (r : Int) (hw : w63 p1 p2 fun r' => r' = r) : sp63 p1 p2 r := by
  refine zf (rs := [.t 4]) (g := zg63) Try.func63 hk63 ?_
  unfold w63 at hw
  show SC Try.prog Try.f63.ntmps 0 hc63 _ [(0, ln eBool p1), (1, .bool p2)] []
  unfold hc63
  refine q_reg (st_mv rfl (g_endq [(0, ln eBool p1), (1, .bool p2)] rfl ?_))
  refine sc_seq (q_reg (st_mv rfl (g_len rfl (st_mv rfl (g_endq [(0, ln eBool p1), (1, .bool p2), (7, ii (p1.length : Int)), (8, ii 0)] rfl ?_)))))
  refine sc_block ?_
  obtain ⟨I8, M9, hi, hw⟩ := hw
  refine sc_loop (X := { x : Int // I8 x }) (fun x => ([(0, ln eBool p1), (1, .bool p2), (7, ii (p1.length : Int)), (8, ii x.1)], [])) (fun x => M9 x.1) ⟨(0 : Int), hi⟩ ws ?_
  rintro ⟨v3, hi2⟩
  have hw := hw v3 hi2
  clear hi
  refine q_reg (gb_cmp rfl rfl trivial rfl hw fun v10 hw => g_endq [(0, ln eBool p1), (1, .bool p2), (7, ii (p1.length : Int)), (8, ii v3), (9, .bool v10)] rfl ?_)
  refine sc_seq (s_cond rfl hw (fun hw => ?_) (fun hw => ?_))
  · refine sc_skip (sq_n (sc_seq (sc_block (q_reg (st_mv rfl (st_mv rfl (g_endq [(0, ln eBool p1), (1, .bool p2), (5, ii v3), (7, ii (p1.length : Int)), (8, ii v3)] rfl ?_)))))))
    refine q_reg (st_mv rfl (st_mv rfl (st_mv rfl (g_iaddr enc_bool rfl rfl hw fun a11 hw => st_load_r rfl rfl (gb_eqb rfl rfl hw fun v12 hw => g_endq [(0, ln eBool p1), (1, .bool p2), (5, ii v3), (7, ii (p1.length : Int)), (8, ii v3), (16, .bool v12)] rfl ?_)))))
    refine s_cond rfl hw (fun hw => ?_) (fun hw => ?_)
    · refine q_reg (st_mv rfl (st_mv rfl (g_endq [(4, ii v3)] rfl ?_)))
      exact sc_ret (bl_r (sq_r (lo_r (bl_r (sq_r (gr1 (g := zg63) (ho := fun _ => []) [ii v3] hw (.inr rfl) ws))))))
    · refine sc_skip (bl_n (sq_n (s_reg (g_add rfl rfl hw fun v13 hw => st_mv rfl (g_end [(0, ln eBool p1), (1, .bool p2), (7, ii (p1.length : Int)), (8, ii v13)] rfl ?_)))))
      exact lo_n ⟨v13, hw.1⟩ hw.2 ws
  · refine sc_exit (sq_x (lo_x (bl_x (sq_n (q_reg (st_mv rfl (g_endq [(4, ii (-1 : Int))] rfl ?_)))))))
    exact sc_ret (gr1 (g := zg63) (ho := fun _ => []) [ii (-1 : Int)] hw (.inr rfl) ws)
def hc50 : C := (.seq (.reg [oo 4 (.mv (.c (.bool false)))] [0, 1]) (.seq (.reg [mo 5 0, mo 6 1, co 7 (.call 63 [5, 6]), oo 8 (.bin .geq 7 (.c (.int .i64 0))), mo 4 8] [4]) .ret))
def ha50 : Ann := ⟨[], [], [(0, [0, 1]), (1, [4])], []⟩
theorem hk50 : comp Try.prog ha50 Try.f50.ntmps Try.f50.code = some hc50 := by kernel_rfl
def w50 (p1 : List (Bool)) (p2 : Bool) (Q : Bool → Prop) : Prop :=
  ∃ r3 : Int, sp63 p1 p2 r3 ∧ ∀ v4 : Bool, v4 = decide (r3 ≥ (0 : Int)) → Q v4
theorem ok50 (p1 : List (Bool)) (p2 : Bool) (r : Bool) (hw : w50 p1 p2 fun r' => r' = r) : sp50 p1 p2 r := by
  refine zf (rs := [.t 4]) (g := zg50) Try.func50 hk50 ?_
  unfold w50 at hw
  show SC Try.prog Try.f50.ntmps 0 hc50 _ [(0, ln eBool p1), (1, .bool p2)] []
  unfold hc50
  refine q_reg (st_mv rfl (g_endq [(0, ln eBool p1), (1, .bool p2)] rfl ?_))
  refine q_reg (st_mv rfl (st_mv rfl (k_call dh (ec rfl (ec rfl en)) rfl hw fun r3 hw => gb_cmp rfl rfl trivial rfl hw fun v4 hw => st_mv rfl (g_endq [(4, .bool v4)] rfl ?_))))
  exact sc_ret (gr1 (g := zg50) (ho := fun _ => []) [.bool v4] hw (.inr rfl) ws)
end Go.Hw.VK

