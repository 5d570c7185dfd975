import Derived.Test.YtonoaimefgodfaaHwF2
import Derived.Test.YtonoaimefgodfaaHwNest
import Derived.Test.YtonoaimefgodfaaProg
set_option linter.unusedVariables false
set_option linter.unusedSimpArgs false
namespace Go.Hw.VK
open Go Go.Proofs
theorem _root_.Go.Proofs.Try.mixed : Try.prog.follows .mixedOrders = true := by kernel_rfl
structure GMark_Deed where
  Kind : Int
  From : Int
  To : Int
  N : Int
  deriving DecidableEq
def eGMark_Deed (a : GMark_Deed) : HV := .agg [ii a.Kind, ii a.From, ii a.To, ii a.N]
theorem enc_GMark_Deed : Enc eGMark_Deed 4 := ⟨fun a => (pvc (.int _ _) (pvc (.int _ _) (pvc (.int _ _) (pvc (.int _ _) pvn)))), fun _ => rfl, fun _ => rfl, fun _ => rfl⟩
instance : EncC eGMark_Deed 4 := ⟨enc_GMark_Deed⟩
instance (a : GMark_Deed) : PVi (eGMark_Deed a) := ⟨enc_GMark_Deed.all a⟩
instance (a : GMark_Deed) : PVl (eGMark_Deed a).cells := ⟨enc_GMark_Deed.pv a⟩
structure GMark_Shot where
  Done : Bool
  States : List (Int)
  Ways : List (List (List (Int)))
  Now : List (Int)
  Left : Int
  deriving DecidableEq
def eGMark_Shot (a : GMark_Shot) : HV := .agg [.bool a.Done, ln (eInt .i64) a.States, ln (eLst (eLst (eInt .i64))) a.Ways, ln (eInt .i64) a.Now, ii a.Left]
theorem enc_GMark_Shot : Enc eGMark_Shot 5 := ⟨fun a => (pvc (.bool _) (pvc (pv_lst (enc_int .i64) _ _ (by simp)) (pvc (pv_lst (enc_lst (enc_lst (enc_int .i64))) _ _ (by simp)) (pvc (pv_lst (enc_int .i64) _ _ (by simp)) (pvc (.int _ _) pvn))))), fun _ => rfl, fun _ => rfl, fun _ => rfl⟩
instance : EncC eGMark_Shot 5 := ⟨enc_GMark_Shot⟩
instance (a : GMark_Shot) : PVi (eGMark_Shot a) := ⟨enc_GMark_Shot.all a⟩
instance (a : GMark_Shot) : PVl (eGMark_Shot a).cells := ⟨enc_GMark_Shot.pv a⟩
@[reducible] def zg13 (r : Bool) : HV := .bool r
abbrev sp13 (p20 : List (Int)) (p21 : List (GMark_Deed)) (p22 : Int) (r : Bool) : Prop := PCall Try.prog 13 [ln (eInt .i64) p20, ln eGMark_Deed p21, ii p22] (zg13 r)
@[reducible] def zg17 (r : Int) : HV := ii r
abbrev sp17 (p23 : Int) (p24 : Int) (r : Int) : Prop := PCall Try.prog 17 [ii p23, ii p24] (zg17 r)
@[reducible] def zg24 (r : Bool) : HV := .bool r
abbrev sp24 (p25 : List (Int)) (p26 : List (Int)) (r : Bool) : Prop := PCall Try.prog 24 [ln (eInt .i64) p25, ln (eInt .i64) p26] (zg24 r)
@[reducible] def zg37 (r : List (Int) × List (GMark_Deed) × Int) : HV := .tuple [ln (eInt .i64) r.1, ln eGMark_Deed r.2.1, ii r.2.2]
abbrev sp37 (p27 : List (Int)) (p28 : List (GMark_Deed)) (r : List (Int) × List (GMark_Deed) × Int) : Prop := PCall Try.prog 37 [ln (eInt .i64) p27, ln eGMark_Deed p28] (zg37 r)
@[reducible] def zg38 (r : GMark_Shot × Int) : HV := .tuple [eGMark_Shot r.1, ii r.2]
abbrev sp38 (p31 : List (Int)) (p32 : List (GMark_Deed)) (r : GMark_Shot × Int) : Prop := PCall Try.prog 38 [ln (eInt .i64) p31, ln eGMark_Deed p32] (zg38 r)
@[reducible] def zg39 (r : Bool) : HV := .bool r
abbrev sp39 (r : Bool) : Prop := PCall Try.prog 39 [] (zg39 r)
@[reducible] def zg40_41 (r : Bool) : HV := .bool r
abbrev sp40_41 (p33 : List (List (List (Int)))) (p34 : List (List (List (Int)))) (r : Bool) : Prop := PCall Try.prog 40 [ln (eLst (eLst (eInt .i64))) p33, ln (eLst (eLst (eInt .i64))) p34, .func 41 []] (zg40_41 r)
@[reducible] def zg41 (r : Bool) : HV := .bool r
abbrev sp41 (p35 : List (List (Int))) (p36 : List (List (Int))) (r : Bool) : Prop := PCall Try.prog 41 [ln (eLst (eInt .i64)) p35, ln (eLst (eInt .i64)) p36] (zg41 r)
@[reducible] def zg42_24 (r : Bool) : HV := .bool r
abbrev sp42_24 (p37 : List (List (Int))) (p38 : List (List (Int))) (r : Bool) : Prop := PCall Try.prog 42 [ln (eLst (eInt .i64)) p37, ln (eLst (eInt .i64)) p38, .func 24 []] (zg42_24 r)
@[reducible] def zg46 (r : Bool) : HV := .bool r
abbrev sp46 (p39 : List (Int)) (p40 : Int) (r : Bool) : Prop := PCall Try.prog 46 [ln (eInt .i64) p39, ii p40] (zg46 r)
@[reducible] def zg47 (r : List (Int)) : HV := ln (eInt .i64) r
abbrev sp47 (p41 : List (Int)) (r : List (Int)) : Prop := PCall Try.prog 47 [ln (eInt .i64) p41] (zg47 r)
@[reducible] def zg48 (r : Int) : HV := ii r
abbrev sp48 (p42 : List (Int)) (p43 : Int) (r : Int) : Prop := PCall Try.prog 48 [ln (eInt .i64) p42, ii p43] (zg48 r)
@[reducible] def zg50 (r : Bool) : HV := .bool r
abbrev sp50 (p44 : List (Bool)) (p45 : Bool) (r : Bool) : Prop := PCall Try.prog 50 [ln eBool p44, .bool p45] (zg50 r)
@[reducible] def zg63 (r : Int) : HV := ii r
abbrev sp63 (p46 : List (Bool)) (p47 : Bool) (r : Int) : Prop := PCall Try.prog 63 [ln eBool p46, .bool p47] (zg63 r)
def hc13 : C := (.seq (.reg [oo 6 (.mv (.c (.bool false)))] [0, 1, 2]) (.seq (.reg [mo 15 0, mo 16 1, co 17 (.call 37 [15, 16]), mo 14 17, oo 18 (.extract 14 0), oo 19 (.extract 14 1), oo 20 (.extract 14 2), mo 7 18, mo 8 19, mo 9 20] [2, 7, 8]) (.seq (.reg [mo 22 7, mo 23 8, mo 24 2, mo 25 8, oo 26 (.len false 25), oo 27 (.bin .add 26 (.c (.int .i64 1))), co 28 (.call 17 [24, 27]), oo 29 (.slice 4 23 none (some 28) none), co 30 (.call 38 [22, 29]), mo 21 30, oo 31 (.extract 21 0), oo 32 (.extract 21 1), oo 10 (.alloc none [(.bool false), (.list [] .full), (.list [] .full), (.list [] .full), (.int .i64 0)]), os (.store 5 10 31), mo 11 32] [7, 8, 10, 11]) (.seq (.reg [mo 34 7, mo 35 8, co 36 (.call 38 [34, 35]), mo 33 36, oo 37 (.extract 33 0), oo 38 (.extract 33 1), oo 12 (.alloc none [(.bool false), (.list [] .full), (.list [] .full), (.list [] .full), (.int .i64 0)]), os (.store 5 12 37), mo 13 38] [10, 11, 12, 13]) (.seq (.seq (.reg [co 39 (.call 39 []), oo 40 (.un .not 39), mo 41 40, og 42 (.mv 11) 41 false, og 43 (.eqv true .int 42 (.c (.int .i64 0))) 41 false, oo 44 (.pick 41 (.c (.bool true)) 43), mo 45 44, og 46 (.mv 13) 45 false, og 47 (.eqv true .int 46 (.c (.int .i64 0))) 45 false, oo 48 (.pick 45 (.c (.bool true)) 47)] [10, 12, 48]) (.cond 48 (.seq (.reg [oo 6 (.mv (.c (.bool false)))] [6]) .ret) .skip)) (.seq (.reg [oo 49 (.faddr 0 1 10), oo 50 (.load none 49), oo 51 (.un .not 50), mo 52 51, og 53 (.faddr 0 1 12) 52 false, og 54 (.load none 53) 52 false, og 55 (.mv 54) 52 false, og 56 (.faddr 1 1 10) 55 true, og 57 (.load none 56) 55 true, og 58 (.faddr 1 1 12) 55 true, og 59 (.load none 58) 55 true, cg 60 (.call 24 [57, 59]) 55 true, og 61 (.pick 55 60 (.c (.bool false))) 52 false, og 62 (.mv 61) 52 false, og 63 (.faddr 2 1 10) 62 true, og 64 (.load none 63) 62 true, og 65 (.faddr 2 1 12) 62 true, og 66 (.load none 65) 62 true, cg 67 (.call 40 [64, 66, (.c (.func 41 []))]) 62 true, og 68 (.pick 62 67 (.c (.bool false))) 52 false, oo 69 (.pick 52 (.c (.bool true)) 68), mo 6 69] [6]) .ret))))))
def ha13 : Ann := ⟨[], [], [(0, [0, 1, 2]), (1, [2, 7, 8]), (2, [7, 8, 10, 11]), (3, [10, 11, 12, 13]), (4, [10, 12, 48]), (5, [6]), (6, [6])], []⟩
theorem hk13 : comp Try.prog ha13 Try.f13.ntmps Try.f13.code = some hc13 := by kernel_rfl
def w13 (p1 : List (Int)) (p2 : List (GMark_Deed)) (p3 : Int) (Q : Bool → Prop) : Prop :=
  ∃ r4 : List (Int) × List (GMark_Deed) × Int, sp37 p1 p2 r4 ∧ (R64 ((r4.2.1.length : Int) + (1 : Int))) ∧ ∀ v5 : Int, v5 = (r4.2.1.length : Int) + (1 : Int) → ∃ r6 : Int, sp17 p3 v5 r6 ∧ (0 ≤ (0 : Int) ∧ (0 : Int) ≤ r6 ∧ r6 ≤ (r4.2.1.length : Int)) ∧ ∀ v7 : List GMark_Deed, v7 = (r4.2.1.take (r6 : Int).toNat).drop ((0 : Int) : Int).toNat → ∃ r8 : GMark_Shot × Int, sp38 r4.1 v7 r8 ∧ ∃ r9 : GMark_Shot × Int, sp38 r4.1 r4.2.1 r9 ∧ ∃ r10 : Bool, sp39 r10 ∧ (((!r10) = true → Q false) ∧ ((!r10) = false → ((r8.2 ≠ (0 : Int) → Q false) ∧ (r8.2 = (0 : Int) → ((r9.2 ≠ (0 : Int) → Q false) ∧ (r9.2 = (0 : Int) → (((!r8.1.Done) = true → Q true) ∧ ((!r8.1.Done) = false → ((r9.1.Done = true → ∃ r11 : Bool, sp24 r8.1.States r9.1.States r11 ∧ ((r11 = true → ∃ r12 : Bool, sp40_41 r8.1.Ways r9.1.Ways r12 ∧ Q r12) ∧ (r11 = false → Q false))) ∧ (r9.1.Done = false → Q false))))))))))
theorem ok13 (p1 : List (Int)) (p2 : List (GMark_Deed)) (p3 : Int) (r : Bool) (hw : w13 p1 p2 p3 fun r' => r' = r) : sp13 p1 p2 p3 r := by
  refine zf (rs := [.t 6]) (g := zg13) Try.func13 hk13 ?_
  unfold w13 at hw
  show SC Try.prog Try.f13.ntmps 0 hc13 _ [(0, ln (eInt .i64) p1), (1, ln eGMark_Deed p2), (2, ii p3)] []
  unfold hc13
  refine q_reg (st_mv rfl (g_endq [(0, ln (eInt .i64) p1), (1, ln eGMark_Deed p2), (2, ii p3)] rfl ?_))
  refine q_reg (st_mv rfl (st_mv rfl (k_call dh (ec rfl (ec rfl en)) rfl hw fun r4 hw => st_mv rfl (st_extract rfl rfl (st_extract rfl rfl (st_extract rfl rfl (st_mv rfl (st_mv rfl (st_mv rfl (g_endq [(2, ii p3), (7, ln (eInt .i64) r4.1), (8, ln eGMark_Deed r4.2.1)] rfl ?_))))))))))
  refine q_reg (st_mv rfl (st_mv rfl (st_mv rfl (st_mv rfl (g_len rfl (g_add rfl rfl hw fun v5 hw => k_call dh (ec rfl (ec rfl en)) rfl hw fun r6 hw => g_slice enc_GMark_Deed rfl bnd_none (bnd_some rfl) hw fun v7 hw => k_call dh (ec rfl (ec rfl en)) rfl hw fun r8 hw => st_mv rfl (st_extract rfl rfl (st_extract rfl rfl (g_alloc (n := 0) rfl rfl (g_sp (v := eGMark_Shot r8.1) (h' := [.cells (HV.cells (eGMark_Shot r8.1))]) rfl rfl rfl (st_mv rfl (g_endq [(7, ln (eInt .i64) r4.1), (8, ln eGMark_Deed r4.2.1), (10, .ptr 0 0), (11, ii r8.2)] rfl ?_))))))))))))
  refine q_reg (st_mv rfl (st_mv rfl (k_call dh (ec rfl (ec rfl en)) rfl hw fun r9 hw => st_mv rfl (st_extract rfl rfl (st_extract rfl rfl (g_alloc (n := 1) rfl rfl (g_sp (v := eGMark_Shot r9.1) (h' := [.cells (HV.cells (eGMark_Shot r8.1)), .cells (HV.cells (eGMark_Shot r9.1))]) rfl rfl rfl (st_mv rfl (g_endq [(10, .ptr 0 0), (11, ii r8.2), (12, .ptr 1 0), (13, ii r9.2)] rfl ?_)))))))))
  refine sc_seq (q_reg (k_call dh en rfl hw fun r10 hw => st_not rfl (st_mv rfl (g_split rfl hw ?_ ?_))))
  · intro c hw
    rw [c]
    refine st_gtf rfl (st_gtf rfl (st_pick_t rfl rfl rfl (st_mv rfl (st_gtf rfl (st_gtf rfl (st_pick_t rfl rfl rfl (g_endq [(10, .ptr 0 0), (12, .ptr 1 0), (48, .bool true)] rfl ?_)))))))
    refine s_cond_t rfl (q_reg (st_mv rfl (g_endq [(6, .bool false)] rfl ?_)))
    exact sc_ret (sq_r (gr1 (g := zg13) (ho := fun _ => []) [.bool false] hw (.inr rfl) (wr [])))
  · intro c hw
    rw [c]
    refine st_g rfl (st_mv rfl (st_g rfl (g_nei rfl rfl hw (fun hw => st_pick_f rfl rfl rfl (st_mv rfl (st_gtf rfl (st_gtf rfl (st_pick_t rfl rfl rfl (g_endq [(10, .ptr 0 0), (12, .ptr 1 0), (48, .bool true)] rfl ?_)))))) (fun hw => st_pick_f rfl rfl rfl (st_mv rfl (st_g rfl (st_mv rfl (st_g rfl (g_nei rfl rfl hw (fun hw => st_pick_f rfl rfl rfl (g_endq [(10, .ptr 0 0), (12, .ptr 1 0), (48, .bool true)] rfl ?_)) (fun hw => st_pick_f rfl rfl rfl (g_endq [(10, .ptr 0 0), (12, .ptr 1 0), (48, .bool false)] rfl ?_)))))))))))
    · refine s_cond_t rfl (q_reg (st_mv rfl (g_endq [(6, .bool false)] rfl ?_)))
      exact sc_ret (sq_r (gr1 (g := zg13) (ho := fun _ => []) [.bool false] hw (.inr rfl) (wr [])))
    · refine s_cond_t rfl (q_reg (st_mv rfl (g_endq [(6, .bool false)] rfl ?_)))
      exact sc_ret (sq_r (gr1 (g := zg13) (ho := fun _ => []) [.bool false] hw (.inr rfl) (wr [])))
    · refine s_cond_f rfl (sc_skip (sq_n (q_reg (g_faddr_p rfl (g_load_p rfl rfl rfl (st_not rfl (st_mv rfl (g_split rfl hw ?_ ?_))))))))
      · intro c hw
        rw [c]
        refine st_gtf rfl (st_gtf rfl (st_gtf rfl (st_gu rfl (st_gu rfl (st_gu rfl (st_gu rfl (st_gu rfl (st_gtf rfl (st_gtf rfl (st_gu rfl (st_gu rfl (st_gu rfl (st_gu rfl (st_gu rfl (st_gtf rfl (st_pick_t rfl rfl rfl (st_mv rfl (g_endq [(6, .bool true)] rfl ?_))))))))))))))))))
        exact sc_ret (gr1 (g := zg13) (ho := fun _ => []) [.bool true] hw (.inr rfl) (wr []))
      · intro c hw
        rw [c]
        refine st_g rfl (g_faddr_p rfl (st_g rfl (g_load_p rfl rfl rfl (st_g rfl (st_mv rfl (g_split rfl hw ?_ ?_))))))
        · intro c hw
          rw [c]
          refine st_g rfl (g_faddr_p rfl (st_g rfl (g_load_p rfl rfl rfl (st_g rfl (g_faddr_p rfl (st_g rfl (g_load_p rfl rfl rfl (st_g rfl (k_call dh (ec rfl (ec rfl en)) rfl hw fun r11 hw => st_g rfl (st_pick_t rfl rfl rfl (st_g rfl (st_mv rfl (g_split rfl hw ?_ ?_)))))))))))))
          · intro c hw
            rw [c]
            refine st_g rfl (g_faddr_p rfl (st_g rfl (g_load_p rfl rfl rfl (st_g rfl (g_faddr_p rfl (st_g rfl (g_load_p rfl rfl rfl (st_g rfl (k_call dh (ec rfl (ec rfl (ec rfl en))) rfl hw fun r12 hw => st_g rfl (st_pick_t rfl rfl rfl (st_pick_f rfl rfl rfl (st_mv rfl (g_endq [(6, .bool r12)] rfl ?_)))))))))))))
            exact sc_ret (gr1 (g := zg13) (ho := fun _ => []) [.bool r12] hw (.inr rfl) (wr []))
          · intro c hw
            rw [c]
            refine st_gft rfl (st_gft rfl (st_gft rfl (st_gft rfl (st_gft rfl (st_g rfl (st_pick_f rfl rfl rfl (st_pick_f rfl rfl rfl (st_mv rfl (g_endq [(6, .bool false)] rfl ?_)))))))))
            exact sc_ret (gr1 (g := zg13) (ho := fun _ => []) [.bool false] hw (.inr rfl) (wr []))
        · intro c hw
          rw [c]
          refine st_gft rfl (st_gft rfl (st_gft rfl (st_gft rfl (st_gft rfl (st_g rfl (st_pick_f rfl rfl rfl (st_g rfl (st_mv rfl (st_gft rfl (st_gft rfl (st_gft rfl (st_gft rfl (st_gft rfl (st_g rfl (st_pick_f rfl rfl rfl (st_pick_f rfl rfl rfl (st_mv rfl (g_endq [(6, .bool false)] rfl ?_))))))))))))))))))
          exact sc_ret (gr1 (g := zg13) (ho := fun _ => []) [.bool false] hw (.inr rfl) (wr []))
def hc17 : C := (.seq (.reg [oo 4 (.mv (.c (.int .i64 0)))] [0, 1]) (.seq (.seq (.reg [mo 5 0, oo 6 (.bin .lss 5 (.c (.int .i64 0)))] [0, 1, 6]) (.cond 6 (.reg [mo 7 0, oo 8 (.bin .add 7 (.c (.int .i64 1))), oo 9 (.un .neg 8), mo 0 9] [0, 1]) .skip)) (.seq (.reg [mo 10 0, mo 11 1, oo 12 (.bin .rem 10 11), mo 4 12] [4]) .ret)))
def ha17 : Ann := ⟨[], [], [(0, [0, 1]), (1, [0, 1, 6]), (2, [0, 1]), (3, [4])], []⟩
theorem hk17 : comp Try.prog ha17 Try.f17.ntmps Try.f17.code = some hc17 := by kernel_rfl
def w17 (p1 : Int) (p2 : Int) (Q : Int → Prop) : Prop :=
  ∃ J4 : Int → Prop, (((p1 < (0 : Int) → (R64 (p1 + (1 : Int))) ∧ ∀ v5 : Int, v5 = p1 + (1 : Int) → (-9223372036854775807 ≤ v5 ∧ v5 ≤ 9223372036854775807) ∧ ∀ v6 : Int, v6 = -(v5) → J4 v6) ∧ ((0 : Int) ≤ p1 → J4 p1))) ∧ ∀ (v3 : Int), J4 v3 → (p2 ≠ 0) ∧ ∀ v7 : Int, v7 = (v3).tmod p2 → Q v7
theorem ok17 (p1 : Int) (p2 : Int) (r : Int) (hw : w17 p1 p2 fun r' => r' = r) : sp17 p1 p2 r := by
  refine zf (rs := [.t 4]) (g := zg17) Try.func17 hk17 ?_
  unfold w17 at hw
  show SC Try.prog Try.f17.ntmps 0 hc17 _ [(0, ii p1), (1, ii p2)] []
  unfold hc17
  refine q_reg (st_mv rfl (g_endq [(0, ii p1), (1, ii p2)] rfl ?_))
  obtain ⟨J4, hw, hk⟩ := hw
  refine sc_join (A := Int) (fun x => J4 x) (fun x => ([(0, ii x), (1, ii p2)], [])) ?_ ?_
  · rintro v3 hj
    have hw := hk v3 hj
    clear hk hj
    refine q_reg (st_mv rfl (st_mv rfl (g_rem rfl rfl hw fun v7 hw => st_mv rfl (g_endq [(4, ii v7)] rfl ?_))))
    exact sc_ret (gr1 (g := zg17) (ho := fun _ => []) [ii v7] hw (.inr rfl) ws)
  · clear hk
    refine q_reg (st_mv rfl (g_lss rfl rfl hw (fun hw => g_endq [(0, ii p1), (1, ii p2), (6, .bool true)] rfl ?_) (fun hw => g_endq [(0, ii p1), (1, ii p2), (6, .bool false)] rfl ?_)))
    · refine s_cond_t rfl (s_reg (st_mv rfl (g_add rfl rfl hw fun v5 hw => g_neg rfl hw fun v6 hw => st_mv rfl (g_end [(0, ii v6), (1, ii p2)] rfl ?_))))
      exact jo_n v6 hw ws
    · exact s_cond_f rfl (sc_skip (jo_n p1 hw ws))
def hc24 : C := (.seq (.reg [oo 4 (.mv (.c (.bool false)))] [0, 1]) (.seq (.seq (.reg [mo 6 0, oo 7 (.len false 6), mo 8 1, oo 9 (.len false 8), oo 10 (.eqv true .int 7 9)] [0, 1, 10]) (.cond 10 (.seq (.reg [oo 4 (.mv (.c (.bool false)))] [4]) .ret) .skip)) (.seq (.seq (.reg [mo 11 0, oo 12 (.len false 11), oo 13 (.mv (.c (.int .i64 0)))] [0, 1, 12, 13]) (.block 0 (.loop (.seq (.reg [oo 14 (.bin .lss 13 12)] [0, 1, 12, 13, 14]) (.seq (.cond 14 .skip (.exit 0)) (.seq (.block 1 (.seq (.reg [mo 15 13, mo 5 15] [0, 1, 5, 12, 13]) (.seq (.dreg [mo 16 0, mo 17 5, oo 18 (.iaddr 1 16 17), oo 19 (.load none 18), mo 20 1, mo 21 5, oo 22 (.iaddr 1 20 21), oo 23 (.load none 22), oo 24 (.eqv true .int 19 23)] [] 0 [0, 1, 12, 13, 24]) (.cond 24 (.seq (.reg [oo 4 (.mv (.c (.bool false)))] [4]) .ret) .skip)))) (.reg [oo 25 (.bin .add 13 (.c (.int .i64 1))), mo 13 25] [0, 1, 12, 13]))))))) (.seq (.reg [oo 4 (.mv (.c (.bool true)))] [4]) .ret))))
def ha24 : Ann := ⟨[], [], [(0, [0, 1]), (1, [0, 1, 10]), (2, [4]), (3, [0, 1, 12, 13]), (4, [0, 1, 12, 13, 14]), (5, [0, 1, 5, 12, 13]), (6, [0, 1, 12, 13, 24]), (7, [4]), (8, [0, 1, 12, 13]), (9, [4])], []⟩
theorem hk24 : comp Try.prog ha24 Try.f24.ntmps Try.f24.code = some hc24 := by kernel_rfl
def w24 (p1 : List (Int)) (p2 : List (Int)) (Q : Bool → Prop) : Prop :=
  (((p1.length : Int) ≠ (p2.length : Int) → Q false) ∧ ((p1.length : Int) = (p2.length : Int) → ∃ (I8 : Int → Prop) (M9 : Int → Nat), I8 (0 : Int) ∧ ∀ (v3 : Int), I8 v3 → ∀ v10 : Bool, v10 = decide (v3 < (p1.length : Int)) → ((v10 = true → (0 ≤ v3 ∧ v3 < (p1.length : Int)) ∧ ∀ a11 : Int, p1[(v3 : Int).toNat]? = some a11 → (0 ≤ v3 ∧ v3 < (p2.length : Int)) ∧ ∀ a12 : Int, p2[(v3 : Int).toNat]? = some a12 → ((a11 ≠ a12 → Q false) ∧ (a11 = a12 → (R64 (v3 + (1 : Int))) ∧ ∀ v13 : Int, v13 = v3 + (1 : Int) → (I8 v13 ∧ M9 v13 < M9 v3)))) ∧ (v10 = false → Q true))))
theorem ok24 (p1 : List (Int)) (p2 : List (Int)) (r : Bool) (hw : w24 p1 p2 fun r' => r' = r) : sp24 p1 p2 r := by
  refine zf (rs := [.t 4]) (g := zg24) Try.func24 hk24 ?_
  unfold w24 at hw
  show SC Try.prog Try.f24.ntmps 0 hc24 _ [(0, ln (eInt .i64) p1), (1, ln (eInt .i64) p2)] []
  unfold hc24
  refine q_reg (st_mv rfl (g_endq [(0, ln (eInt .i64) p1), (1, ln (eInt .i64) p2)] rfl ?_))
  refine sc_seq (q_reg (st_mv rfl (g_len rfl (st_mv rfl (g_len rfl (g_nei rfl rfl hw (fun hw => g_endq [(0, ln (eInt .i64) p1), (1, ln (eInt .i64) p2), (10, .bool true)] rfl ?_) (fun hw => g_endq [(0, ln (eInt .i64) p1), (1, ln (eInt .i64) p2), (10, .bool false)] rfl ?_)))))))
  · refine s_cond_t rfl (q_reg (st_mv rfl (g_endq [(4, .bool false)] rfl ?_)))
    exact sc_ret (sq_r (gr1 (g := zg24) (ho := fun _ => []) [.bool false] hw (.inr rfl) ws))
  · refine s_cond_f rfl (sc_skip (sq_n (sc_seq (q_reg (st_mv rfl (g_len rfl (st_mv rfl (g_endq [(0, ln (eInt .i64) p1), (1, ln (eInt .i64) p2), (12, ii (p1.length : Int)), (13, ii 0)] rfl ?_))))))))
    refine sc_block ?_
    obtain ⟨I8, M9, hi, hw⟩ := hw
    refine sc_loop (X := { x : Int // I8 x }) (fun x => ([(0, ln (eInt .i64) p1), (1, ln (eInt .i64) p2), (12, ii (p1.length : Int)), (13, ii x.1)], [])) (fun x => M9 x.1) ⟨(0 : Int), hi⟩ ws ?_
    rintro ⟨v3, hi2⟩
    have hw := hw v3 hi2
    clear hi
    refine q_reg (gb_cmp rfl rfl trivial rfl hw fun v10 hw => g_endq [(0, ln (eInt .i64) p1), (1, ln (eInt .i64) p2), (12, ii (p1.length : Int)), (13, ii v3), (14, .bool v10)] rfl ?_)
    refine sc_seq (s_cond rfl hw (fun hw => ?_) (fun hw => ?_))
    · refine sc_skip (sq_n (sc_seq (sc_block (q_reg (st_mv rfl (st_mv rfl (g_endq [(0, ln (eInt .i64) p1), (1, ln (eInt .i64) p2), (5, ii v3), (12, ii (p1.length : Int)), (13, ii v3)] rfl ?_)))))))
      refine sc_seq (s_dreg Try.mixed rfl (st_mv rfl (st_mv rfl (g_iaddr (enc_int .i64) rfl rfl hw fun a11 hw => st_load_r rfl rfl (st_mv rfl (st_mv rfl (g_iaddr (enc_int .i64) rfl rfl hw fun a12 hw => st_load_r rfl rfl (g_nei rfl rfl hw (fun hw => st_mid (g_end [(0, ln (eInt .i64) p1), (1, ln (eInt .i64) p2), (12, ii (p1.length : Int)), (13, ii v3), (24, .bool true)] rfl ?_)) (fun hw => st_mid (g_end [(0, ln (eInt .i64) p1), (1, ln (eInt .i64) p2), (12, ii (p1.length : Int)), (13, ii v3), (24, .bool false)] rfl ?_))))))))))
      · refine sq_n (s_cond_t rfl (q_reg (st_mv rfl (g_endq [(4, .bool false)] rfl ?_))))
        exact sc_ret (bl_r (sq_r (lo_r (bl_r (sq_r (gr1 (g := zg24) (ho := fun _ => []) [.bool false] hw (.inr rfl) ws))))))
      · refine sq_n (s_cond_f rfl (sc_skip (bl_n (sq_n (s_reg (g_add rfl rfl hw fun v13 hw => st_mv rfl (g_end [(0, ln (eInt .i64) p1), (1, ln (eInt .i64) p2), (12, ii (p1.length : Int)), (13, ii v13)] rfl ?_)))))))
        exact lo_n ⟨v13, hw.1⟩ hw.2 ws
    · refine sc_exit (sq_x (lo_x (bl_x (sq_n (q_reg (st_mv rfl (g_endq [(4, .bool true)] rfl ?_)))))))
      exact sc_ret (gr1 (g := zg24) (ho := fun _ => []) [.bool true] hw (.inr rfl) ws)
def hc37 : C := (.seq (.reg [oo 4 (.mv (.c (.list [] .full))), oo 5 (.mv (.c (.list [] .full))), oo 6 (.mv (.c (.int .i64 0)))] [0, 1]) (.seq (.reg [oo 14 (.mklist 1 [(.c (.int .i64 10))]), mo 7 14] [0, 1, 7]) (.seq (.reg [oo 8 (.mv (.c (.int .i64 10)))] [0, 1, 7, 8]) (.seq (.seq (.reg [mo 15 0, oo 16 (.len false 15), oo 17 (.mv (.c (.int .i64 0)))] [1, 7, 8, 15, 16, 17]) (.block 0 (.loop (.seq (.reg [oo 18 (.bin .lss 17 16)] [1, 7, 8, 15, 16, 17, 18]) (.seq (.cond 18 .skip (.exit 0)) (.seq (.block 1 (.seq (.reg [mo 19 17, oo 20 (.iaddr 1 15 17), oo 21 (.load none 20), mo 9 19, mo 10 21] [1, 7, 8, 9, 10, 15, 16, 17]) (.seq (.reg [mo 22 9, oo 23 (.bin .lss 22 (.c (.int .i64 4)))] [1, 7, 8, 10, 15, 16, 17, 23]) (.cond 23 (.seq (.reg [mo 24 7, mo 25 10, co 26 (.call 17 [25, (.c (.int .i64 50))]), oo 27 (.mklist 1 [26]), oo 28 (.append 1 8 24 27), mo 7 28] [1, 7, 8, 10, 15, 16, 17]) (.reg [mo 29 8, mo 30 10, co 31 (.call 17 [30, (.c (.int .i64 50))]), oo 32 (.bin .add 29 31), mo 8 32] [1, 7, 8, 15, 16, 17])) .skip)))) (.reg [oo 33 (.bin .add 17 (.c (.int .i64 1))), mo 17 33] [1, 7, 8, 15, 16, 17]))))))) (.seq (.reg [oo 11 (.mv (.c (.list [] .full)))] [1, 7, 8, 11]) (.seq (.seq (.reg [mo 34 1, oo 35 (.len false 34), oo 36 (.mv (.c (.int .i64 0)))] [7, 8, 11, 34, 35, 36]) (.block 2 (.loop (.seq (.reg [oo 37 (.bin .lss 36 35)] [7, 8, 11, 34, 35, 36, 37]) (.seq (.cond 37 .skip (.exit 2)) (.seq (.block 3 (.seq (.reg [mo 38 36, oo 39 (.iaddr 4 34 36), oo 40 (.load (some 4) 39), oo 13 (.alloc none [(.int .i64 0), (.int .i64 0), (.int .i64 0), (.int .i64 0)]), mo 12 38, os (.store 4 13 40)] [7, 8, 11, 12, 13, 34, 35, 36]) (.seq (.reg [mo 41 12, oo 42 (.bin .lss 41 (.c (.int .i64 150)))] [7, 8, 11, 13, 34, 35, 36, 42]) (.cond 42 (.dreg [mo 43 11, oo 44 (.faddr 0 1 13), oo 45 (.load none 44), co 46 (.call 17 [45, (.c (.int .i64 3))]), oo 47 (.bin .add (.c (.int .i64 1)) 46), oo 48 (.faddr 1 1 13), oo 49 (.load none 48), mo 50 7, oo 51 (.len false 50), co 52 (.call 17 [49, 51]), oo 53 (.faddr 2 1 13), oo 54 (.load none 53), mo 55 7, oo 56 (.len false 55), co 57 (.call 17 [54, 56]), oo 58 (.faddr 3 1 13), oo 59 (.load none 58), co 60 (.call 17 [59, (.c (.int .i64 12))]), oo 61 (.bin .add (.c (.int .i64 1)) 60), oo 62 (.build [(.int .i64 0), (.int .i64 0), (.int .i64 0), (.int .i64 0)] [(0, 1, 47), (1, 1, 52), (2, 1, 57), (3, 1, 61)]), oo 63 (.mklist 4 [62]), oo 64 (.append 4 32 43 63), mo 11 64] [] 0 [7, 8, 11, 34, 35, 36]) .skip)))) (.reg [oo 65 (.bin .add 36 (.c (.int .i64 1))), mo 36 65] [7, 8, 11, 34, 35, 36]))))))) (.seq (.reg [mo 66 7, mo 67 11, mo 68 8, mo 4 66, mo 5 67, mo 6 68] [4, 5, 6]) .ret)))))))
def ha37 : Ann := ⟨[], [], [(0, [0, 1]), (1, [0, 1, 7]), (2, [0, 1, 7, 8]), (3, [1, 7, 8, 15, 16, 17]), (4, [1, 7, 8, 15, 16, 17, 18]), (5, [1, 7, 8, 9, 10, 15, 16, 17]), (6, [1, 7, 8, 10, 15, 16, 17, 23]), (7, [1, 7, 8, 10, 15, 16, 17]), (8, [1, 7, 8, 15, 16, 17]), (9, [1, 7, 8, 15, 16, 17]), (10, [1, 7, 8, 11]), (11, [7, 8, 11, 34, 35, 36]), (12, [7, 8, 11, 34, 35, 36, 37]), (13, [7, 8, 11, 12, 13, 34, 35, 36]), (14, [7, 8, 11, 13, 34, 35, 36, 42]), (15, [7, 8, 11, 34, 35, 36]), (16, [7, 8, 11, 34, 35, 36]), (17, [4, 5, 6])], []⟩
theorem hk37 : comp Try.prog ha37 Try.f37.ntmps Try.f37.code = some hc37 := by kernel_rfl
def w37 (p1 : List (Int)) (p2 : List (GMark_Deed)) (Q : List (Int) × List (GMark_Deed) × Int → Prop) : Prop :=
  ∃ (I14 : (List Int) → Int → Int → Prop) (M15 : (List Int) → Int → Int → Nat), I14 ([(10 : Int)] : List Int) (10 : Int) (0 : Int) ∧ ∀ (v3 : List Int) (v4 : Int) (v5 : Int), I14 v3 v4 v5 → ∀ v16 : Bool, v16 = decide (v5 < (p1.length : Int)) → ((v16 = true → (0 ≤ v5 ∧ v5 < (p1.length : Int)) ∧ ∀ a17 : Int, p1[(v5 : Int).toNat]? = some a17 → ((v5 < (4 : Int) → ∃ r18 : Int, sp17 a17 (50 : Int) r18 ∧ ((v3.length + ([r18] : List Int).length) * 8 ≤ 140737488355328) ∧ ∀ v19 : List Int, v19 = v3 ++ ([r18] : List Int) → ∃ r20 : Int, sp17 a17 (50 : Int) r20 ∧ (R64 (v4 + r20)) ∧ ∀ v21 : Int, v21 = v4 + r20 → (R64 (v5 + (1 : Int))) ∧ ∀ v22 : Int, v22 = v5 + (1 : Int) → (I14 v19 v21 v22 ∧ M15 v19 v21 v22 < M15 v3 v4 v5)) ∧ ((4 : Int) ≤ v5 → (R64 (v5 + (1 : Int))) ∧ ∀ v23 : Int, v23 = v5 + (1 : Int) → (I14 v3 v4 v23 ∧ M15 v3 v4 v23 < M15 v3 v4 v5)))) ∧ (v16 = false → ∃ (I37 : (List GMark_Deed) → Int → Prop) (M38 : (List GMark_Deed) → Int → Nat), I37 ([] : List GMark_Deed) (0 : Int) ∧ ∀ (v24 : List GMark_Deed) (v25 : Int), I37 v24 v25 → ∀ v39 : Bool, v39 = decide (v25 < (p2.length : Int)) → ((v39 = true → (0 ≤ v25 ∧ v25 < (p2.length : Int)) ∧ ∀ a40 : GMark_Deed, p2[(v25 : Int).toNat]? = some a40 → ((v25 < (150 : Int) → ∃ r41 : Int, sp17 a40.Kind (3 : Int) r41 ∧ (R64 ((1 : Int) + r41)) ∧ ∀ v42 : Int, v42 = (1 : Int) + r41 → ∃ r43 : Int, sp17 a40.From (v3.length : Int) r43 ∧ ∃ r44 : Int, sp17 a40.To (v3.length : Int) r44 ∧ ∃ r45 : Int, sp17 a40.N (12 : Int) r45 ∧ (R64 ((1 : Int) + r45)) ∧ ∀ v46 : Int, v46 = (1 : Int) + r45 → ((v24.length + ([(GMark_Deed.mk v42 r43 r44 v46)] : List GMark_Deed).length) * 32 ≤ 140737488355328) ∧ ∀ v47 : List GMark_Deed, v47 = v24 ++ ([(GMark_Deed.mk v42 r43 r44 v46)] : List GMark_Deed) → (R64 (v25 + (1 : Int))) ∧ ∀ v48 : Int, v48 = v25 + (1 : Int) → (I37 v47 v48 ∧ M38 v47 v48 < M38 v24 v25)) ∧ ((150 : Int) ≤ v25 → (R64 (v25 + (1 : Int))) ∧ ∀ v49 : Int, v49 = v25 + (1 : Int) → (I37 v24 v49 ∧ M38 v24 v49 < M38 v24 v25)))) ∧ (v39 = false → Q (v3, v24, v4)))))
theorem ok37 (p1 : List (Int)) (p2 : List (GMark_Deed)) (r : List (Int) × List (GMark_Deed) × Int) (hw : w37 p1 p2 fun r' => r' = r) : sp37 p1 p2 r := by
  refine zf (rs := [.t 4, .t 5, .t 6]) (g := zg37) Try.func37 hk37 ?_
  unfold w37 at hw
  show SC Try.prog Try.f37.ntmps 0 hc37 _ [(0, ln (eInt .i64) p1), (1, ln eGMark_Deed p2)] []
  unfold hc37
  refine q_reg (st_mv rfl (st_mv rfl (st_mv rfl (g_endq [(0, ln (eInt .i64) p1), (1, ln eGMark_Deed p2)] rfl ?_))))
  refine q_reg (g_mkl (enc_int .i64) [(10 : Int)] (ec rfl en) rfl (mz mkn) (st_mv rfl (g_endq [(0, ln (eInt .i64) p1), (1, ln eGMark_Deed p2), (7, lf (eInt .i64) ([(10 : Int)] : List Int))] rfl ?_)))
  refine q_reg (st_mv rfl (g_endq [(0, ln (eInt .i64) p1), (1, ln eGMark_Deed p2), (7, lf (eInt .i64) ([(10 : Int)] : List Int)), (8, ii 10)] rfl ?_))
  refine sc_seq (q_reg (st_mv rfl (g_len rfl (st_mv rfl (g_endq [(1, ln eGMark_Deed p2), (7, lf (eInt .i64) ([(10 : Int)] : List Int)), (8, ii 10), (15, ln (eInt .i64) p1), (16, ii (p1.length : Int)), (17, ii 0)] rfl ?_)))))
  refine sc_block ?_
  obtain ⟨I14, M15, hi, hw⟩ := hw
  refine sc_loop (X := { x : List Int × Int × Int // I14 x.1 x.2.1 x.2.2 }) (fun x => ([(1, ln eGMark_Deed p2), (7, .list (List.map (eInt .i64) x.1.1) (.own 0 1 1)), (8, ii x.1.2.1), (15, ln (eInt .i64) p1), (16, ii (p1.length : Int)), (17, ii x.1.2.2)], [.tok (1 + x.1.1.length)])) (fun x => M15 x.1.1 x.1.2.1 x.1.2.2) ⟨(([(10 : Int)] : List Int), (10 : Int), (0 : Int)), hi⟩ ((w_acc (l := ([(10 : Int)] : List Int)) 7 1 (n := 0) rfl (enc_int .i64) rfl).trans ws) ?_
  rintro ⟨⟨v3, v4, v5⟩, hi2⟩
  have hw := hw v3 v4 v5 hi2
  clear hi
  refine q_reg (gb_cmp rfl rfl trivial rfl hw fun v16 hw => g_endq [(1, ln eGMark_Deed p2), (7, .list (List.map (eInt .i64) v3) (.own 0 1 1)), (8, ii v4), (15, ln (eInt .i64) p1), (16, ii (p1.length : Int)), (17, ii v5), (18, .bool v16)] rfl ?_)
  refine sc_seq (s_cond rfl hw (fun hw => ?_) (fun hw => ?_))
  · refine sc_skip (sq_n (sc_seq (sc_block (q_reg (st_mv rfl (g_iaddr (enc_int .i64) rfl rfl hw fun a17 hw => st_load_r rfl rfl (st_mv rfl (st_mv rfl (g_endq [(1, ln eGMark_Deed p2), (7, .list (List.map (eInt .i64) v3) (.own 0 1 1)), (8, ii v4), (9, ii v5), (10, ii a17), (15, ln (eInt .i64) p1), (16, ii (p1.length : Int)), (17, ii v5)] rfl ?_)))))))))
    refine q_reg (st_mv rfl (g_lss rfl rfl hw (fun hw => g_endq [(1, ln eGMark_Deed p2), (7, .list (List.map (eInt .i64) v3) (.own 0 1 1)), (8, ii v4), (10, ii a17), (15, ln (eInt .i64) p1), (16, ii (p1.length : Int)), (17, ii v5), (23, .bool true)] rfl ?_) (fun hw => g_endq [(1, ln eGMark_Deed p2), (7, .list (List.map (eInt .i64) v3) (.own 0 1 1)), (8, ii v4), (10, ii a17), (15, ln (eInt .i64) p1), (16, ii (p1.length : Int)), (17, ii v5), (23, .bool false)] rfl ?_)))
    · refine s_cond_t rfl (q_reg (st_mv rfl (st_mv rfl (k_call dh (ec rfl (ec rfl en)) rfl hw fun r18 hw => g_mkl (enc_int .i64) [r18] (ec rfl en) rfl (mz mkn) (g_appo (enc_int .i64) rfl rfl rfl hw (fun z => [.tok (1 + z.length)]) (fun _ => rfl) fun v19 hw => st_mv rfl (g_endq [(1, ln eGMark_Deed p2), (7, .list (List.map (eInt .i64) v19) (.own 0 1 1)), (8, ii v4), (10, ii a17), (15, ln (eInt .i64) p1), (16, ii (p1.length : Int)), (17, ii v5)] rfl ?_))))))
      refine s_reg (st_mv rfl (st_mv rfl (k_call dh (ec rfl (ec rfl en)) rfl hw fun r20 hw => g_add rfl rfl hw fun v21 hw => st_mv rfl (g_end [(1, ln eGMark_Deed p2), (7, .list (List.map (eInt .i64) v19) (.own 0 1 1)), (8, ii v21), (15, ln (eInt .i64) p1), (16, ii (p1.length : Int)), (17, ii v5)] rfl ?_))))
      refine bl_n (sq_n (s_reg (g_add rfl rfl hw fun v22 hw => st_mv rfl (g_end [(1, ln eGMark_Deed p2), (7, .list (List.map (eInt .i64) v19) (.own 0 1 1)), (8, ii v21), (15, ln (eInt .i64) p1), (16, ii (p1.length : Int)), (17, ii v22)] rfl ?_))))
      exact lo_n ⟨(v19, v21, v22), hw.1⟩ hw.2 ws
    · refine s_cond_f rfl (sc_skip (bl_n (sq_n (s_reg (g_add rfl rfl hw fun v23 hw => st_mv rfl (g_end [(1, ln eGMark_Deed p2), (7, .list (List.map (eInt .i64) v3) (.own 0 1 1)), (8, ii v4), (15, ln (eInt .i64) p1), (16, ii (p1.length : Int)), (17, ii v23)] rfl ?_))))))
      exact lo_n ⟨(v3, v4, v23), hw.1⟩ hw.2 ws
  · refine sc_exit (sq_x (lo_x (bl_x (sq_n (q_reg (st_mv rfl (g_endq [(1, ln eGMark_Deed p2), (7, .list (List.map (eInt .i64) v3) (.own 0 1 1)), (8, ii v4), (11, nl eGMark_Deed)] rfl ?_)))))))
    refine sc_seq (q_reg (st_mv rfl (g_len rfl (st_mv rfl (g_endq [(7, .list (List.map (eInt .i64) v3) (.own 0 1 1)), (8, ii v4), (11, nl eGMark_Deed), (34, ln eGMark_Deed p2), (35, ii (p2.length : Int)), (36, ii 0)] rfl ?_)))))
    refine sc_block ?_
    obtain ⟨I37, M38, hi, hw⟩ := hw
    refine sc_loop (X := { x : List GMark_Deed × Int // I37 x.1 x.2 }) (fun x => ([(7, .list (List.map (eInt .i64) v3) (.own 0 1 1)), (8, ii v4), (11, .list (List.map eGMark_Deed x.1.1) (.own 1 1 4)), (34, ln eGMark_Deed p2), (35, ii (p2.length : Int)), (36, ii x.1.2)], [.tok (1 + v3.length), .tok (1 + x.1.1.length)])) (fun x => M38 x.1.1 x.1.2) ⟨(([] : List GMark_Deed), (0 : Int)), hi⟩ ((w_acc (l := ([] : List GMark_Deed)) 11 4 (n := 1) rfl enc_GMark_Deed rfl).trans ws) ?_
    rintro ⟨⟨v24, v25⟩, hi2⟩
    have hw := hw v24 v25 hi2
    clear hi
    refine q_reg (gb_cmp rfl rfl trivial rfl hw fun v39 hw => g_endq [(7, .list (List.map (eInt .i64) v3) (.own 0 1 1)), (8, ii v4), (11, .list (List.map eGMark_Deed v24) (.own 1 1 4)), (34, ln eGMark_Deed p2), (35, ii (p2.length : Int)), (36, ii v25), (37, .bool v39)] rfl ?_)
    refine sc_seq (s_cond rfl hw (fun hw => ?_) (fun hw => ?_))
    · refine sc_skip (sq_n (sc_seq (sc_block (q_reg (st_mv rfl (g_iaddr enc_GMark_Deed rfl rfl hw fun a40 hw => st_load_r (v := eGMark_Deed a40) rfl rfl (g_alloc (n := 2) rfl rfl (st_mv rfl (g_sp (v := eGMark_Deed a40) (h' := [.tok (1 + v3.length), .tok (1 + v24.length), .cells (HV.cells (eGMark_Deed a40))]) rfl rfl rfl (g_endq [(7, .list (List.map (eInt .i64) v3) (.own 0 1 1)), (8, ii v4), (11, .list (List.map eGMark_Deed v24) (.own 1 1 4)), (12, ii v25), (13, .ptr 2 0), (34, ln eGMark_Deed p2), (35, ii (p2.length : Int)), (36, ii v25)] rfl ?_))))))))))
      refine q_reg (st_mv rfl (g_lss rfl rfl hw (fun hw => g_endq [(7, .list (List.map (eInt .i64) v3) (.own 0 1 1)), (8, ii v4), (11, .list (List.map eGMark_Deed v24) (.own 1 1 4)), (13, .ptr 2 0), (34, ln eGMark_Deed p2), (35, ii (p2.length : Int)), (36, ii v25), (42, .bool true)] rfl ?_) (fun hw => g_endq [(7, .list (List.map (eInt .i64) v3) (.own 0 1 1)), (8, ii v4), (11, .list (List.map eGMark_Deed v24) (.own 1 1 4)), (13, .ptr 2 0), (34, ln eGMark_Deed p2), (35, ii (p2.length : Int)), (36, ii v25), (42, .bool false)] rfl ?_)))
      · refine s_cond_t rfl (s_dreg Try.mixed rfl (st_mv rfl (g_faddr_p rfl (g_load_p rfl rfl rfl (k_call dd (ec rfl (ec rfl en)) rfl hw fun r41 hw => g_add rfl rfl hw fun v42 hw => g_faddr_p rfl (g_load_p rfl rfl rfl (st_mv rfl (g_len rfl (k_call dd (ec rfl (ec rfl en)) rfl hw fun r43 hw => g_faddr_p rfl (g_load_p rfl rfl rfl (st_mv rfl (g_len rfl (k_call dd (ec rfl (ec rfl en)) rfl hw fun r44 hw => g_faddr_p rfl (g_load_p rfl rfl rfl (k_call dd (ec rfl (ec rfl en)) rfl hw fun r45 hw => g_add rfl rfl hw fun v46 hw => g_build (cs := [ii v42, ii r43, ii r44, ii v46]) (ep_cons rfl (ep_cons rfl (ep_cons rfl (ep_cons rfl ep_nil)))) rfl (g_mkl enc_GMark_Deed [(GMark_Deed.mk v42 r43 r44 v46)] (ec rfl en) rfl (mz mkn) (g_appo enc_GMark_Deed rfl rfl rfl hw (fun z => [.tok (1 + v3.length), .tok (1 + z.length), .cells (HV.cells (eGMark_Deed a40))]) (fun _ => rfl) fun v47 hw => st_mv rfl (st_mid (g_end [(7, .list (List.map (eInt .i64) v3) (.own 0 1 1)), (8, ii v4), (11, .list (List.map eGMark_Deed v47) (.own 1 1 4)), (34, ln eGMark_Deed p2), (35, ii (p2.length : Int)), (36, ii v25)] rfl ?_)))))))))))))))))))
        refine bl_n (sq_n (s_reg (g_add rfl rfl hw fun v48 hw => st_mv rfl (g_end [(7, .list (List.map (eInt .i64) v3) (.own 0 1 1)), (8, ii v4), (11, .list (List.map eGMark_Deed v47) (.own 1 1 4)), (34, ln eGMark_Deed p2), (35, ii (p2.length : Int)), (36, ii v48)] rfl ?_))))
        exact lo_n ⟨(v47, v48), hw.1⟩ hw.2 (wr [0, 1])
      · refine s_cond_f rfl (sc_skip (bl_n (sq_n (s_reg (g_add rfl rfl hw fun v49 hw => st_mv rfl (g_end [(7, .list (List.map (eInt .i64) v3) (.own 0 1 1)), (8, ii v4), (11, .list (List.map eGMark_Deed v24) (.own 1 1 4)), (34, ln eGMark_Deed p2), (35, ii (p2.length : Int)), (36, ii v49)] rfl ?_))))))
        exact lo_n ⟨(v24, v49), hw.1⟩ hw.2 (wr [0, 1])
    · refine sc_exit (sq_x (lo_x (bl_x (sq_n (q_reg (st_mv rfl (st_mv rfl (st_mv rfl (st_mv rfl (st_mv rfl (st_mv rfl (g_endq [(4, .list (List.map (eInt .i64) v3) (.own 0 1 1)), (5, .list (List.map eGMark_Deed v24) (.own 1 1 4)), (6, ii v4)] rfl ?_))))))))))))
      exact sc_ret (gr (g := zg37) (ho := fun _ => []) [.list (List.map (eInt .i64) v3) (.own 0 1 1), .list (List.map eGMark_Deed v24) (.own 1 1 4), ii v4] [ln (eInt .i64) v3, ln eGMark_Deed v24, ii v4] hw (.inr rfl) (wr []))
def hc39 : C := (.seq (.reg [oo 0 (.mv (.c (.bool false)))] []) (.seq (.reg [oo 4 (.mklist 1 [(.c (.int .i64 5)), (.c (.int .i64 3))]), oo 5 (.build [(.int .i64 0), (.int .i64 0), (.int .i64 0), (.int .i64 0)] [(0, 1, (.c (.int .i64 1))), (2, 1, (.c (.int .i64 1))), (3, 1, (.c (.int .i64 2)))]), oo 6 (.build [(.int .i64 0), (.int .i64 0), (.int .i64 0), (.int .i64 0)] [(0, 1, (.c (.int .i64 3))), (1, 1, (.c (.int .i64 1)))]), oo 7 (.build [(.int .i64 0), (.int .i64 0), (.int .i64 0), (.int .i64 0)] [(0, 1, (.c (.int .i64 2))), (2, 1, (.c (.int .i64 1)))]), oo 8 (.build [(.int .i64 0), (.int .i64 0), (.int .i64 0), (.int .i64 0)] [(0, 1, (.c (.int .i64 2))), (1, 1, (.c (.int .i64 1)))]), oo 9 (.build [(.int .i64 0), (.int .i64 0), (.int .i64 0), (.int .i64 0)] [(0, 1, (.c (.int .i64 2))), (2, 1, (.c (.int .i64 1)))]), oo 10 (.mklist 4 [5, 6, 7, 8, 9]), co 11 (.call 38 [4, 10]), mo 3 11, oo 12 (.extract 3 0), oo 13 (.extract 3 1), oo 1 (.alloc none [(.bool false), (.list [] .full), (.list [] .full), (.list [] .full), (.int .i64 0)]), os (.store 5 1 12), mo 2 13] [1, 2]) (.seq (.reg [mo 14 2, oo 15 (.eqv false .int 14 (.c (.int .i64 0))), mo 16 15, og 17 (.faddr 0 1 1) 16 true, og 18 (.load none 17) 16 true, oo 19 (.pick 16 18 (.c (.bool false))), mo 20 19, og 21 (.faddr 1 1 1) 20 true, og 22 (.load none 21) 20 true, og 23 (.mklist 1 [(.c (.int .i64 3)), (.c (.int .i64 3))]) 20 true, cg 24 (.call 24 [22, 23]) 20 true, oo 25 (.pick 20 24 (.c (.bool false))), mo 26 25, og 27 (.faddr 3 1 1) 26 true, og 28 (.load none 27) 26 true, og 29 (.mklist 1 [(.c (.int .i64 3)), (.c (.int .i64 5))]) 26 true, cg 30 (.call 24 [28, 29]) 26 true, oo 31 (.pick 26 30 (.c (.bool false))), mo 32 31, og 33 (.faddr 2 1 1) 32 true, og 34 (.load none 33) 32 true, og 35 (.len false 34) 32 true, og 36 (.eqv false .int 35 (.c (.int .i64 2))) 32 true, oo 37 (.pick 32 36 (.c (.bool false))), mo 38 37, og 39 (.faddr 2 1 1) 38 true, og 40 (.load none 39) 38 true, og 41 (.iaddr 1 40 (.c (.int .i64 1))) 38 true, og 42 (.load none 41) 38 true, og 43 (.len false 42) 38 true, og 44 (.eqv false .int 43 (.c (.int .i64 1))) 38 true, oo 45 (.pick 38 44 (.c (.bool false))), mo 46 45, og 47 (.faddr 2 1 1) 46 true, og 48 (.load none 47) 46 true, og 49 (.iaddr 1 48 (.c (.int .i64 1))) 46 true, og 50 (.load none 49) 46 true, og 51 (.iaddr 1 50 (.c (.int .i64 0))) 46 true, og 52 (.load none 51) 46 true, og 53 (.mklist 1 [(.c (.int .i64 2))]) 46 true, cg 54 (.call 24 [52, 53]) 46 true, oo 55 (.pick 46 54 (.c (.bool false))), mo 0 55] [0]) .ret)))
def ha39 : Ann := ⟨[], [], [(0, []), (1, [1, 2]), (2, [0])], []⟩
theorem hk39 : comp Try.prog ha39 Try.f39.ntmps Try.f39.code = some hc39 := by kernel_rfl
def w39  (Q : Bool → Prop) : Prop :=
  ∃ r1 : GMark_Shot × Int, sp38 ([(5 : Int), (3 : Int)] : List Int) ([(GMark_Deed.mk (1 : Int) (0 : Int) (1 : Int) (2 : Int)), (GMark_Deed.mk (3 : Int) (1 : Int) (0 : Int) (0 : Int)), (GMark_Deed.mk (2 : Int) (0 : Int) (1 : Int) (0 : Int)), (GMark_Deed.mk (2 : Int) (1 : Int) (0 : Int) (0 : Int)), (GMark_Deed.mk (2 : Int) (0 : Int) (1 : Int) (0 : Int))] : List GMark_Deed) r1 ∧ ((r1.2 = (0 : Int) → ((r1.1.Done = true → ∃ r2 : Bool, sp24 r1.1.States ([(3 : Int), (3 : Int)] : List Int) r2 ∧ ((r2 = true → ∃ r3 : Bool, sp24 r1.1.Now ([(3 : Int), (5 : Int)] : List Int) r3 ∧ ((r3 = true → (((r1.1.Ways.length : Int) = (2 : Int) → (0 ≤ (1 : Int) ∧ (1 : Int) < (r1.1.Ways.length : Int)) ∧ ∀ a4 : List (List (Int)), r1.1.Ways[((1 : Int) : Int).toNat]? = some a4 → (((a4.length : Int) = (1 : Int) → (0 ≤ (1 : Int) ∧ (1 : Int) < (r1.1.Ways.length : Int)) ∧ ∀ a5 : List (List (Int)), r1.1.Ways[((1 : Int) : Int).toNat]? = some a5 → (0 ≤ (0 : Int) ∧ (0 : Int) < (a5.length : Int)) ∧ ∀ a6 : List (Int), a5[((0 : Int) : Int).toNat]? = some a6 → ∃ r7 : Bool, sp24 a6 ([(2 : Int)] : List Int) r7 ∧ Q r7) ∧ ((a4.length : Int) ≠ (1 : Int) → Q false))) ∧ ((r1.1.Ways.length : Int) ≠ (2 : Int) → Q false))) ∧ (r3 = false → Q false))) ∧ (r2 = false → Q false))) ∧ (r1.1.Done = false → Q false))) ∧ (r1.2 ≠ (0 : Int) → Q false))
theorem ok39  (r : Bool) (hw : w39  fun r' => r' = r) : sp39  r := by
  refine zf (rs := [.t 0]) (g := zg39) Try.func39 hk39 ?_
  unfold w39 at hw
  show SC Try.prog Try.f39.ntmps 0 hc39 _ [] []
  unfold hc39
  refine q_reg (st_mv rfl (g_endq [] rfl ?_))
  refine q_reg (g_mkl (enc_int .i64) [(5 : Int), (3 : Int)] (ec rfl (ec rfl en)) rfl (mz (mz mkn)) (g_build (cs := [ii 1, ii 0, ii 1, ii 2]) (ep_cons rfl (ep_cons rfl (ep_cons rfl ep_nil))) rfl (g_build (cs := [ii 3, ii 1, ii 0, ii 0]) (ep_cons rfl (ep_cons rfl ep_nil)) rfl (g_build (cs := [ii 2, ii 0, ii 1, ii 0]) (ep_cons rfl (ep_cons rfl ep_nil)) rfl (g_build (cs := [ii 2, ii 1, ii 0, ii 0]) (ep_cons rfl (ep_cons rfl ep_nil)) rfl (g_build (cs := [ii 2, ii 0, ii 1, ii 0]) (ep_cons rfl (ep_cons rfl ep_nil)) rfl (g_mkl enc_GMark_Deed [(GMark_Deed.mk (1 : Int) (0 : Int) (1 : Int) (2 : Int)), (GMark_Deed.mk (3 : Int) (1 : Int) (0 : Int) (0 : Int)), (GMark_Deed.mk (2 : Int) (0 : Int) (1 : Int) (0 : Int)), (GMark_Deed.mk (2 : Int) (1 : Int) (0 : Int) (0 : Int)), (GMark_Deed.mk (2 : Int) (0 : Int) (1 : Int) (0 : Int))] (ec rfl (ec rfl (ec rfl (ec rfl (ec rfl en))))) rfl (mz (mz (mz (mz (mz mkn))))) (k_call dh (ec rfl (ec rfl en)) rfl hw fun r1 hw => st_mv rfl (st_extract rfl rfl (st_extract rfl rfl (g_alloc (n := 0) rfl rfl (g_sp (v := eGMark_Shot r1.1) (h' := [.cells (HV.cells (eGMark_Shot r1.1))]) rfl rfl rfl (st_mv rfl (g_endq [(1, .ptr 0 0), (2, ii r1.2)] rfl ?_))))))))))))))
  refine q_reg (st_mv rfl (g_eqi rfl rfl hw (fun hw => st_mv rfl (st_g rfl (g_faddr_p rfl (st_g rfl (g_load_p rfl rfl rfl (st_pick_t rfl rfl rfl (st_mv rfl (g_split rfl hw ?_ ?_)))))))) (fun hw => st_mv rfl (st_gft rfl (st_gft rfl (st_pick_f rfl rfl rfl (st_mv rfl (st_gft rfl (st_gft rfl (st_gft rfl (st_gft rfl (st_pick_f rfl rfl rfl (st_mv rfl (st_gft rfl (st_gft rfl (st_gft rfl (st_gft rfl (st_pick_f rfl rfl rfl (st_mv rfl (st_gft rfl (st_gft rfl (st_gft rfl (st_gft rfl (st_pick_f rfl rfl rfl (st_mv rfl (st_gft rfl (st_gft rfl (st_gft rfl (st_gft rfl (st_gft rfl (st_gft rfl (st_pick_f rfl rfl rfl (st_mv rfl (st_gft rfl (st_gft rfl (st_gft rfl (st_gft rfl (st_gft rfl (st_gft rfl (st_gft rfl (st_gft rfl (st_pick_f rfl rfl rfl (st_mv rfl (g_endq [(0, .bool false)] rfl ?_))))))))))))))))))))))))))))))))))))))))))))
  · intro c hw
    rw [c]
    refine st_g rfl (g_faddr_p rfl (st_g rfl (g_load_p rfl rfl rfl (st_g rfl (g_mkl (enc_int .i64) [(3 : Int), (3 : Int)] (ec rfl (ec rfl en)) rfl (mz (mz mkn)) (st_g rfl (k_call dh (ec rfl (ec rfl en)) rfl hw fun r2 hw => st_pick_t rfl rfl rfl (st_mv rfl (g_split rfl hw ?_ ?_)))))))))
    · intro c hw
      rw [c]
      refine st_g rfl (g_faddr_p rfl (st_g rfl (g_load_p rfl rfl rfl (st_g rfl (g_mkl (enc_int .i64) [(3 : Int), (5 : Int)] (ec rfl (ec rfl en)) rfl (mz (mz mkn)) (st_g rfl (k_call dh (ec rfl (ec rfl en)) rfl hw fun r3 hw => st_pick_t rfl rfl rfl (st_mv rfl (g_split rfl hw ?_ ?_)))))))))
      · intro c hw
        rw [c]
        refine st_g rfl (g_faddr_p rfl (st_g rfl (g_load_p rfl rfl rfl (st_g rfl (g_len rfl (st_g rfl (g_eqi rfl rfl hw (fun hw => st_pick_t rfl rfl rfl (st_mv rfl (st_g rfl (g_faddr_p rfl (st_g rfl (g_load_p rfl rfl rfl (st_g rfl (g_iaddr (enc_lst (enc_lst (enc_int .i64))) rfl rfl hw fun a4 hw => st_g rfl (st_load_r rfl rfl (st_g rfl (g_len rfl (st_g rfl (g_eqi rfl rfl hw (fun hw => st_pick_t rfl rfl rfl (st_mv rfl (st_g rfl (g_faddr_p rfl (st_g rfl (g_load_p rfl rfl rfl (st_g rfl (g_iaddr (enc_lst (enc_lst (enc_int .i64))) rfl rfl hw fun a5 hw => st_g rfl (st_load_r rfl rfl (st_g rfl (g_iaddr (enc_lst (enc_int .i64)) rfl rfl hw fun a6 hw => st_g rfl (st_load_r rfl rfl (st_g rfl (g_mkl (enc_int .i64) [(2 : Int)] (ec rfl en) rfl (mz mkn) (st_g rfl (k_call dh (ec rfl (ec rfl en)) rfl hw fun r7 hw => st_pick_t rfl rfl rfl (st_mv rfl (g_endq [(0, .bool r7)] rfl ?_)))))))))))))))))) (fun hw => st_pick_t rfl rfl rfl (st_mv rfl (st_gft rfl (st_gft rfl (st_gft rfl (st_gft rfl (st_gft rfl (st_gft rfl (st_gft rfl (st_gft rfl (st_pick_f rfl rfl rfl (st_mv rfl (g_endq [(0, .bool false)] rfl ?_)))))))))))))))))))))))))) (fun hw => st_pick_t rfl rfl rfl (st_mv rfl (st_gft rfl (st_gft rfl (st_gft rfl (st_gft rfl (st_gft rfl (st_gft rfl (st_pick_f rfl rfl rfl (st_mv rfl (st_gft rfl (st_gft rfl (st_gft rfl (st_gft rfl (st_gft rfl (st_gft rfl (st_gft rfl (st_gft rfl (st_pick_f rfl rfl rfl (st_mv rfl (g_endq [(0, .bool false)] rfl ?_))))))))))))))))))))))))))))
        · exact sc_ret (gr1 (g := zg39) (ho := fun _ => []) [.bool r7] hw (.inr rfl) (wr []))
        · exact sc_ret (gr1 (g := zg39) (ho := fun _ => []) [.bool false] hw (.inr rfl) (wr []))
        · exact sc_ret (gr1 (g := zg39) (ho := fun _ => []) [.bool false] hw (.inr rfl) (wr []))
      · intro c hw
        rw [c]
        refine st_gft rfl (st_gft rfl (st_gft rfl (st_gft rfl (st_pick_f rfl rfl rfl (st_mv rfl (st_gft rfl (st_gft rfl (st_gft rfl (st_gft rfl (st_gft rfl (st_gft rfl (st_pick_f rfl rfl rfl (st_mv rfl (st_gft rfl (st_gft rfl (st_gft rfl (st_gft rfl (st_gft rfl (st_gft rfl (st_gft rfl (st_gft rfl (st_pick_f rfl rfl rfl (st_mv rfl (g_endq [(0, .bool false)] rfl ?_))))))))))))))))))))))))
        exact sc_ret (gr1 (g := zg39) (ho := fun _ => []) [.bool false] hw (.inr rfl) (wr []))
    · intro c hw
      rw [c]
      refine st_gft rfl (st_gft rfl (st_gft rfl (st_gft rfl (st_pick_f rfl rfl rfl (st_mv rfl (st_gft rfl (st_gft rfl (st_gft rfl (st_gft rfl (st_pick_f rfl rfl rfl (st_mv rfl (st_gft rfl (st_gft rfl (st_gft rfl (st_gft rfl (st_gft rfl (st_gft rfl (st_pick_f rfl rfl rfl (st_mv rfl (st_gft rfl (st_gft rfl (st_gft rfl (st_gft rfl (st_gft rfl (st_gft rfl (st_gft rfl (st_gft rfl (st_pick_f rfl rfl rfl (st_mv rfl (g_endq [(0, .bool false)] rfl ?_))))))))))))))))))))))))))))))
      exact sc_ret (gr1 (g := zg39) (ho := fun _ => []) [.bool false] hw (.inr rfl) (wr []))
  · intro c hw
    rw [c]
    refine st_gft rfl (st_gft rfl (st_gft rfl (st_gft rfl (st_pick_f rfl rfl rfl (st_mv rfl (st_gft rfl (st_gft rfl (st_gft rfl (st_gft rfl (st_pick_f rfl rfl rfl (st_mv rfl (st_gft rfl (st_gft rfl (st_gft rfl (st_gft rfl (st_pick_f rfl rfl rfl (st_mv rfl (st_gft rfl (st_gft rfl (st_gft rfl (st_gft rfl (st_gft rfl (st_gft rfl (st_pick_f rfl rfl rfl (st_mv rfl (st_gft rfl (st_gft rfl (st_gft rfl (st_gft rfl (st_gft rfl (st_gft rfl (st_gft rfl (st_gft rfl (st_pick_f rfl rfl rfl (st_mv rfl (g_endq [(0, .bool false)] rfl ?_))))))))))))))))))))))))))))))))))))
    exact sc_ret (gr1 (g := zg39) (ho := fun _ => []) [.bool false] hw (.inr rfl) (wr []))
  · exact sc_ret (gr1 (g := zg39) (ho := fun _ => []) [.bool false] hw (.inr rfl) (wr []))
def hc41 : C := (.seq (.reg [oo 4 (.mv (.c (.bool false)))] [0, 1]) (.seq (.reg [mo 5 0, mo 6 1, co 7 (.call 42 [5, 6, (.c (.func 24 []))]), mo 4 7] [4]) .ret))
def ha41 : Ann := ⟨[], [], [(0, [0, 1]), (1, [4])], []⟩
theorem hk41 : comp Try.prog ha41 Try.f41.ntmps Try.f41.code = some hc41 := by kernel_rfl
def w41 (p1 : List (List (Int))) (p2 : List (List (Int))) (Q : Bool → Prop) : Prop :=
  ∃ r3 : Bool, sp42_24 p1 p2 r3 ∧ Q r3
theorem ok41 (p1 : List (List (Int))) (p2 : List (List (Int))) (r : Bool) (hw : w41 p1 p2 fun r' => r' = r) : sp41 p1 p2 r := by
  refine zf (rs := [.t 4]) (g := zg41) Try.func41 hk41 ?_
  unfold w41 at hw
  show SC Try.prog Try.f41.ntmps 0 hc41 _ [(0, ln (eLst (eInt .i64)) p1), (1, ln (eLst (eInt .i64)) p2)] []
  unfold hc41
  refine q_reg (st_mv rfl (g_endq [(0, ln (eLst (eInt .i64)) p1), (1, ln (eLst (eInt .i64)) p2)] rfl ?_))
  refine q_reg (st_mv rfl (st_mv rfl (k_call dh (ec rfl (ec rfl (ec rfl en))) rfl hw fun r3 hw => st_mv rfl (g_endq [(4, .bool r3)] rfl ?_))))
  exact sc_ret (gr1 (g := zg41) (ho := fun _ => []) [.bool r3] hw (.inr rfl) ws)
def hc46 : C := (.seq (.reg [oo 4 (.mv (.c (.bool false)))] [0, 1]) (.seq (.reg [mo 5 0, mo 6 1, co 7 (.call 48 [5, 6]), oo 8 (.bin .geq 7 (.c (.int .i64 0))), mo 4 8] [4]) .ret))
def ha46 : Ann := ⟨[], [], [(0, [0, 1]), (1, [4])], []⟩
theorem hk46 : comp Try.prog ha46 Try.f46.ntmps Try.f46.code = some hc46 := by kernel_rfl
def w46 (p1 : List (Int)) (p2 : Int) (Q : Bool → Prop) : Prop :=
  ∃ r3 : Int, sp48 p1 p2 r3 ∧ ∀ v4 : Bool, v4 = decide (r3 ≥ (0 : Int)) → Q v4
theorem ok46 (p1 : List (Int)) (p2 : Int) (r : Bool) (hw : w46 p1 p2 fun r' => r' = r) : sp46 p1 p2 r := by
  refine zf (rs := [.t 4]) (g := zg46) Try.func46 hk46 ?_
  unfold w46 at hw
  show SC Try.prog Try.f46.ntmps 0 hc46 _ [(0, ln (eInt .i64) p1), (1, ii p2)] []
  unfold hc46
  refine q_reg (st_mv rfl (g_endq [(0, ln (eInt .i64) p1), (1, ii p2)] rfl ?_))
  refine q_reg (st_mv rfl (st_mv rfl (k_call dh (ec rfl (ec rfl en)) rfl hw fun r3 hw => gb_cmp rfl rfl trivial rfl hw fun v4 hw => st_mv rfl (g_endq [(4, .bool v4)] rfl ?_))))
  exact sc_ret (gr1 (g := zg46) (ho := fun _ => []) [.bool v4] hw (.inr rfl) ws)
def hc47 : C := (.seq (.reg [oo 2 (.mv (.c (.list [] .full)))] [0]) (.seq (.seq (.reg [mo 3 0, oo 4 (.eqv false .slice 3 (.c .nilslice))] [0, 4]) (.cond 4 (.seq (.reg [oo 2 (.mv (.c (.list [] .full)))] [2]) .ret) .skip)) (.seq (.reg [oo 5 (.mklist 1 []), mo 6 0, oo 7 (.append 1 8 5 6), mo 2 7] [2]) .ret)))
def ha47 : Ann := ⟨[], [], [(0, [0]), (1, [0, 4]), (2, [2]), (3, [2])], []⟩
theorem hk47 : comp Try.prog ha47 Try.f47.ntmps Try.f47.code = some hc47 := by kernel_rfl
def w47 (p1 : List (Int)) (Q : List (Int) → Prop) : Prop :=
  ((p1.length = 0 → Q ([] : List Int)) ∧ (((([] : List Int).length + p1.length) * 8 ≤ 140737488355328) ∧ ∀ v2 : List Int, v2 = ([] : List Int) ++ p1 → Q v2))
theorem ok47 (p1 : List (Int)) (r : List (Int)) (hw : w47 p1 fun r' => r' = r) : sp47 p1 r := by
  refine zf (rs := [.t 2]) (g := zg47) Try.func47 hk47 ?_
  unfold w47 at hw
  show SC Try.prog Try.f47.ntmps 0 hc47 _ [(0, ln (eInt .i64) p1)] []
  unfold hc47
  refine q_reg (st_mv rfl (g_endq [(0, ln (eInt .i64) p1)] rfl ?_))
  refine sc_seq (q_reg (st_mv rfl (g_eqn2 rfl rfl hw (fun hw => g_endq [(0, ln (eInt .i64) p1), (4, .bool true)] rfl ?_) (fun hw => g_endq [(0, ln (eInt .i64) p1), (4, .bool false)] rfl ?_))))
  · refine s_cond_t rfl (q_reg (st_mv rfl (g_endq [(2, nl (eInt .i64))] rfl ?_)))
    exact sc_ret (sq_r (gr (g := zg47) (ho := fun _ => []) [nl (eInt .i64)] [ln (eInt .i64) ([] : List Int)] hw (.inr rfl) ws))
  · refine s_cond_f rfl (sc_skip (sq_n (q_reg (g_mkl (enc_int .i64) [] en rfl mkn (st_mv rfl (g_appf (enc_int .i64) rfl rfl (n := 0) rfl hw fun v2 hw => st_mv rfl (g_endq [(2, .list (List.map (eInt .i64) v2) (.own 0 1 1))] rfl ?_)))))))
    exact sc_ret (gr (g := zg47) (ho := fun _ => []) [.list (List.map (eInt .i64) v2) (.own 0 1 1)] [ln (eInt .i64) v2] hw (.inr rfl) (wr []))
def hc48 : C := (.seq (.reg [oo 4 (.mv (.c (.int .i64 0)))] [0, 1]) (.seq (.seq (.reg [mo 6 0, oo 7 (.len false 6), oo 8 (.mv (.c (.int .i64 0)))] [0, 1, 7, 8]) (.block 0 (.loop (.seq (.reg [oo 9 (.bin .lss 8 7)] [0, 1, 7, 8, 9]) (.seq (.cond 9 .skip (.exit 0)) (.seq (.block 1 (.seq (.reg [mo 10 8, mo 5 10] [0, 1, 5, 7, 8]) (.seq (.reg [mo 11 1, mo 12 0, mo 13 5, oo 14 (.iaddr 1 12 13), oo 15 (.load none 14), oo 16 (.eqv false .int 11 15)] [0, 1, 5, 7, 8, 16]) (.cond 16 (.seq (.reg [mo 17 5, mo 4 17] [4]) .ret) .skip)))) (.reg [oo 18 (.bin .add 8 (.c (.int .i64 1))), mo 8 18] [0, 1, 7, 8]))))))) (.seq (.reg [oo 4 (.mv (.c (.int .i64 (-1))))] [4]) .ret)))
def ha48 : Ann := ⟨[], [], [(0, [0, 1]), (1, [0, 1, 7, 8]), (2, [0, 1, 7, 8, 9]), (3, [0, 1, 5, 7, 8]), (4, [0, 1, 5, 7, 8, 16]), (5, [4]), (6, [0, 1, 7, 8]), (7, [4])], []⟩
theorem hk48 : comp Try.prog ha48 Try.f48.ntmps Try.f48.code = some hc48 := by kernel_rfl
def w48 (p1 : List (Int)) (p2 : Int) (Q : Int → Prop) : Prop :=
  ∃ (I7 : Int → Prop) (M8 : Int → Nat), I7 (0 : Int) ∧ ∀ (v3 : Int), I7 v3 → ∀ v9 : Bool, v9 = decide (v3 < (p1.length : Int)) → ((v9 = true → (0 ≤ v3 ∧ v3 < (p1.length : Int)) ∧ ∀ a10 : Int, p1[(v3 : Int).toNat]? = some a10 → ((p2 = a10 → Q v3) ∧ (p2 ≠ a10 → (R64 (v3 + (1 : Int))) ∧ ∀ v11 : Int, v11 = v3 + (1 : Int) → (I7 v11 ∧ M8 v11 < M8 v3)))) ∧ (v9 = false → Q (-1 : Int)))
theorem ok48 (p1 : List (Int)) (p2 : Int) (r : Int) (hw : w48 p1 p2 fun r' => r' = r) : sp48 p1 p2 r := by
  refine zf (rs := [.t 4]) (g := zg48) Try.func48 hk48 ?_
  unfold w48 at hw
  show SC Try.prog Try.f48.ntmps 0 hc48 _ [(0, ln (eInt .i64) p1), (1, ii p2)] []
  unfold hc48
  refine q_reg (st_mv rfl (g_endq [(0, ln (eInt .i64) p1), (1, ii p2)] rfl ?_))
  refine sc_seq (q_reg (st_mv rfl (g_len rfl (st_mv rfl (g_endq [(0, ln (eInt .i64) p1), (1, ii p2), (7, ii (p1.length : Int)), (8, ii 0)] rfl ?_)))))
  refine sc_block ?_
  obtain ⟨I7, M8, hi, hw⟩ := hw
  refine sc_loop (X := { x : Int // I7 x }) (fun x => ([(0, ln (eInt .i64) p1), (1, ii p2), (7, ii (p1.length : Int)), (8, ii x.1)], [])) (fun x => M8 x.1) ⟨(0 : Int), hi⟩ ws ?_
  rintro ⟨v3, hi2⟩
  have hw := hw v3 hi2
  clear hi
  refine q_reg (gb_cmp rfl rfl trivial rfl hw fun v9 hw => g_endq [(0, ln (eInt .i64) p1), (1, ii p2), (7, ii (p1.length : Int)), (8, ii v3), (9, .bool v9)] rfl ?_)
  refine sc_seq (s_cond rfl hw (fun hw => ?_) (fun hw => ?_))
  · refine sc_skip (sq_n (sc_seq (sc_block (q_reg (st_mv rfl (st_mv rfl (g_endq [(0, ln (eInt .i64) p1), (1, ii p2), (5, ii v3), (7, ii (p1.length : Int)), (8, ii v3)] rfl ?_)))))))
    refine q_reg (st_mv rfl (st_mv rfl (st_mv rfl (g_iaddr (enc_int .i64) rfl rfl hw fun a10 hw => st_load_r rfl rfl (g_eqi rfl rfl hw (fun hw => g_endq [(0, ln (eInt .i64) p1), (1, ii p2), (5, ii v3), (7, ii (p1.length : Int)), (8, ii v3), (16, .bool true)] rfl ?_) (fun hw => g_endq [(0, ln (eInt .i64) p1), (1, ii p2), (5, ii v3), (7, ii (p1.length : Int)), (8, ii v3), (16, .bool false)] rfl ?_))))))
    · refine s_cond_t rfl (q_reg (st_mv rfl (st_mv rfl (g_endq [(4, ii v3)] rfl ?_))))
      exact sc_ret (bl_r (sq_r (lo_r (bl_r (sq_r (gr1 (g := zg48) (ho := fun _ => []) [ii v3] hw (.inr rfl) ws))))))
    · refine s_cond_f rfl (sc_skip (bl_n (sq_n (s_reg (g_add rfl rfl hw fun v11 hw => st_mv rfl (g_end [(0, ln (eInt .i64) p1), (1, ii p2), (7, ii (p1.length : Int)), (8, ii v11)] rfl ?_))))))
      exact lo_n ⟨v11, hw.1⟩ hw.2 ws
  · refine sc_exit (sq_x (lo_x (bl_x (sq_n (q_reg (st_mv rfl (g_endq [(4, ii (-1 : Int))] rfl ?_)))))))
    exact sc_ret (gr1 (g := zg48) (ho := fun _ => []) [ii (-1 : Int)] hw (.inr rfl) ws)
def hc63 : C := (.seq (.reg [oo 4 (.mv (.c (.int .i64 0)))] [0, 1]) (.seq (.seq (.reg [mo 6 0, oo 7 (.len false 6), oo 8 (.mv (.c (.int .i64 0)))] [0, 1, 7, 8]) (.block 0 (.loop (.seq (.reg [oo 9 (.bin .lss 8 7)] [0, 1, 7, 8, 9]) (.seq (.cond 9 .skip (.exit 0)) (.seq (.block 1 (.seq (.reg [mo 10 8, mo 5 10] [0, 1, 5, 7, 8]) (.seq (.reg [mo 11 1, mo 12 0, mo 13 5, oo 14 (.iaddr 1 12 13), oo 15 (.load none 14), oo 16 (.eqv false .bool 11 15)] [0, 1, 5, 7, 8, 16]) (.cond 16 (.seq (.reg [mo 17 5, mo 4 17] [4]) .ret) .skip)))) (.reg [oo 18 (.bin .add 8 (.c (.int .i64 1))), mo 8 18] [0, 1, 7, 8]))))))) (.seq (.reg [oo 4 (.mv (.c (.int .i64 (-1))))] [4]) .ret)))
def ha63 : Ann := ⟨[], [], [(0, [0, 1]), (1, [0, 1, 7, 8]), (2, [0, 1, 7, 8, 9]), (3, [0, 1, 5, 7, 8]), (4, [0, 1, 5, 7, 8, 16]), (5, [4]), (6, [0, 1, 7, 8]), (7, [4])], []⟩
theorem hk63 : comp Try.prog ha63 Try.f63.ntmps Try.f63.code = some hc63 := by kernel_rfl
def w63 (p1 : List (Bool)) (p2 : Bool) (Q : Int → Prop) : Prop :=
  ∃ (I8 : Int → Prop) (M9 : Int → Nat), I8 (0 : Int) ∧ ∀ (v3 : Int), I8 v3 → ∀ v10 : Bool, v10 = decide (v3 < (p1.length : Int)) → ((v10 = true → (0 ≤ v3 ∧ v3 < (p1.length : Int)) ∧ ∀ a11 : Bool, p1[(v3 : Int).toNat]? = some a11 → ∀ v12 : Bool, v12 = (if false then !(p2 == a11) else (p2 == a11)) → ((v12 = true → Q v3) ∧ (v12 = false → (R64 (v3 + (1 : Int))) ∧ ∀ v13 : Int, v13 = v3 + (1 : Int) → (I8 v13 ∧ M9 v13 < M9 v3)))) ∧ (v10 = false → Q (-1 : Int)))
theorem ok63 (p1 : List (Bool)) (p2 : Bool) (r : Int) (hw : w63 p1 p2 fun r' => r' = r) : sp63 p1 p2 r := by
  refine zf (rs := [.t 4]) (g := zg63) Try.func63 hk63 ?_
  unfold w63 at hw
  show SC Try.prog Try.f63.ntmps 0 hc63 _ [(0, ln eBool p1), (1, .bool p2)] []
  unfold hc63
  refine q_reg (st_mv rfl (g_endq [(0, ln eBool p1), (1, .bool p2)] rfl ?_))
  refine sc_seq (q_reg (st_mv rfl (g_len rfl (st_mv rfl (g_endq [(0, ln eBool p1), (1, .bool p2), (7, ii (p1.length : Int)), (8, ii 0)] rfl ?_)))))
  refine sc_block ?_
  obtain ⟨I8, M9, hi, hw⟩ := hw
  refine sc_loop (X := { x : Int // I8 x }) (fun x => ([(0, ln eBool p1), (1, .bool p2), (7, ii (p1.length : Int)), (8, ii x.1)], [])) (fun x => M9 x.1) ⟨(0 : Int), hi⟩ ws ?_
  rintro ⟨v3, hi2⟩
  have hw := hw v3 hi2
  clear hi
  refine q_reg (gb_cmp rfl rfl trivial rfl hw fun v10 hw => g_endq [(0, ln eBool p1), (1, .bool p2), (7, ii (p1.length : Int)), (8, ii v3), (9, .bool v10)] rfl ?_)
  refine sc_seq (s_cond rfl hw (fun hw => ?_) (fun hw => ?_))
  · refine sc_skip (sq_n (sc_seq (sc_block (q_reg (st_mv rfl (st_mv rfl (g_endq [(0, ln eBool p1), (1, .bool p2), (5, ii v3), (7, ii (p1.length : Int)), (8, ii v3)] rfl ?_)))))))
    refine q_reg (st_mv rfl (st_mv rfl (st_mv rfl (g_iaddr enc_bool rfl rfl hw fun a11 hw => st_load_r rfl rfl (gb_eqb rfl rfl hw fun v12 hw => g_endq [(0, ln eBool p1), (1, .bool p2), (5, ii v3), (7, ii (p1.length : Int)), (8, ii v3), (16, .bool v12)] rfl ?_)))))
    refine s_cond rfl hw (fun hw => ?_) (fun hw => ?_)
    · refine q_reg (st_mv rfl (st_mv rfl (g_endq [(4, ii v3)] rfl ?_)))
      exact sc_ret (bl_r (sq_r (lo_r (bl_r (sq_r (gr1 (g := zg63) (ho := fun _ => []) [ii v3] hw (.inr rfl) ws))))))
    · refine sc_skip (bl_n (sq_n (s_reg (g_add rfl rfl hw fun v13 hw => st_mv rfl (g_end [(0, ln eBool p1), (1, .bool p2), (7, ii (p1.length : Int)), (8, ii v13)] rfl ?_)))))
      exact lo_n ⟨v13, hw.1⟩ hw.2 ws
  · refine sc_exit (sq_x (lo_x (bl_x (sq_n (q_reg (st_mv rfl (g_endq [(4, ii (-1 : Int))] rfl ?_)))))))
    exact sc_ret (gr1 (g := zg63) (ho := fun _ => []) [ii (-1 : Int)] hw (.inr rfl) ws)
def hc50 : C := (.seq (.reg [oo 4 (.mv (.c (.bool false)))] [0, 1]) (.seq (.reg [mo 5 0, mo 6 1, co 7 (.call 63 [5, 6]), oo 8 (.bin .geq 7 (.c (.int .i64 0))), mo 4 8] [4]) .ret))
def ha50 : Ann := ⟨[], [], [(0, [0, 1]), (1, [4])], []⟩
theorem hk50 : comp Try.prog ha50 Try.f50.ntmps Try.f50.code = some hc50 := by kernel_rfl
def w50 (p1 : List (Bool)) (p2 : Bool) (Q : Bool → Prop) : Prop :=
  ∃ r3 : Int, sp63 p1 p2 r3 ∧ ∀ v4 : Bool, v4 = decide (r3 ≥ (0 : Int)) → Q v4
theorem ok50 (p1 : List (Bool)) (p2 : Bool) (r : Bool) (hw : w50 p1 p2 fun r' => r' = r) : sp50 p1 p2 r := by
  refine zf (rs := [.t 4]) (g := zg50) Try.func50 hk50 ?_
  unfold w50 at hw
  show SC Try.prog Try.f50.ntmps 0 hc50 _ [(0, ln eBool p1), (1, .bool p2)] []
  unfold hc50
  refine q_reg (st_mv rfl (g_endq [(0, ln eBool p1), (1, .bool p2)] rfl ?_))
  refine q_reg (st_mv rfl (st_mv rfl (k_call dh (ec rfl (ec rfl en)) rfl hw fun r3 hw => gb_cmp rfl rfl trivial rfl hw fun v4 hw => st_mv rfl (g_endq [(4, .bool v4)] rfl ?_))))
  exact sc_ret (gr1 (g := zg50) (ho := fun _ => []) [.bool v4] hw (.inr rfl) ws)
def hc40 : C := (.seq (.reg [oo 6 (.mv (.c (.bool false)))] [0, 1, 2]) (.seq (.seq (.reg [mo 10 0, oo 11 (.len false 10), mo 12 1, oo 13 (.len false 12), oo 14 (.eqv true .int 11 13)] [0, 1, 2, 14]) (.cond 14 (.seq (.reg [oo 6 (.mv (.c (.bool false)))] [6]) .ret) .skip)) (.seq (.seq (.reg [mo 15 0, oo 16 (.len false 15), oo 17 (.mv (.c (.int .i64 0)))] [1, 2, 15, 16, 17]) (.block 0 (.loop (.seq (.reg [oo 18 (.bin .lss 17 16)] [1, 2, 15, 16, 17, 18]) (.seq (.cond 18 .skip (.exit 0)) (.seq (.block 1 (.seq (.reg [mo 19 17, oo 20 (.iaddr 1 15 17), oo 21 (.load none 20), mo 7 19, mo 8 21] [1, 2, 7, 8, 15, 16, 17]) (.seq (.reg [mo 22 1, mo 23 7, oo 24 (.iaddr 1 22 23), oo 25 (.load none 24), mo 9 25] [1, 2, 8, 9, 15, 16, 17]) (.seq (.reg [mo 26 2, mo 27 8, mo 28 9, co 29 (.callv 26 [27, 28]), oo 30 (.un .not 29)] [1, 2, 15, 16, 17, 30]) (.cond 30 (.seq (.reg [oo 6 (.mv (.c (.bool false)))] [6]) .ret) .skip))))) (.reg [oo 31 (.bin .add 17 (.c (.int .i64 1))), mo 17 31] [1, 2, 15, 16, 17]))))))) (.seq (.reg [oo 6 (.mv (.c (.bool true)))] [6]) .ret))))
def ha40 : Ann := ⟨[], [67, 68, 72, 74, 999999], [(0, [0, 1, 2]), (1, [0, 1, 2, 14]), (2, [6]), (3, [1, 2, 15, 16, 17]), (4, [1, 2, 15, 16, 17, 18]), (5, [1, 2, 7, 8, 15, 16, 17]), (6, [1, 2, 8, 9, 15, 16, 17]), (7, [1, 2, 15, 16, 17, 30]), (8, [6]), (9, [1, 2, 15, 16, 17]), (10, [6])], []⟩
theorem hk40 : comp Try.prog ha40 Try.f40.ntmps Try.f40.code = some hc40 := by kernel_rfl
def w40_41 (p1 : List (List (List (Int)))) (p2 : List (List (List (Int)))) (Q : Bool → Prop) : Prop :=
  (((p1.length : Int) ≠ (p2.length : Int) → Q false) ∧ ((p1.length : Int) = (p2.length : Int) → ∃ (I9 : Int → Prop) (M10 : Int → Nat), I9 (0 : Int) ∧ ∀ (v3 : Int), I9 v3 → ∀ v11 : Bool, v11 = decide (v3 < (p1.length : Int)) → ((v11 = true → (0 ≤ v3 ∧ v3 < (p1.length : Int)) ∧ ∀ a12 : List (List (Int)), p1[(v3 : Int).toNat]? = some a12 → (0 ≤ v3 ∧ v3 < (p2.length : Int)) ∧ ∀ a13 : List (List (Int)), p2[(v3 : Int).toNat]? = some a13 → ∃ r14 : Bool, sp41 a12 a13 r14 ∧ (((!r14) = true → Q false) ∧ ((!r14) = false → (R64 (v3 + (1 : Int))) ∧ ∀ v15 : Int, v15 = v3 + (1 : Int) → (I9 v15 ∧ M10 v15 < M10 v3)))) ∧ (v11 = false → Q true))))
theorem ok40_41 (p1 : List (List (List (Int)))) (p2 : List (List (List (Int)))) (r : Bool) (hw : w40_41 p1 p2 fun r' => r' = r) : sp40_41 p1 p2 r := by
  refine zf (rs := [.t 6]) (g := zg40_41) Try.func40 hk40 ?_
  unfold w40_41 at hw
  show SC Try.prog Try.f40.ntmps 0 hc40 _ [(0, ln (eLst (eLst (eInt .i64))) p1), (1, ln (eLst (eLst (eInt .i64))) p2), (2, .func 41 [])] []
  unfold hc40
  refine q_reg (st_mv rfl (g_endq [(0, ln (eLst (eLst (eInt .i64))) p1), (1, ln (eLst (eLst (eInt .i64))) p2), (2, .func 41 [])] rfl ?_))
  refine sc_seq (q_reg (st_mv rfl (g_len rfl (st_mv rfl (g_len rfl (g_nei rfl rfl hw (fun hw => g_endq [(0, ln (eLst (eLst (eInt .i64))) p1), (1, ln (eLst (eLst (eInt .i64))) p2), (2, .func 41 []), (14, .bool true)] rfl ?_) (fun hw => g_endq [(0, ln (eLst (eLst (eInt .i64))) p1), (1, ln (eLst (eLst (eInt .i64))) p2), (2, .func 41 []), (14, .bool false)] rfl ?_)))))))
  · refine s_cond_t rfl (q_reg (st_mv rfl (g_endq [(6, .bool false)] rfl ?_)))
    exact sc_ret (sq_r (gr1 (g := zg40_41) (ho := fun _ => []) [.bool false] hw (.inr rfl) ws))
  · refine s_cond_f rfl (sc_skip (sq_n (sc_seq (q_reg (st_mv rfl (g_len rfl (st_mv rfl (g_endq [(1, ln (eLst (eLst (eInt .i64))) p2), (2, .func 41 []), (15, ln (eLst (eLst (eInt .i64))) p1), (16, ii (p1.length : Int)), (17, ii 0)] rfl ?_))))))))
    refine sc_block ?_
    obtain ⟨I9, M10, hi, hw⟩ := hw
    refine sc_loop (X := { x : Int // I9 x }) (fun x => ([(1, ln (eLst (eLst (eInt .i64))) p2), (2, .func 41 []), (15, ln (eLst (eLst (eInt .i64))) p1), (16, ii (p1.length : Int)), (17, ii x.1)], [])) (fun x => M10 x.1) ⟨(0 : Int), hi⟩ ws ?_
    rintro ⟨v3, hi2⟩
    have hw := hw v3 hi2
    clear hi
    refine q_reg (gb_cmp rfl rfl trivial rfl hw fun v11 hw => g_endq [(1, ln (eLst (eLst (eInt .i64))) p2), (2, .func 41 []), (15, ln (eLst (eLst (eInt .i64))) p1), (16, ii (p1.length : Int)), (17, ii v3), (18, .bool v11)] rfl ?_)
    refine sc_seq (s_cond rfl hw (fun hw => ?_) (fun hw => ?_))
    · refine sc_skip (sq_n (sc_seq (sc_block (q_reg (st_mv rfl (g_iaddr (enc_lst (enc_lst (enc_int .i64))) rfl rfl hw fun a12 hw => st_load_r rfl rfl (st_mv rfl (st_mv rfl (g_endq [(1, ln (eLst (eLst (eInt .i64))) p2), (2, .func 41 []), (7, ii v3), (8, ln (eLst (eInt .i64)) a12), (15, ln (eLst (eLst (eInt .i64))) p1), (16, ii (p1.length : Int)), (17, ii v3)] rfl ?_)))))))))
      refine q_reg (st_mv rfl (st_mv rfl (g_iaddr (enc_lst (enc_lst (enc_int .i64))) rfl rfl hw fun a13 hw => st_load_r rfl rfl (st_mv rfl (g_endq [(1, ln (eLst (eLst (eInt .i64))) p2), (2, .func 41 []), (8, ln (eLst (eInt .i64)) a12), (9, ln (eLst (eInt .i64)) a13), (15, ln (eLst (eLst (eInt .i64))) p1), (16, ii (p1.length : Int)), (17, ii v3)] rfl ?_)))))
      refine q_reg (st_mv rfl (st_mv rfl (st_mv rfl (k_callv dh rfl (ec rfl (ec rfl en)) rfl hw fun r14 hw => st_not rfl (g_endq [(1, ln (eLst (eLst (eInt .i64))) p2), (2, .func 41 []), (15, ln (eLst (eLst (eInt .i64))) p1), (16, ii (p1.length : Int)), (17, ii v3), (30, .bool (!r14))] rfl ?_)))))
      refine s_cond rfl hw (fun hw => ?_) (fun hw => ?_)
      · refine q_reg (st_mv rfl (g_endq [(6, .bool false)] rfl ?_))
        exact sc_ret (bl_r (sq_r (lo_r (bl_r (sq_r (gr1 (g := zg40_41) (ho := fun _ => []) [.bool false] hw (.inr rfl) ws))))))
      · refine sc_skip (bl_n (sq_n (s_reg (g_add rfl rfl hw fun v15 hw => st_mv rfl (g_end [(1, ln (eLst (eLst (eInt .i64))) p2), (2, .func 41 []), (15, ln (eLst (eLst (eInt .i64))) p1), (16, ii (p1.length : Int)), (17, ii v15)] rfl ?_)))))
        exact lo_n ⟨v15, hw.1⟩ hw.2 ws
    · refine sc_exit (sq_x (lo_x (bl_x (sq_n (q_reg (st_mv rfl (g_endq [(6, .bool true)] rfl ?_)))))))
      exact sc_ret (gr1 (g := zg40_41) (ho := fun _ => []) [.bool true] hw (.inr rfl) ws)
def hc42 : C := (.seq (.reg [oo 6 (.mv (.c (.bool false)))] [0, 1, 2]) (.seq (.seq (.reg [mo 10 0, oo 11 (.len false 10), mo 12 1, oo 13 (.len false 12), oo 14 (.eqv true .int 11 13)] [0, 1, 2, 14]) (.cond 14 (.seq (.reg [oo 6 (.mv (.c (.bool false)))] [6]) .ret) .skip)) (.seq (.seq (.reg [mo 15 0, oo 16 (.len false 15), oo 17 (.mv (.c (.int .i64 0)))] [1, 2, 15, 16, 17]) (.block 0 (.loop (.seq (.reg [oo 18 (.bin .lss 17 16)] [1, 2, 15, 16, 17, 18]) (.seq (.cond 18 .skip (.exit 0)) (.seq (.block 1 (.seq (.reg [mo 19 17, oo 20 (.iaddr 1 15 17), oo 21 (.load none 20), mo 7 19, mo 8 21] [1, 2, 7, 8, 15, 16, 17]) (.seq (.reg [mo 22 1, mo 23 7, oo 24 (.iaddr 1 22 23), oo 25 (.load none 24), mo 9 25] [1, 2, 8, 9, 15, 16, 17]) (.seq (.reg [mo 26 2, mo 27 8, mo 28 9, co 29 (.callv 26 [27, 28]), oo 30 (.un .not 29)] [1, 2, 15, 16, 17, 30]) (.cond 30 (.seq (.reg [oo 6 (.mv (.c (.bool false)))] [6]) .ret) .skip))))) (.reg [oo 31 (.bin .add 17 (.c (.int .i64 1))), mo 17 31] [1, 2, 15, 16, 17]))))))) (.seq (.reg [oo 6 (.mv (.c (.bool true)))] [6]) .ret))))
def ha42 : Ann := ⟨[], [67, 68, 72, 74, 999999], [(0, [0, 1, 2]), (1, [0, 1, 2, 14]), (2, [6]), (3, [1, 2, 15, 16, 17]), (4, [1, 2, 15, 16, 17, 18]), (5, [1, 2, 7, 8, 15, 16, 17]), (6, [1, 2, 8, 9, 15, 16, 17]), (7, [1, 2, 15, 16, 17, 30]), (8, [6]), (9, [1, 2, 15, 16, 17]), (10, [6])], []⟩
theorem hk42 : comp Try.prog ha42 Try.f42.ntmps Try.f42.code = some hc42 := by kernel_rfl
def w42_24 (p1 : List (List (Int))) (p2 : List (List (Int))) (Q : Bool → Prop) : Prop :=
  (((p1.length : Int) ≠ (p2.length : Int) → Q false) ∧ ((p1.length : Int) = (p2.length : Int) → ∃ (I9 : Int → Prop) (M10 : Int → Nat), I9 (0 : Int) ∧ ∀ (v3 : Int), I9 v3 → ∀ v11 : Bool, v11 = decide (v3 < (p1.length : Int)) → ((v11 = true → (0 ≤ v3 ∧ v3 < (p1.length : Int)) ∧ ∀ a12 : List (Int), p1[(v3 : Int).toNat]? = some a12 → (0 ≤ v3 ∧ v3 < (p2.length : Int)) ∧ ∀ a13 : List (Int), p2[(v3 : Int).toNat]? = some a13 → ∃ r14 : Bool, sp24 a12 a13 r14 ∧ (((!r14) = true → Q false) ∧ ((!r14) = false → (R64 (v3 + (1 : Int))) ∧ ∀ v15 : Int, v15 = v3 + (1 : Int) → (I9 v15 ∧ M10 v15 < M10 v3)))) ∧ (v11 = false → Q true))))
theorem ok42_24 (p1 : List (List (Int))) (p2 : List (List (Int))) (r : Bool) (hw : w42_24 p1 p2 fun r' => r' = r) : sp42_24 p1 p2 r := by
  refine zf (rs := [.t 6]) (g := zg42_24) Try.func42 hk42 ?_
  unfold w42_24 at hw
  show SC Try.prog Try.f42.ntmps 0 hc42 _ [(0, ln (eLst (eInt .i64)) p1), (1, ln (eLst (eInt .i64)) p2), (2, .func 24 [])] []
  unfold hc42
  refine q_reg (st_mv rfl (g_endq [(0, ln (eLst (eInt .i64)) p1), (1, ln (eLst (eInt .i64)) p2), (2, .func 24 [])] rfl ?_))
  refine sc_seq (q_reg (st_mv rfl (g_len rfl (st_mv rfl (g_len rfl (g_nei rfl rfl hw (fun hw => g_endq [(0, ln (eLst (eInt .i64)) p1), (1, ln (eLst (eInt .i64)) p2), (2, .func 24 []), (14, .bool true)] rfl ?_) (fun hw => g_endq [(0, ln (eLst (eInt .i64)) p1), (1, ln (eLst (eInt .i64)) p2), (2, .func 24 []), (14, .bool false)] rfl ?_)))))))
  · refine s_cond_t rfl (q_reg (st_mv rfl (g_endq [(6, .bool false)] rfl ?_)))
    exact sc_ret (sq_r (gr1 (g := zg42_24) (ho := fun _ => []) [.bool false] hw (.inr rfl) ws))
  · refine s_cond_f rfl (sc_skip (sq_n (sc_seq (q_reg (st_mv rfl (g_len rfl (st_mv rfl (g_endq [(1, ln (eLst (eInt .i64)) p2), (2, .func 24 []), (15, ln (eLst (eInt .i64)) p1), (16, ii (p1.length : Int)), (17, ii 0)] rfl ?_))))))))
    refine sc_block ?_
    obtain ⟨I9, M10, hi, hw⟩ := hw
    refine sc_loop (X := { x : Int // I9 x }) (fun x => ([(1, ln (eLst (eInt .i64)) p2), (2, .func 24 []), (15, ln (eLst (eInt .i64)) p1), (16, ii (p1.length : Int)), (17, ii x.1)], [])) (fun x => M10 x.1) ⟨(0 : Int), hi⟩ ws ?_
    rintro ⟨v3, hi2⟩
    have hw := hw v3 hi2
    clear hi
    refine q_reg (gb_cmp rfl rfl trivial rfl hw fun v11 hw => g_endq [(1, ln (eLst (eInt .i64)) p2), (2, .func 24 []), (15, ln (eLst (eInt .i64)) p1), (16, ii (p1.length : Int)), (17, ii v3), (18, .bool v11)] rfl ?_)
    refine sc_seq (s_cond rfl hw (fun hw => ?_) (fun hw => ?_))
    · refine sc_skip (sq_n (sc_seq (sc_block (q_reg (st_mv rfl (g_iaddr (enc_lst (enc_int .i64)) rfl rfl hw fun a12 hw => st_load_r rfl rfl (st_mv rfl (st_mv rfl (g_endq [(1, ln (eLst (eInt .i64)) p2), (2, .func 24 []), (7, ii v3), (8, ln (eInt .i64) a12), (15, ln (eLst (eInt .i64)) p1), (16, ii (p1.length : Int)), (17, ii v3)] rfl ?_)))))))))
      refine q_reg (st_mv rfl (st_mv rfl (g_iaddr (enc_lst (enc_int .i64)) rfl rfl hw fun a13 hw => st_load_r rfl rfl (st_mv rfl (g_endq [(1, ln (eLst (eInt .i64)) p2), (2, .func 24 []), (8, ln (eInt .i64) a12), (9, ln (eInt .i64) a13), (15, ln (eLst (eInt .i64)) p1), (16, ii (p1.length : Int)), (17, ii v3)] rfl ?_)))))
      refine q_reg (st_mv rfl (st_mv rfl (st_mv rfl (k_callv dh rfl (ec rfl (ec rfl en)) rfl hw fun r14 hw => st_not rfl (g_endq [(1, ln (eLst (eInt .i64)) p2), (2, .func 24 []), (15, ln (eLst (eInt .i64)) p1), (16, ii (p1.length : Int)), (17, ii v3), (30, .bool (!r14))] rfl ?_)))))
      refine s_cond rfl hw (fun hw => ?_) (fun hw => ?_)
      · refine q_reg (st_mv rfl (g_endq [(6, .bool false)] rfl ?_))
        exact sc_ret (bl_r (sq_r (lo_r (bl_r (sq_r (gr1 (g := zg42_24) (ho := fun _ => []) [.bool false] hw (.inr rfl) ws))))))
      · refine sc_skip (bl_n (sq_n (s_reg (g_add rfl rfl hw fun v15 hw => st_mv rfl (g_end [(1, ln (eLst (eInt .i64)) p2), (2, .func 24 []), (15, ln (eLst (eInt .i64)) p1), (16, ii (p1.length : Int)), (17, ii v15)] rfl ?_)))))
        exact lo_n ⟨v15, hw.1⟩ hw.2 ws
    · refine sc_exit (sq_x (lo_x (bl_x (sq_n (q_reg (st_mv rfl (g_endq [(6, .bool true)] rfl ?_)))))))
      exact sc_ret (gr1 (g := zg42_24) (ho := fun _ => []) [.bool true] hw (.inr rfl) ws)
end Go.Hw.VK

