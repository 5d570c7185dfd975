import Derived.Test.YtcenjonbenlfkaaDoorHwF2
import Derived.Test.YtcenjonbenlfkaaDoorHwNest
import Derived.Test.YtcenjonbenlfkaaDoorProg
set_option linter.unusedVariables false
set_option linter.unusedSimpArgs false
namespace Go.Hw.VX
open Go Go.Proofs
theorem _root_.Go.Proofs.Tryd.mixed : Tryd.prog.follows .mixedOrders = true := by kernel_rfl
structure GVersion_Range where
  Low : Int
  High : Int
  deriving DecidableEq
def eGVersion_Range (a : GVersion_Range) : HV := .agg [ii a.Low, ii a.High]
theorem enc_GVersion_Range : Enc eGVersion_Range 2 := ⟨fun a => (pvc (.int _ _) (pvc (.int _ _) pvn)), fun _ => rfl, fun _ => rfl, fun _ => rfl⟩
instance : EncC eGVersion_Range 2 := ⟨enc_GVersion_Range⟩
instance (a : GVersion_Range) : PVi (eGVersion_Range a) := ⟨enc_GVersion_Range.all a⟩
instance (a : GVersion_Range) : PVl (eGVersion_Range a).cells := ⟨enc_GVersion_Range.pv a⟩
theorem enck_GVersion_Range : EncK eGVersion_Range (.agg [.i, .i]) := fun a c => by
  obtain ⟨a0, a1⟩ := a
  obtain ⟨c0, c1⟩ := c
  simp [keq, eqCells, Sc.eq, eGVersion_Range, Bool.beq_eq_decide_eq]
@[reducible] def zg10 (r : Bool) : HV := .bool r
abbrev sp10 (p85 : List (GVersion_Range)) (p86 : Int) (r : Bool) : Prop := PCall Tryd.prog 10 [ln eGVersion_Range p85, ii p86] (zg10 r)
@[reducible] def zg13 (r : Int) : HV := ii r
abbrev sp13 (p87 : Int) (p88 : Int) (r : Int) : Prop := PCall Tryd.prog 13 [ii p87, ii p88] (zg13 r)
@[reducible] def zg15 (r : List (GVersion_Range) × Int) : HV := .tuple [ln eGVersion_Range r.1, ii r.2]
abbrev sp15 (p89 : List (GVersion_Range)) (r : List (GVersion_Range) × Int) : Prop := PCall Tryd.prog 15 [ln eGVersion_Range p89] (zg15 r)
@[reducible] def zg16 (r : Int) : HV := ii r
abbrev sp16 (p90 : List (GVersion_Range)) (r : Int) : Prop := PCall Tryd.prog 16 [ln eGVersion_Range p90] (zg16 r)
@[reducible] def zg17 (r : List UInt8) : HV := .str r
abbrev sp17 (p91 : Int) (r : List UInt8) : Prop := PCall Tryd.prog 17 [ii p91] (zg17 r)
@[reducible] def zg18 (r : List UInt8) : HV := .str r
abbrev sp18 (p92 : List (List UInt8)) (p93 : List UInt8) (r : List UInt8) : Prop := PCall Tryd.prog 18 [ln eStr p92, .str p93] (zg18 r)
@[reducible] def zg20 (r : List UInt8 × List UInt8 × Bool) : HV := .tuple [.str r.1, .str r.2.1, .bool r.2.2]
abbrev sp20 (p94 : List UInt8) (p95 : List UInt8) (r : List UInt8 × List UInt8 × Bool) : Prop := PCall Tryd.prog 20 [.str p94, .str p95] (zg20 r)
@[reducible] def zg22_23 (r : Bool × Int) : HV := .bool r.1
@[reducible] def zo22_23 (r : Bool × Int) : Heap := [.cells [ii r.2]]
abbrev sp22_23 (p96 : List (GVersion_Range)) (p97 : Int) (r : Bool × Int) : Prop := MC Tryd.prog 22 [ln eGVersion_Range p96, .func 23 [.ptr 0 0]] [.cells [ii p97]] (zg22_23 r) (zo22_23 r)
@[reducible] def zg23 (r : Bool × Int) : HV := .bool r.1
@[reducible] def zo23 (r : Bool × Int) : Heap := [.cells [ii r.2]]
abbrev sp23 (p98 : GVersion_Range) (p99 : Int) (r : Bool × Int) : Prop := MC Tryd.prog 23 [eGVersion_Range p98, .ptr 0 0] [.cells [ii p99]] (zg23 r) (zo23 r)
@[reducible] def zg3 (r : Bool) : HV := .bool r
abbrev sp3 (p100 : List (GVersion_Range)) (r : Bool) : Prop := PCall Tryd.prog 3 [ln eGVersion_Range p100] (zg3 r)
@[reducible] def zg33m (r : List (GVersion_Range)) : HV := .arr 0 0 r.length 2
@[reducible] def zo33m (r : List (GVersion_Range)) : Heap := [GA eGVersion_Range r]
abbrev sp33m (p101 : List (GVersion_Range)) (r : List (GVersion_Range)) : Prop := MC Tryd.prog 33 [ln eGVersion_Range p101] [] (zg33m r) (zo33m r)
@[reducible] def zg34_35 (r : List (GVersion_Range)) : HV := .tuple []
@[reducible] def zo34_35 (r : List (GVersion_Range)) : Heap := [GA eGVersion_Range r]
abbrev sp34_35 (p102 : List (GVersion_Range)) (r : List (GVersion_Range)) : Prop := MC Tryd.prog 34 [.arr 0 0 p102.length 2, .func 35 []] [GA eGVersion_Range p102] (zg34_35 r) (zo34_35 r)
@[reducible] def zg35 (r : Int) : HV := ii r
abbrev sp35 (p103 : GVersion_Range) (p104 : GVersion_Range) (r : Int) : Prop := PCall Tryd.prog 35 [eGVersion_Range p103, eGVersion_Range p104] (zg35 r)
@[reducible] def zg36 (r : Int) : HV := ii r
abbrev sp36 (p105 : List (Int)) (r : Int) : Prop := PCall Tryd.prog 36 [ln (eInt .i64) p105] (zg36 r)
@[reducible] def zg37 (r : Int) : HV := ii r
abbrev sp37 (p106 : Int) (p107 : Int) (r : Int) : Prop := PCall Tryd.prog 37 [ii p106, ii p107] (zg37 r)
@[reducible] def zg41 (r : List UInt8 × List UInt8 × Bool) : HV := .tuple [.str r.1, .str r.2.1, .bool r.2.2]
abbrev sp41 (p108 : List UInt8) (p109 : List UInt8) (r : List UInt8 × List UInt8 × Bool) : Prop := PCall Tryd.prog 41 [.str p108, .str p109] (zg41 r)
@[reducible] def zg43_23 (r : Int × Int) : HV := ii r.1
@[reducible] def zo43_23 (r : Int × Int) : Heap := [.cells [ii r.2]]
abbrev sp43_23 (p110 : List (GVersion_Range)) (p111 : Int) (r : Int × Int) : Prop := MC Tryd.prog 43 [ln eGVersion_Range p110, .func 23 [.ptr 0 0]] [.cells [ii p111]] (zg43_23 r) (zo43_23 r)
@[reducible] def zg5 (r : List (GVersion_Range) × Bool) : HV := .tuple [ln eGVersion_Range r.1, .bool r.2]
abbrev sp5 (p112 : List (GVersion_Range)) (r : List (GVersion_Range) × Bool) : Prop := PCall Tryd.prog 5 [ln eGVersion_Range p112] (zg5 r)
@[reducible] def zg54_35 (r : List (GVersion_Range)) : HV := .tuple []
@[reducible] def zo54_35 (r : List (GVersion_Range)) : Heap := [GA eGVersion_Range r]
abbrev sp54_35 (p113 : List (GVersion_Range)) (p114 : Int) (p115 : Int) (p116 : Int) (r : List (GVersion_Range)) : Prop := MC Tryd.prog 54 [.arr 0 0 p113.length 2, ii p114, ii p115, ii p116, .func 35 []] [GA eGVersion_Range p113] (zg54_35 r) (zo54_35 r)
@[reducible] def zg55 (r : Int) : HV := ii r
abbrev sp55 (p117 : Int) (r : Int) : Prop := PCall Tryd.prog 55 [.int .u64 p117] (zg55 r)
@[reducible] def zg56 (r : Bool) : HV := .bool r
abbrev sp56 (p118 : Int) (r : Bool) : Prop := PCall Tryd.prog 56 [ii p118] (zg56 r)
@[reducible] def zg6 (r : List UInt8 × Int) : HV := .tuple [.str r.1, ii r.2]
abbrev sp6 (p119 : List (GVersion_Range)) (r : List UInt8 × Int) : Prop := PCall Tryd.prog 6 [ln eGVersion_Range p119] (zg6 r)
@[reducible] def zg61 (r : Int) : HV := ii r
abbrev sp61 (p122 : List UInt8) (p123 : List UInt8) (r : Int) : Prop := PCall Tryd.prog 61 [.str p122, .str p123] (zg61 r)
@[reducible] def zg7 (r : List (GVersion_Range) × Int) : HV := .tuple [ln eGVersion_Range r.1, ii r.2]
abbrev sp7 (p124 : List UInt8) (r : List (GVersion_Range) × Int) : Prop := PCall Tryd.prog 7 [.str p124] (zg7 r)
@[reducible] def zg70_35 (r : List (GVersion_Range)) : HV := .tuple []
@[reducible] def zo70_35 (r : List (GVersion_Range)) : Heap := [GA eGVersion_Range r]
abbrev sp70_35 (p125 : List (GVersion_Range)) (p126 : Int) (p127 : Int) (r : List (GVersion_Range)) : Prop := MC Tryd.prog 70 [.arr 0 0 p125.length 2, ii p126, ii p127, .func 35 []] [GA eGVersion_Range p125] (zg70_35 r) (zo70_35 r)
@[reducible] def zg8 (r : Int × Int × Int) : HV := .tuple [ii r.1, ii r.2.1, ii r.2.2]
abbrev sp8 (p128 : List (GVersion_Range)) (r : Int × Int × Int) : Prop := PCall Tryd.prog 8 [ln eGVersion_Range p128] (zg8 r)
@[reducible] def zg9 (r : Bool) : HV := .bool r
abbrev sp9 (p129 : List (GVersion_Range)) (p130 : List (GVersion_Range)) (r : Bool) : Prop := PCall Tryd.prog 9 [ln eGVersion_Range p129, ln eGVersion_Range p130] (zg9 r)
def hc3 : C := (.seq (.reg [oo 2 (.mv (.c (.bool false)))] [0]) (.seq (.reg [mo 15 0, co 16 (.call 5 [15]), mo 14 16, oo 17 (.extract 14 0), oo 18 (.extract 14 1), mo 3 17, mo 4 18] [3, 4]) (.seq (.reg [mo 20 3, co 21 (.call 6 [20]), mo 19 21, oo 22 (.extract 19 0), oo 23 (.extract 19 1), mo 5 22, mo 6 23] [3, 4, 5, 6]) (.seq (.reg [mo 25 5, co 26 (.call 7 [25]), mo 24 26, oo 27 (.extract 24 0), oo 28 (.extract 24 1), mo 7 27, mo 8 28] [3, 4, 6, 7, 8]) (.seq (.reg [mo 30 3, co 31 (.call 8 [30]), mo 29 31, oo 32 (.extract 29 0), oo 33 (.extract 29 1), oo 34 (.extract 29 2), mo 9 32, mo 10 33, mo 11 34] [3, 4, 6, 7, 8, 9, 10, 11]) (.seq (.seq (.reg [mo 35 4, oo 36 (.un .not 35), mo 37 36, og 38 (.mv 6) 37 false, og 39 (.eqv true .int 38 (.c (.int .i64 0))) 37 false, oo 40 (.pick 37 (.c (.bool true)) 39), mo 41 40, og 42 (.mv 8) 41 false, og 43 (.eqv true .int 42 (.c (.int .i64 0))) 41 false, oo 44 (.pick 41 (.c (.bool true)) 43), mo 45 44, og 46 (.mv 3) 45 false, og 47 (.mv 7) 45 false, cg 48 (.call 9 [46, 47]) 45 false, og 49 (.un .not 48) 45 false, oo 50 (.pick 45 (.c (.bool true)) 49)] [3, 9, 10, 11, 50]) (.cond 50 (.seq (.reg [oo 2 (.mv (.c (.bool false)))] [2]) .ret) .skip)) (.seq (.seq (.reg [oo 52 (.build [(.int .i64 0), (.int .i64 0)] [(0, 1, (.c (.int .i64 1))), (1, 1, (.c (.int .i64 3)))]), oo 53 (.mklist 2 [52]), co 54 (.call 6 [53]), mo 51 54, oo 55 (.extract 51 0), oo 56 (.extract 51 1), mo 12 55, mo 13 56] [3, 9, 10, 11, 12, 13]) (.seq (.reg [mo 57 13, oo 58 (.eqv true .int 57 (.c (.int .i64 0))), mo 59 58, og 60 (.mv 12) 59 false, og 61 (.eqv true .str 60 (.c (.str [49, 45, 51]))) 59 false, oo 62 (.pick 59 (.c (.bool true)) 61)] [3, 9, 10, 11, 62]) (.cond 62 (.seq (.reg [oo 2 (.mv (.c (.bool false)))] [2]) .ret) .skip))) (.seq (.reg [mo 63 3, oo 64 (.len false 63), oo 65 (.eqv false .int 64 (.c (.int .i64 0))), mo 66 65, og 67 (.mv 11) 66 true, og 68 (.eqv false .int 67 (.c (.int .i64 4))) 66 true, oo 69 (.pick 66 68 (.c (.bool false))), mo 70 69, og 71 (.mv 11) 70 false, og 72 (.eqv false .int 71 (.c (.int .i64 0))) 70 false, og 73 (.mv 72) 70 false, og 74 (.mv 3) 73 true, og 75 (.mv 9) 73 true, cg 76 (.call 10 [74, 75]) 73 true, og 77 (.pick 73 76 (.c (.bool false))) 70 false, og 78 (.mv 77) 70 false, og 79 (.mv 3) 78 true, og 80 (.mv 10) 78 true, cg 81 (.call 10 [79, 80]) 78 true, og 82 (.pick 78 81 (.c (.bool false))) 70 false, og 83 (.mv 82) 70 false, og 84 (.mv 3) 83 true, og 85 (.mv 9) 83 true, og 86 (.bin .sub 85 (.c (.int .i64 1))) 83 true, cg 87 (.call 10 [84, 86]) 83 true, og 88 (.un .not 87) 83 true, og 89 (.pick 83 88 (.c (.bool false))) 70 false, og 90 (.mv 89) 70 false, og 91 (.mv 3) 90 true, og 92 (.mv 10) 90 true, og 93 (.bin .add 92 (.c (.int .i64 1))) 90 true, cg 94 (.call 10 [91, 93]) 90 true, og 95 (.un .not 94) 90 true, og 96 (.pick 90 95 (.c (.bool false))) 70 false, oo 97 (.pick 70 (.c (.bool true)) 96), mo 2 97] [2]) .ret))))))))
def ha3 : Ann := ⟨[], [], [(0, [0]), (1, [3, 4]), (2, [3, 4, 5, 6]), (3, [3, 4, 6, 7, 8]), (4, [3, 4, 6, 7, 8, 9, 10, 11]), (5, [3, 9, 10, 11, 50]), (6, [2]), (7, [3, 9, 10, 11, 12, 13]), (8, [3, 9, 10, 11, 62]), (9, [2]), (10, [2])], []⟩
theorem hk3 : comp Tryd.prog ha3 Tryd.f3.ntmps Tryd.f3.code = some hc3 := by kernel_rfl
def w3 (p1 : List (GVersion_Range)) (Q : Bool → Prop) : Prop :=
  ∃ r2 : List (GVersion_Range) × Bool, sp5 p1 r2 ∧ ∃ r3 : List UInt8 × Int, sp6 r2.1 r3 ∧ ∃ r4 : List (GVersion_Range) × Int, sp7 r3.1 r4 ∧ ∃ r5 : Int × Int × Int, sp8 r2.1 r5 ∧ (((!r2.2) = true → Q false) ∧ ((!r2.2) = false → ((r3.2 ≠ (0 : Int) → Q false) ∧ (r3.2 = (0 : Int) → ((r4.2 ≠ (0 : Int) → Q false) ∧ (r4.2 = (0 : Int) → ∃ r6 : Bool, sp9 r2.1 r4.1 r6 ∧ (((!r6) = true → Q false) ∧ ((!r6) = false → ∃ r7 : List UInt8 × Int, sp6 ([(GVersion_Range.mk (1 : Int) (3 : Int))] : List GVersion_Range) r7 ∧ ((r7.2 ≠ (0 : Int) → Q false) ∧ (r7.2 = (0 : Int) → ((r7.1 ≠ [49, 45, 51] → Q false) ∧ (r7.1 = [49, 45, 51] → (((r2.1.length : Int) = (0 : Int) → ((r5.2.2 = (4 : Int) → Q true) ∧ (r5.2.2 ≠ (4 : Int) → ((r5.2.2 = (0 : Int) → ∃ r8 : Bool, sp10 r2.1 r5.1 r8 ∧ ((r8 = true → ∃ r9 : Bool, sp10 r2.1 r5.2.1 r9 ∧ ((r9 = true → (R64 (r5.1 - (1 : Int))) ∧ ∀ v10 : Int, v10 = r5.1 - (1 : Int) → ∃ r11 : Bool, sp10 r2.1 v10 r11 ∧ (((!r11) = true → (R64 (r5.2.1 + (1 : Int))) ∧ ∀ v12 : Int, v12 = r5.2.1 + (1 : Int) → ∃ r13 : Bool, sp10 r2.1 v12 r13 ∧ Q (!r13)) ∧ ((!r11) = false → Q false))) ∧ (r9 = false → Q false))) ∧ (r8 = false → Q false))) ∧ (r5.2.2 ≠ (0 : Int) → Q false))))) ∧ ((r2.1.length : Int) ≠ (0 : Int) → ((r5.2.2 = (0 : Int) → ∃ r14 : Bool, sp10 r2.1 r5.1 r14 ∧ ((r14 = true → ∃ r15 : Bool, sp10 r2.1 r5.2.1 r15 ∧ ((r15 = true → (R64 (r5.1 - (1 : Int))) ∧ ∀ v16 : Int, v16 = r5.1 - (1 : Int) → ∃ r17 : Bool, sp10 r2.1 v16 r17 ∧ (((!r17) = true → (R64 (r5.2.1 + (1 : Int))) ∧ ∀ v18 : Int, v18 = r5.2.1 + (1 : Int) → ∃ r19 : Bool, sp10 r2.1 v18 r19 ∧ Q (!r19)) ∧ ((!r17) = false → Q false))) ∧ (r15 = false → Q false))) ∧ (r14 = false → Q false))) ∧ (r5.2.2 ≠ (0 : Int) → Q false))))))))))))))))
theorem ok3 (p1 : List (GVersion_Range)) (r : Bool) (hw : w3 p1 fun r' => r' = r) : sp3 p1 r := by
  refine zf (rs := [.t 2]) (g := zg3) Tryd.func3 hk3 ?_
  unfold w3 at hw
  show SC Tryd.prog Tryd.f3.ntmps 0 hc3 _ [(0, ln eGVersion_Range p1)] []
  unfold hc3
  refine q_reg (st_mv rfl (g_endq [(0, ln eGVersion_Range p1)] rfl ?_))
  refine q_reg (st_mv rfl (k_call dh (ec rfl en) rfl hw fun r2 hw => st_mv rfl (st_extract rfl rfl (st_extract rfl rfl (st_mv rfl (st_mv rfl (g_endq [(3, ln eGVersion_Range r2.1), (4, .bool r2.2)] rfl ?_)))))))
  refine q_reg (st_mv rfl (k_call dh (ec rfl en) rfl hw fun r3 hw => st_mv rfl (st_extract rfl rfl (st_extract rfl rfl (st_mv rfl (st_mv rfl (g_endq [(3, ln eGVersion_Range r2.1), (4, .bool r2.2), (5, .str r3.1), (6, ii r3.2)] rfl ?_)))))))
  refine q_reg (st_mv rfl (k_call dh (ec rfl en) rfl hw fun r4 hw => st_mv rfl (st_extract rfl rfl (st_extract rfl rfl (st_mv rfl (st_mv rfl (g_endq [(3, ln eGVersion_Range r2.1), (4, .bool r2.2), (6, ii r3.2), (7, ln eGVersion_Range r4.1), (8, ii r4.2)] rfl ?_)))))))
  refine q_reg (st_mv rfl (k_call dh (ec rfl en) rfl hw fun r5 hw => st_mv rfl (st_extract rfl rfl (st_extract rfl rfl (st_extract rfl rfl (st_mv rfl (st_mv rfl (st_mv rfl (g_endq [(3, ln eGVersion_Range r2.1), (4, .bool r2.2), (6, ii r3.2), (7, ln eGVersion_Range r4.1), (8, ii r4.2), (9, ii r5.1), (10, ii r5.2.1), (11, ii r5.2.2)] rfl ?_)))))))))
  refine sc_seq (q_reg (st_mv rfl (st_not rfl (st_mv rfl (g_split rfl hw ?_ ?_)))))
  · intro c hw
    rw [c]
    refine st_gtf rfl (st_gtf rfl (st_pick_t rfl rfl rfl (st_mv rfl (st_gtf rfl (st_gtf rfl (st_pick_t rfl rfl rfl (st_mv rfl (st_gtf rfl (st_gtf rfl (st_gtf rfl (st_gtf rfl (st_pick_t rfl rfl rfl (g_endq [(3, ln eGVersion_Range r2.1), (9, ii r5.1), (10, ii r5.2.1), (11, ii r5.2.2), (50, .bool true)] rfl ?_)))))))))))))
    refine s_cond_t rfl (q_reg (st_mv rfl (g_endq [(2, .bool false)] rfl ?_)))
    exact sc_ret (sq_r (gr1 (g := zg3) (ho := fun _ => []) [.bool false] hw (.inr rfl) ws))
  · intro c hw
    rw [c]
    refine st_g rfl (st_mv rfl (st_g rfl (g_nei rfl rfl hw (fun hw => st_pick_f rfl rfl rfl (st_mv rfl (st_gtf rfl (st_gtf rfl (st_pick_t rfl rfl rfl (st_mv rfl (st_gtf rfl (st_gtf rfl (st_gtf rfl (st_gtf rfl (st_pick_t rfl rfl rfl (g_endq [(3, ln eGVersion_Range r2.1), (9, ii r5.1), (10, ii r5.2.1), (11, ii r5.2.2), (50, .bool true)] rfl ?_)))))))))))) (fun hw => st_pick_f rfl rfl rfl (st_mv rfl (st_g rfl (st_mv rfl (st_g rfl (g_nei rfl rfl hw (fun hw => st_pick_f rfl rfl rfl (st_mv rfl (st_gtf rfl (st_gtf rfl (st_gtf rfl (st_gtf rfl (st_pick_t rfl rfl rfl (g_endq [(3, ln eGVersion_Range r2.1), (9, ii r5.1), (10, ii r5.2.1), (11, ii r5.2.2), (50, .bool true)] rfl ?_)))))))) (fun hw => st_pick_f rfl rfl rfl (st_mv rfl (st_g rfl (st_mv rfl (st_g rfl (st_mv rfl (st_g rfl (k_call dh (ec rfl (ec rfl en)) rfl hw fun r6 hw => st_g rfl (st_not rfl (st_pick_f rfl rfl rfl (g_endq [(3, ln eGVersion_Range r2.1), (9, ii r5.1), (10, ii r5.2.1), (11, ii r5.2.2), (50, .bool (!r6))] rfl ?_))))))))))))))))))))
    · refine s_cond_t rfl (q_reg (st_mv rfl (g_endq [(2, .bool false)] rfl ?_)))
      exact sc_ret (sq_r (gr1 (g := zg3) (ho := fun _ => []) [.bool false] hw (.inr rfl) ws))
    · refine s_cond_t rfl (q_reg (st_mv rfl (g_endq [(2, .bool false)] rfl ?_)))
      exact sc_ret (sq_r (gr1 (g := zg3) (ho := fun _ => []) [.bool false] hw (.inr rfl) ws))
    · refine s_cond rfl hw (fun hw => ?_) (fun hw => ?_)
      · refine q_reg (st_mv rfl (g_endq [(2, .bool false)] rfl ?_))
        exact sc_ret (sq_r (gr1 (g := zg3) (ho := fun _ => []) [.bool false] hw (.inr rfl) ws))
      · refine sc_skip (sq_n (sc_seq (q_reg (g_build (cs := [ii 1, ii 3]) (ep_cons rfl (ep_cons rfl ep_nil)) rfl (g_mkl enc_GVersion_Range [(GVersion_Range.mk (1 : Int) (3 : Int))] (ec rfl en) rfl (mz mkn) (k_call dh (ec rfl en) rfl hw fun r7 hw => st_mv rfl (st_extract rfl rfl (st_extract rfl rfl (st_mv rfl (st_mv rfl (g_endq [(3, ln eGVersion_Range r2.1), (9, ii r5.1), (10, ii r5.2.1), (11, ii r5.2.2), (12, .str r7.1), (13, ii r7.2)] rfl ?_)))))))))))
        refine q_reg (st_mv rfl (g_nei rfl rfl hw (fun hw => st_mv rfl (st_gtf rfl (st_gtf rfl (st_pick_t rfl rfl rfl (g_endq [(3, ln eGVersion_Range r2.1), (9, ii r5.1), (10, ii r5.2.1), (11, ii r5.2.2), (62, .bool true)] rfl ?_))))) (fun hw => st_mv rfl (st_g rfl (st_mv rfl (st_g rfl (g_nes rfl rfl hw (fun hw => st_pick_f rfl rfl rfl (g_endq [(3, ln eGVersion_Range r2.1), (9, ii r5.1), (10, ii r5.2.1), (11, ii r5.2.2), (62, .bool true)] rfl ?_)) (fun hw => st_pick_f rfl rfl rfl (g_endq [(3, ln eGVersion_Range r2.1), (9, ii r5.1), (10, ii r5.2.1), (11, ii r5.2.2), (62, .bool false)] rfl ?_)))))))))
        · refine s_cond_t rfl (q_reg (st_mv rfl (g_endq [(2, .bool false)] rfl ?_)))
          exact sc_ret (sq_r (gr1 (g := zg3) (ho := fun _ => []) [.bool false] hw (.inr rfl) ws))
        · refine s_cond_t rfl (q_reg (st_mv rfl (g_endq [(2, .bool false)] rfl ?_)))
          exact sc_ret (sq_r (gr1 (g := zg3) (ho := fun _ => []) [.bool false] hw (.inr rfl) ws))
        · refine s_cond_f rfl (sc_skip (sq_n (q_reg (st_mv rfl (g_len rfl (g_eqi rfl rfl hw (fun hw => st_mv rfl (st_g rfl (st_mv rfl (st_g rfl (g_eqi rfl rfl hw (fun hw => st_pick_t rfl rfl rfl (st_mv rfl (st_gtf rfl (st_gtf rfl (st_gtf rfl (st_gu rfl (st_gu rfl (st_gu rfl (st_gtf rfl (st_gtf rfl (st_gu rfl (st_gu rfl (st_gu rfl (st_gtf rfl (st_gtf rfl (st_gu rfl (st_gu rfl (st_gu rfl (st_gu rfl (st_gu rfl (st_gtf rfl (st_gtf rfl (st_gu rfl (st_gu rfl (st_gu rfl (st_gu rfl (st_gu rfl (st_gtf rfl (st_pick_t rfl rfl rfl (st_mv rfl (g_endq [(2, .bool true)] rfl ?_))))))))))))))))))))))))))))))) (fun hw => st_pick_t rfl rfl rfl (st_mv rfl (st_g rfl (st_mv rfl (st_g rfl (g_eqi rfl rfl hw (fun hw => st_g rfl (st_mv rfl (st_g rfl (st_mv rfl (st_g rfl (st_mv rfl (st_g rfl (k_call dh (ec rfl (ec rfl en)) rfl hw fun r8 hw => st_g rfl (st_pick_t rfl rfl rfl (st_g rfl (st_mv rfl (g_split rfl hw ?_ ?_)))))))))))) (fun hw => st_g rfl (st_mv rfl (st_gft rfl (st_gft rfl (st_gft rfl (st_g rfl (st_pick_f rfl rfl rfl (st_g rfl (st_mv rfl (st_gft rfl (st_gft rfl (st_gft rfl (st_g rfl (st_pick_f rfl rfl rfl (st_g rfl (st_mv rfl (st_gft rfl (st_gft rfl (st_gft rfl (st_gft rfl (st_gft rfl (st_g rfl (st_pick_f rfl rfl rfl (st_g rfl (st_mv rfl (st_gft rfl (st_gft rfl (st_gft rfl (st_gft rfl (st_gft rfl (st_g rfl (st_pick_f rfl rfl rfl (st_pick_f rfl rfl rfl (st_mv rfl (g_endq [(2, .bool false)] rfl ?_)))))))))))))))))))))))))))))))))))))))))))))) (fun hw => st_mv rfl (st_gft rfl (st_gft rfl (st_pick_f rfl rfl rfl (st_mv rfl (st_g rfl (st_mv rfl (st_g rfl (g_eqi rfl rfl hw (fun hw => st_g rfl (st_mv rfl (st_g rfl (st_mv rfl (st_g rfl (st_mv rfl (st_g rfl (k_call dh (ec rfl (ec rfl en)) rfl hw fun r14 hw => st_g rfl (st_pick_t rfl rfl rfl (st_g rfl (st_mv rfl (g_split rfl hw ?_ ?_)))))))))))) (fun hw => st_g rfl (st_mv rfl (st_gft rfl (st_gft rfl (st_gft rfl (st_g rfl (st_pick_f rfl rfl rfl (st_g rfl (st_mv rfl (st_gft rfl (st_gft rfl (st_gft rfl (st_g rfl (st_pick_f rfl rfl rfl (st_g rfl (st_mv rfl (st_gft rfl (st_gft rfl (st_gft rfl (st_gft rfl (st_gft rfl (st_g rfl (st_pick_f rfl rfl rfl (st_g rfl (st_mv rfl (st_gft rfl (st_gft rfl (st_gft rfl (st_gft rfl (st_gft rfl (st_g rfl (st_pick_f rfl rfl rfl (st_pick_f rfl rfl rfl (st_mv rfl (g_endq [(2, .bool false)] rfl ?_))))))))))))))))))))))))))))))))))))))))))))))))))
          · exact sc_ret (gr1 (g := zg3) (ho := fun _ => []) [.bool true] hw (.inr rfl) ws)
          · intro c hw
            rw [c]
            refine st_g rfl (st_mv rfl (st_g rfl (st_mv rfl (st_g rfl (k_call dh (ec rfl (ec rfl en)) rfl hw fun r9 hw => st_g rfl (st_pick_t rfl rfl rfl (st_g rfl (st_mv rfl (g_split rfl hw ?_ ?_)))))))))
            · intro c hw
              rw [c]
              refine st_g rfl (st_mv rfl (st_g rfl (st_mv rfl (st_g rfl (g_sub rfl rfl hw fun v10 hw => st_g rfl (k_call dh (ec rfl (ec rfl en)) rfl hw fun r11 hw => st_g rfl (st_not rfl (st_g rfl (st_pick_t rfl rfl rfl (st_g rfl (st_mv rfl (g_split rfl hw ?_ ?_))))))))))))
              · intro c hw
                rw [c]
                refine st_g rfl (st_mv rfl (st_g rfl (st_mv rfl (st_g rfl (g_add rfl rfl hw fun v12 hw => st_g rfl (k_call dh (ec rfl (ec rfl en)) rfl hw fun r13 hw => st_g rfl (st_not rfl (st_g rfl (st_pick_t rfl rfl rfl (st_pick_f rfl rfl rfl (st_mv rfl (g_endq [(2, .bool (!r13))] rfl ?_))))))))))))
                exact sc_ret (gr1 (g := zg3) (ho := fun _ => []) [.bool (!r13)] hw (.inr rfl) ws)
              · intro c hw
                rw [c]
                refine st_gft rfl (st_gft rfl (st_gft rfl (st_gft rfl (st_gft rfl (st_g rfl (st_pick_f rfl rfl rfl (st_pick_f rfl rfl rfl (st_mv rfl (g_endq [(2, .bool false)] rfl ?_)))))))))
                exact sc_ret (gr1 (g := zg3) (ho := fun _ => []) [.bool false] hw (.inr rfl) ws)
            · intro c hw
              rw [c]
              refine st_gft rfl (st_gft rfl (st_gft rfl (st_gft rfl (st_gft rfl (st_g rfl (st_pick_f rfl rfl rfl (st_g rfl (st_mv rfl (st_gft rfl (st_gft rfl (st_gft rfl (st_gft rfl (st_gft rfl (st_g rfl (st_pick_f rfl rfl rfl (st_pick_f rfl rfl rfl (st_mv rfl (g_endq [(2, .bool false)] rfl ?_))))))))))))))))))
              exact sc_ret (gr1 (g := zg3) (ho := fun _ => []) [.bool false] hw (.inr rfl) ws)
          · intro c hw
            rw [c]
            refine st_gft rfl (st_gft rfl (st_gft rfl (st_g rfl (st_pick_f rfl rfl rfl (st_g rfl (st_mv rfl (st_gft rfl (st_gft rfl (st_gft rfl (st_gft rfl (st_gft rfl (st_g rfl (st_pick_f rfl rfl rfl (st_g rfl (st_mv rfl (st_gft rfl (st_gft rfl (st_gft rfl (st_gft rfl (st_gft rfl (st_g rfl (st_pick_f rfl rfl rfl (st_pick_f rfl rfl rfl (st_mv rfl (g_endq [(2, .bool false)] rfl ?_)))))))))))))))))))))))))
            exact sc_ret (gr1 (g := zg3) (ho := fun _ => []) [.bool false] hw (.inr rfl) ws)
          · exact sc_ret (gr1 (g := zg3) (ho := fun _ => []) [.bool false] hw (.inr rfl) ws)
          · intro c hw
            rw [c]
            refine st_g rfl (st_mv rfl (st_g rfl (st_mv rfl (st_g rfl (k_call dh (ec rfl (ec rfl en)) rfl hw fun r15 hw => st_g rfl (st_pick_t rfl rfl rfl (st_g rfl (st_mv rfl (g_split rfl hw ?_ ?_)))))))))
            · intro c hw
              rw [c]
              refine st_g rfl (st_mv rfl (st_g rfl (st_mv rfl (st_g rfl (g_sub rfl rfl hw fun v16 hw => st_g rfl (k_call dh (ec rfl (ec rfl en)) rfl hw fun r17 hw => st_g rfl (st_not rfl (st_g rfl (st_pick_t rfl rfl rfl (st_g rfl (st_mv rfl (g_split rfl hw ?_ ?_))))))))))))
              · intro c hw
                rw [c]
                refine st_g rfl (st_mv rfl (st_g rfl (st_mv rfl (st_g rfl (g_add rfl rfl hw fun v18 hw => st_g rfl (k_call dh (ec rfl (ec rfl en)) rfl hw fun r19 hw => st_g rfl (st_not rfl (st_g rfl (st_pick_t rfl rfl rfl (st_pick_f rfl rfl rfl (st_mv rfl (g_endq [(2, .bool (!r19))] rfl ?_))))))))))))
                exact sc_ret (gr1 (g := zg3) (ho := fun _ => []) [.bool (!r19)] hw (.inr rfl) ws)
              · intro c hw
                rw [c]
                refine st_gft rfl (st_gft rfl (st_gft rfl (st_gft rfl (st_gft rfl (st_g rfl (st_pick_f rfl rfl rfl (st_pick_f rfl rfl rfl (st_mv rfl (g_endq [(2, .bool false)] rfl ?_)))))))))
                exact sc_ret (gr1 (g := zg3) (ho := fun _ => []) [.bool false] hw (.inr rfl) ws)
            · intro c hw
              rw [c]
              refine st_gft rfl (st_gft rfl (st_gft rfl (st_gft rfl (st_gft rfl (st_g rfl (st_pick_f rfl rfl rfl (st_g rfl (st_mv rfl (st_gft rfl (st_gft rfl (st_gft rfl (st_gft rfl (st_gft rfl (st_g rfl (st_pick_f rfl rfl rfl (st_pick_f rfl rfl rfl (st_mv rfl (g_endq [(2, .bool false)] rfl ?_))))))))))))))))))
              exact sc_ret (gr1 (g := zg3) (ho := fun _ => []) [.bool false] hw (.inr rfl) ws)
          · intro c hw
            rw [c]
            refine st_gft rfl (st_gft rfl (st_gft rfl (st_g rfl (st_pick_f rfl rfl rfl (st_g rfl (st_mv rfl (st_gft rfl (st_gft rfl (st_gft rfl (st_gft rfl (st_gft rfl (st_g rfl (st_pick_f rfl rfl rfl (st_g rfl (st_mv rfl (st_gft rfl (st_gft rfl (st_gft rfl (st_gft rfl (st_gft rfl (st_g rfl (st_pick_f rfl rfl rfl (st_pick_f rfl rfl rfl (st_mv rfl (g_endq [(2, .bool false)] rfl ?_)))))))))))))))))))))))))
            exact sc_ret (gr1 (g := zg3) (ho := fun _ => []) [.bool false] hw (.inr rfl) ws)
          · exact sc_ret (gr1 (g := zg3) (ho := fun _ => []) [.bool false] hw (.inr rfl) ws)
def hc5 : C := (.seq (.reg [oo 2 (.mv (.c (.list [] .full))), oo 3 (.mv (.c (.bool false)))] [0]) (.seq (.reg [oo 4 (.mv (.c (.list [] .full)))] [0, 4]) (.seq (.seq (.reg [mo 10 0, oo 11 (.len false 10), oo 12 (.mv (.c (.int .i64 0)))] [4, 10, 11, 12]) (.block 0 (.loop (.seq (.reg [oo 13 (.bin .lss 12 11)] [4, 10, 11, 12, 13]) (.seq (.cond 13 .skip (.exit 0)) (.seq (.block 1 (.seq (.reg [mo 14 12, oo 15 (.iaddr 2 10 12), oo 16 (.load (some 2) 15), oo 6 (.alloc none [(.int .i64 0), (.int .i64 0)]), mo 5 14, os (.store 2 6 16)] [4, 5, 6, 10, 11, 12]) (.seq (.reg [mo 17 5, oo 18 (.bin .lss 17 (.c (.int .i64 12)))] [4, 6, 10, 11, 12, 18]) (.cond 18 (.seq (.reg [oo 19 (.faddr 0 1 6), oo 20 (.load none 19), co 21 (.call 13 [20, (.c (.int .i64 200))]), oo 22 (.bin .add (.c (.int .i64 1)) 21), mo 7 22] [4, 6, 7, 10, 11, 12]) (.reg [mo 23 4, mo 24 7, mo 25 7, oo 26 (.faddr 1 1 6), oo 27 (.load none 26), co 28 (.call 13 [27, (.c (.int .i64 20))]), oo 29 (.bin .add 25 28), oo 30 (.build [(.int .i64 0), (.int .i64 0)] [(0, 1, 24), (1, 1, 29)]), oo 31 (.mklist 2 [30]), oo 32 (.append 2 16 23 31), mo 4 32] [4, 10, 11, 12])) .skip)))) (.reg [oo 33 (.bin .add 12 (.c (.int .i64 1))), mo 12 33] [4, 10, 11, 12]))))))) (.seq (.reg [mo 35 4, co 36 (.call 15 [35]), mo 34 36, oo 37 (.extract 34 0), oo 38 (.extract 34 1), mo 8 37, mo 9 38] [8, 9]) (.seq (.reg [mo 39 8, mo 40 9, oo 41 (.eqv false .int 40 (.c (.int .i64 0))), mo 42 41, og 43 (.mv 8) 42 true, cg 44 (.call 16 [43]) 42 true, og 45 (.eqv false .int 44 (.c (.int .i64 0))) 42 true, oo 46 (.pick 42 45 (.c (.bool false))), mo 2 39, mo 3 46] [2, 3]) .ret)))))
def ha5 : Ann := ⟨[], [], [(0, [0]), (1, [0, 4]), (2, [4, 10, 11, 12]), (3, [4, 10, 11, 12, 13]), (4, [4, 5, 6, 10, 11, 12]), (5, [4, 6, 10, 11, 12, 18]), (6, [4, 6, 7, 10, 11, 12]), (7, [4, 10, 11, 12]), (8, [4, 10, 11, 12]), (9, [8, 9]), (10, [2, 3])], []⟩
theorem hk5 : comp Tryd.prog ha5 Tryd.f5.ntmps Tryd.f5.code = some hc5 := by kernel_rfl
def w5 (p1 : List (GVersion_Range)) (Q : List (GVersion_Range) × Bool → Prop) : Prop :=
  ∃ (I13 : (List GVersion_Range) → Int → Prop) (M14 : (List GVersion_Range) → Int → Nat), I13 ([] : List GVersion_Range) (0 : Int) ∧ ∀ (v2 : List GVersion_Range) (v3 : Int), I13 v2 v3 → ∀ v15 : Bool, v15 = decide (v3 < (p1.length : Int)) → ((v15 = true → (0 ≤ v3 ∧ v3 < (p1.length : Int)) ∧ ∀ a16 : GVersion_Range, p1[(v3 : Int).toNat]? = some a16 → ((v3 < (12 : Int) → ∃ r17 : Int, sp13 a16.Low (200 : Int) r17 ∧ (R64 ((1 : Int) + r17)) ∧ ∀ v18 : Int, v18 = (1 : Int) + r17 → ∃ r19 : Int, sp13 a16.High (20 : Int) r19 ∧ (R64 (v18 + r19)) ∧ ∀ v20 : Int, v20 = v18 + r19 → ((v2.length + ([(GVersion_Range.mk v18 v20)] : List GVersion_Range).length) * 16 ≤ 140737488355328) ∧ ∀ v21 : List GVersion_Range, v21 = v2 ++ ([(GVersion_Range.mk v18 v20)] : List GVersion_Range) → (R64 (v3 + (1 : Int))) ∧ ∀ v22 : Int, v22 = v3 + (1 : Int) → (I13 v21 v22 ∧ M14 v21 v22 < M14 v2 v3)) ∧ ((12 : Int) ≤ v3 → (R64 (v3 + (1 : Int))) ∧ ∀ v23 : Int, v23 = v3 + (1 : Int) → (I13 v2 v23 ∧ M14 v2 v23 < M14 v2 v3)))) ∧ (v15 = false → ∃ r24 : List (GVersion_Range) × Int, sp15 v2 r24 ∧ ((r24.2 = (0 : Int) → ∃ r25 : Int, sp16 r24.1 r25 ∧ ∀ v26 : Bool, v26 = (if false then !(r25 == (0 : Int)) else (r25 == (0 : Int))) → Q (r24.1, v26)) ∧ (r24.2 ≠ (0 : Int) → Q (r24.1, false)))))
theorem ok5 (p1 : List (GVersion_Range)) (r : List (GVersion_Range) × Bool) (hw : w5 p1 fun r' => r' = r) : sp5 p1 r := by
  refine zf (rs := [.t 2, .t 3]) (g := zg5) Tryd.func5 hk5 ?_
  unfold w5 at hw
  show SC Tryd.prog Tryd.f5.ntmps 0 hc5 _ [(0, ln eGVersion_Range p1)] []
  unfold hc5
  refine q_reg (st_mv rfl (st_mv rfl (g_endq [(0, ln eGVersion_Range p1)] rfl ?_)))
  refine q_reg (st_mv rfl (g_endq [(0, ln eGVersion_Range p1), (4, nl eGVersion_Range)] rfl ?_))
  refine sc_seq (q_reg (st_mv rfl (g_len rfl (st_mv rfl (g_endq [(4, nl eGVersion_Range), (10, ln eGVersion_Range p1), (11, ii (p1.length : Int)), (12, ii 0)] rfl ?_)))))
  refine sc_block ?_
  obtain ⟨I13, M14, hi, hw⟩ := hw
  refine sc_loop (X := { x : List GVersion_Range × Int // I13 x.1 x.2 }) (fun x => ([(4, .list (List.map eGVersion_Range x.1.1) (.own 0 1 2)), (10, ln eGVersion_Range p1), (11, ii (p1.length : Int)), (12, ii x.1.2)], [.tok (1 + x.1.1.length)])) (fun x => M14 x.1.1 x.1.2) ⟨(([] : List GVersion_Range), (0 : Int)), hi⟩ ((w_acc (l := ([] : List GVersion_Range)) 4 2 (n := 0) rfl enc_GVersion_Range rfl).trans ws) ?_
  rintro ⟨⟨v2, v3⟩, hi2⟩
  have hw := hw v2 v3 hi2
  clear hi
  refine q_reg (gb_cmp rfl rfl trivial rfl hw fun v15 hw => g_endq [(4, .list (List.map eGVersion_Range v2) (.own 0 1 2)), (10, ln eGVersion_Range p1), (11, ii (p1.length : Int)), (12, ii v3), (13, .bool v15)] rfl ?_)
  refine sc_seq (s_cond rfl hw (fun hw => ?_) (fun hw => ?_))
  · refine sc_skip (sq_n (sc_seq (sc_block (q_reg (st_mv rfl (g_iaddr enc_GVersion_Range rfl rfl hw fun a16 hw => st_load_r (v := eGVersion_Range a16) rfl rfl (g_alloc (n := 1) rfl rfl (st_mv rfl (g_sp (v := eGVersion_Range a16) (h' := [.tok (1 + v2.length), .cells [ii a16.Low, ii a16.High]]) rfl rfl rfl (g_endq [(4, .list (List.map eGVersion_Range v2) (.own 0 1 2)), (5, ii v3), (6, .ptr 1 0), (10, ln eGVersion_Range p1), (11, ii (p1.length : Int)), (12, ii v3)] rfl ?_))))))))))
    refine q_reg (st_mv rfl (g_lss rfl rfl hw (fun hw => g_endq [(4, .list (List.map eGVersion_Range v2) (.own 0 1 2)), (6, .ptr 1 0), (10, ln eGVersion_Range p1), (11, ii (p1.length : Int)), (12, ii v3), (18, .bool true)] rfl ?_) (fun hw => g_endq [(4, .list (List.map eGVersion_Range v2) (.own 0 1 2)), (6, .ptr 1 0), (10, ln eGVersion_Range p1), (11, ii (p1.length : Int)), (12, ii v3), (18, .bool false)] rfl ?_)))
    · refine s_cond_t rfl (q_reg (g_faddr_p rfl (g_load_p rfl rfl rfl (k_call dh (ec rfl (ec rfl en)) rfl hw fun r17 hw => g_add rfl rfl hw fun v18 hw => st_mv rfl (g_endq [(4, .list (List.map eGVersion_Range v2) (.own 0 1 2)), (6, .ptr 1 0), (7, ii v18), (10, ln eGVersion_Range p1), (11, ii (p1.length : Int)), (12, ii v3)] rfl ?_)))))
      refine s_reg (st_mv rfl (st_mv rfl (st_mv rfl (g_faddr_p rfl (g_load_p rfl rfl rfl (k_call dh (ec rfl (ec rfl en)) rfl hw fun r19 hw => g_add rfl rfl hw fun v20 hw => g_build (cs := [ii v18, ii v20]) (ep_cons rfl (ep_cons rfl ep_nil)) rfl (g_mkl enc_GVersion_Range [(GVersion_Range.mk v18 v20)] (ec rfl en) rfl (mz mkn) (g_appo enc_GVersion_Range rfl rfl rfl hw (fun z => [.tok (1 + z.length), .cells [ii a16.Low, ii a16.High]]) (fun _ => rfl) fun v21 hw => st_mv rfl (g_end [(4, .list (List.map eGVersion_Range v21) (.own 0 1 2)), (10, ln eGVersion_Range p1), (11, ii (p1.length : Int)), (12, ii v3)] rfl ?_)))))))))
      refine bl_n (sq_n (s_reg (g_add rfl rfl hw fun v22 hw => st_mv rfl (g_end [(4, .list (List.map eGVersion_Range v21) (.own 0 1 2)), (10, ln eGVersion_Range p1), (11, ii (p1.length : Int)), (12, ii v22)] rfl ?_))))
      exact lo_n ⟨(v21, v22), hw.1⟩ hw.2 (wr [0])
    · refine s_cond_f rfl (sc_skip (bl_n (sq_n (s_reg (g_add rfl rfl hw fun v23 hw => st_mv rfl (g_end [(4, .list (List.map eGVersion_Range v2) (.own 0 1 2)), (10, ln eGVersion_Range p1), (11, ii (p1.length : Int)), (12, ii v23)] rfl ?_))))))
      exact lo_n ⟨(v2, v23), hw.1⟩ hw.2 (wr [0])
  · refine sc_exit (sq_x (lo_x (bl_x (sq_n (q_reg (st_mv rfl (k_call dh (ec rfl en) rfl hw fun r24 hw => st_mv rfl (st_extract rfl rfl (st_extract rfl rfl (st_mv rfl (st_mv rfl (g_endq [(8, ln eGVersion_Range r24.1), (9, ii r24.2)] rfl ?_))))))))))))
    refine q_reg (st_mv rfl (st_mv rfl (g_eqi rfl rfl hw (fun hw => st_mv rfl (st_g rfl (st_mv rfl (st_g rfl (k_call dh (ec rfl en) rfl hw fun r25 hw => st_g rfl (gb_eqi rfl rfl hw fun v26 hw => st_pick_t rfl rfl rfl (st_mv rfl (st_mv rfl (g_endq [(2, ln eGVersion_Range r24.1), (3, .bool v26)] rfl ?_))))))))) (fun hw => st_mv rfl (st_gft rfl (st_gft rfl (st_gft rfl (st_pick_f rfl rfl rfl (st_mv rfl (st_mv rfl (g_endq [(2, ln eGVersion_Range r24.1), (3, .bool false)] rfl ?_)))))))))))
    · exact sc_ret (gr1 (g := zg5) (ho := fun _ => []) [ln eGVersion_Range r24.1, .bool v26] hw (.inr rfl) (wr []))
    · exact sc_ret (gr1 (g := zg5) (ho := fun _ => []) [ln eGVersion_Range r24.1, .bool false] hw (.inr rfl) (wr []))
def hc6 : C := (.seq (.reg [oo 2 (.mv (.c (.str []))), oo 3 (.mv (.c (.int .i64 0)))] [0]) (.seq (.seq (.reg [mo 9 0, co 10 (.call 16 [9]), mo 4 10] [0, 4]) (.seq (.reg [mo 11 4, oo 12 (.eqv true .int 11 (.c (.int .i64 0)))] [0, 4, 12]) (.cond 12 (.seq (.reg [mo 13 4, oo 2 (.mv (.c (.str []))), mo 3 13] [2, 3]) .ret) .skip))) (.seq (.reg [oo 5 (.mv (.c (.list [] .full)))] [0, 5]) (.seq (.seq (.reg [mo 14 0, oo 15 (.len false 14), oo 16 (.mv (.c (.int .i64 0)))] [5, 14, 15, 16]) (.block 0 (.loop (.seq (.reg [oo 17 (.bin .lss 16 15)] [5, 14, 15, 16, 17]) (.seq (.cond 17 .skip (.exit 0)) (.seq (.block 1 (.seq (.reg [oo 18 (.iaddr 2 14 16), oo 19 (.load (some 2) 18), oo 7 (.alloc none [(.int .i64 0), (.int .i64 0)]), os (.store 2 7 19)] [5, 7, 14, 15, 16]) (.seq (.reg [oo 20 (.faddr 0 1 7), oo 21 (.load none 20), co 22 (.call 17 [21]), mo 8 22] [5, 7, 8, 14, 15, 16]) (.seq (.seq (.reg [oo 23 (.faddr 1 1 7), oo 24 (.load none 23), oo 25 (.faddr 0 1 7), oo 26 (.load none 25), oo 27 (.bin .gtr 24 26)] [5, 7, 8, 14, 15, 16, 27]) (.cond 27 (.reg [mo 28 8, oo 29 (.faddr 1 1 7), oo 30 (.load none 29), co 31 (.call 17 [30]), oo 32 (.bin .add (.c (.str [45])) 31), oo 33 (.bin .add 28 32), mo 8 33] [5, 8, 14, 15, 16]) .skip)) (.reg [mo 34 5, mo 35 8, oo 36 (.mklist 1 [35]), oo 37 (.append 1 16 34 36), mo 5 37] [5, 14, 15, 16]))))) (.reg [oo 38 (.bin .add 16 (.c (.int .i64 1))), mo 16 38] [5, 14, 15, 16]))))))) (.seq (.reg [mo 39 5, co 40 (.call 18 [39, (.c (.str [44]))]), mo 2 40, oo 3 (.mv (.c (.int .i64 0)))] [2, 3]) .ret)))))
def ha6 : Ann := ⟨[], [], [(0, [0]), (1, [0, 4]), (2, [0, 4, 12]), (3, [2, 3]), (4, [0, 5]), (5, [5, 14, 15, 16]), (6, [5, 14, 15, 16, 17]), (7, [5, 7, 14, 15, 16]), (8, [5, 7, 8, 14, 15, 16]), (9, [5, 7, 8, 14, 15, 16, 27]), (10, [5, 8, 14, 15, 16]), (11, [5, 14, 15, 16]), (12, [5, 14, 15, 16]), (13, [2, 3])], []⟩
theorem hk6 : comp Tryd.prog ha6 Tryd.f6.ntmps Tryd.f6.code = some hc6 := by kernel_rfl
def w6 (p1 : List (GVersion_Range)) (Q : List UInt8 × Int → Prop) : Prop :=
  ∃ r2 : Int, sp16 p1 r2 ∧ ((r2 ≠ (0 : Int) → Q ([], r2)) ∧ (r2 = (0 : Int) → ∃ (I15 : (List (List UInt8)) → Int → Prop) (M16 : (List (List UInt8)) → Int → Nat), I15 ([] : List (List UInt8)) (0 : Int) ∧ ∀ (v3 : List (List UInt8)) (v4 : Int), I15 v3 v4 → ∀ v17 : Bool, v17 = decide (v4 < (p1.length : Int)) → ((v17 = true → (0 ≤ v4 ∧ v4 < (p1.length : Int)) ∧ ∀ a18 : GVersion_Range, p1[(v4 : Int).toNat]? = some a18 → ∃ r19 : List UInt8, sp17 a18.Low r19 ∧ ∃ J21 : (List UInt8) → Prop, (((a18.Low < a18.High → ∃ r22 : List UInt8, sp17 a18.High r22 ∧ ([45].length + r22.length ≤ 9223372036854775807) ∧ ∀ v23 : List UInt8, v23 = [45] ++ r22 → (r19.length + v23.length ≤ 9223372036854775807) ∧ ∀ v24 : List UInt8, v24 = r19 ++ v23 → J21 v24) ∧ (a18.High ≤ a18.Low → J21 r19))) ∧ ∀ (v20 : List UInt8), J21 v20 → ((v3.length + ([v20] : List (List UInt8)).length) * 16 ≤ 140737488355328) ∧ ∀ v25 : List (List UInt8), v25 = v3 ++ ([v20] : List (List UInt8)) → (R64 (v4 + (1 : Int))) ∧ ∀ v26 : Int, v26 = v4 + (1 : Int) → (I15 v25 v26 ∧ M16 v25 v26 < M16 v3 v4)) ∧ (v17 = false → ∃ r27 : List UInt8, sp18 v3 [44] r27 ∧ Q (r27, (0 : Int))))))
theorem ok6 (p1 : List (GVersion_Range)) (r : List UInt8 × Int) (hw : w6 p1 fun r' => r' = r) : sp6 p1 r := by
  refine zf (rs := [.t 2, .t 3]) (g := zg6) Tryd.func6 hk6 ?_
  unfold w6 at hw
  show SC Tryd.prog Tryd.f6.ntmps 0 hc6 _ [(0, ln eGVersion_Range p1)] []
  unfold hc6
  refine q_reg (st_mv rfl (st_mv rfl (g_endq [(0, ln eGVersion_Range p1)] rfl ?_)))
  refine sc_seq (q_reg (st_mv rfl (k_call dh (ec rfl en) rfl hw fun r2 hw => st_mv rfl (g_endq [(0, ln eGVersion_Range p1), (4, ii r2)] rfl ?_))))
  refine q_reg (st_mv rfl (g_nei rfl rfl hw (fun hw => g_endq [(0, ln eGVersion_Range p1), (4, ii r2), (12, .bool true)] rfl ?_) (fun hw => g_endq [(0, ln eGVersion_Range p1), (4, ii r2), (12, .bool false)] rfl ?_)))
  · refine s_cond_t rfl (q_reg (st_mv rfl (st_mv rfl (st_mv rfl (g_endq [(2, .str []), (3, ii r2)] rfl ?_)))))
    exact sc_ret (sq_r (gr1 (g := zg6) (ho := fun _ => []) [.str [], ii r2] hw (.inr rfl) ws))
  · refine s_cond_f rfl (sc_skip (sq_n (q_reg (st_mv rfl (g_endq [(0, ln eGVersion_Range p1), (5, nl eStr)] rfl ?_)))))
    refine sc_seq (q_reg (st_mv rfl (g_len rfl (st_mv rfl (g_endq [(5, nl eStr), (14, ln eGVersion_Range p1), (15, ii (p1.length : Int)), (16, ii 0)] rfl ?_)))))
    refine sc_block ?_
    obtain ⟨I15, M16, hi, hw⟩ := hw
    refine sc_loop (X := { x : List (List UInt8) × Int // I15 x.1 x.2 }) (fun x => ([(5, .list (List.map eStr x.1.1) (.own 0 1 1)), (14, ln eGVersion_Range p1), (15, ii (p1.length : Int)), (16, ii x.1.2)], [.tok (1 + x.1.1.length)])) (fun x => M16 x.1.1 x.1.2) ⟨(([] : List (List UInt8)), (0 : Int)), hi⟩ ((w_acc (l := ([] : List (List UInt8))) 5 1 (n := 0) rfl enc_str rfl).trans ws) ?_
    rintro ⟨⟨v3, v4⟩, hi2⟩
    have hw := hw v3 v4 hi2
    clear hi
    refine q_reg (gb_cmp rfl rfl trivial rfl hw fun v17 hw => g_endq [(5, .list (List.map eStr v3) (.own 0 1 1)), (14, ln eGVersion_Range p1), (15, ii (p1.length : Int)), (16, ii v4), (17, .bool v17)] rfl ?_)
    refine sc_seq (s_cond rfl hw (fun hw => ?_) (fun hw => ?_))
    · refine sc_skip (sq_n (sc_seq (sc_block (q_reg (g_iaddr enc_GVersion_Range rfl rfl hw fun a18 hw => st_load_r (v := eGVersion_Range a18) rfl rfl (g_alloc (n := 1) rfl rfl (g_sp (v := eGVersion_Range a18) (h' := [.tok (1 + v3.length), .cells [ii a18.Low, ii a18.High]]) rfl rfl rfl (g_endq [(5, .list (List.map eStr v3) (.own 0 1 1)), (7, .ptr 1 0), (14, ln eGVersion_Range p1), (15, ii (p1.length : Int)), (16, ii v4)] rfl ?_))))))))
      refine q_reg (g_faddr_p rfl (g_load_p rfl rfl rfl (k_call dh (ec rfl en) rfl hw fun r19 hw => st_mv rfl (g_endq [(5, .list (List.map eStr v3) (.own 0 1 1)), (7, .ptr 1 0), (8, .str r19), (14, ln eGVersion_Range p1), (15, ii (p1.length : Int)), (16, ii v4)] rfl ?_))))
      obtain ⟨J21, hw, hk⟩ := hw
      refine sc_join (A := List UInt8) (fun x => J21 x) (fun x => ([(5, .list (List.map eStr v3) (.own 0 1 1)), (8, .str x), (14, ln eGVersion_Range p1), (15, ii (p1.length : Int)), (16, ii v4)], [.tok (1 + v3.length)])) ?_ ?_
      · rintro v20 hj
        have hw := hk v20 hj
        clear hk hj
        refine s_reg (st_mv rfl (st_mv rfl (g_mkl enc_str [v20] (ec rfl en) rfl (mz mkn) (g_appo enc_str rfl rfl rfl hw (fun z => [.tok (1 + z.length)]) (fun _ => rfl) fun v25 hw => st_mv rfl (g_end [(5, .list (List.map eStr v25) (.own 0 1 1)), (14, ln eGVersion_Range p1), (15, ii (p1.length : Int)), (16, ii v4)] rfl ?_)))))
        refine bl_n (sq_n (s_reg (g_add rfl rfl hw fun v26 hw => st_mv rfl (g_end [(5, .list (List.map eStr v25) (.own 0 1 1)), (14, ln eGVersion_Range p1), (15, ii (p1.length : Int)), (16, ii v26)] rfl ?_))))
        exact lo_n ⟨(v25, v26), hw.1⟩ hw.2 ws
      · clear hk
        refine q_reg (g_faddr_p rfl (g_load_p rfl rfl rfl (g_faddr_p rfl (g_load_p rfl rfl rfl (g_gtr rfl rfl hw (fun hw => g_endq [(5, .list (List.map eStr v3) (.own 0 1 1)), (7, .ptr 1 0), (8, .str r19), (14, ln eGVersion_Range p1), (15, ii (p1.length : Int)), (16, ii v4), (27, .bool true)] rfl ?_) (fun hw => g_endq [(5, .list (List.map eStr v3) (.own 0 1 1)), (7, .ptr 1 0), (8, .str r19), (14, ln eGVersion_Range p1), (15, ii (p1.length : Int)), (16, ii v4), (27, .bool false)] rfl ?_))))))
        · refine s_cond_t rfl (s_reg (st_mv rfl (g_faddr_p rfl (g_load_p rfl rfl rfl (k_call dh (ec rfl en) rfl hw fun r22 hw => g_sadd rfl rfl hw fun v23 hw => g_sadd rfl rfl hw fun v24 hw => st_mv rfl (g_end [(5, .list (List.map eStr v3) (.own 0 1 1)), (8, .str v24), (14, ln eGVersion_Range p1), (15, ii (p1.length : Int)), (16, ii v4)] rfl ?_))))))
          exact jo_n v24 hw (wr [0])
        · exact s_cond_f rfl (sc_skip (jo_n r19 hw (wr [0])))
    · refine sc_exit (sq_x (lo_x (bl_x (sq_n (q_reg (st_mv rfl (k_call dh (ec rfl (ec rfl en)) rfl hw fun r27 hw => st_mv rfl (st_mv rfl (g_endq [(2, .str r27), (3, ii 0)] rfl ?_)))))))))
      exact sc_ret (gr1 (g := zg6) (ho := fun _ => []) [.str r27, ii 0] hw (.inr rfl) (wr []))
def hc8 : C := (.seq (.reg [oo 2 (.mv (.c (.int .i64 0))), oo 3 (.mv (.c (.int .i64 0))), oo 4 (.mv (.c (.int .i64 0)))] [0]) (.seq (.seq (.reg [mo 6 0, co 7 (.call 16 [6]), mo 5 7] [0, 5]) (.seq (.reg [mo 8 5, oo 9 (.eqv true .int 8 (.c (.int .i64 0)))] [0, 5, 9]) (.cond 9 (.seq (.reg [mo 10 5, oo 2 (.mv (.c (.int .i64 0))), oo 3 (.mv (.c (.int .i64 0))), mo 4 10] [2, 3, 4]) .ret) .skip))) (.seq (.seq (.reg [mo 11 0, oo 12 (.len false 11), oo 13 (.eqv false .int 12 (.c (.int .i64 0)))] [0, 13]) (.cond 13 (.seq (.reg [oo 2 (.mv (.c (.int .i64 0))), oo 3 (.mv (.c (.int .i64 0))), oo 4 (.mv (.c (.int .i64 4)))] [2, 3, 4]) .ret) .skip)) (.seq (.dreg [mo 14 0, oo 15 (.iaddr 2 14 (.c (.int .i64 0))), oo 16 (.faddr 0 1 15), oo 17 (.load none 16), mo 18 0, mo 19 0, oo 20 (.len false 19), oo 21 (.bin .sub 20 (.c (.int .i64 1))), oo 22 (.iaddr 2 18 21), oo 23 (.faddr 1 1 22), oo 24 (.load none 23), mo 2 17, mo 3 24, oo 4 (.mv (.c (.int .i64 0)))] [] 0 [2, 3, 4]) .ret))))
def ha8 : Ann := ⟨[], [], [(0, [0]), (1, [0, 5]), (2, [0, 5, 9]), (3, [2, 3, 4]), (4, [0, 13]), (5, [2, 3, 4]), (6, [2, 3, 4])], []⟩
theorem hk8 : comp Tryd.prog ha8 Tryd.f8.ntmps Tryd.f8.code = some hc8 := by kernel_rfl
def w8 (p1 : List (GVersion_Range)) (Q : Int × Int × Int → Prop) : Prop :=
  ∃ r2 : Int, sp16 p1 r2 ∧ ((r2 ≠ (0 : Int) → Q ((0 : Int), (0 : Int), r2)) ∧ (r2 = (0 : Int) → (((p1.length : Int) = (0 : Int) → Q ((0 : Int), (0 : Int), (4 : Int))) ∧ ((p1.length : Int) ≠ (0 : Int) → (0 ≤ (0 : Int) ∧ (0 : Int) < (p1.length : Int)) ∧ ∀ a3 : GVersion_Range, p1[((0 : Int) : Int).toNat]? = some a3 → (R64 ((p1.length : Int) - (1 : Int))) ∧ ∀ v4 : Int, v4 = (p1.length : Int) - (1 : Int) → (0 ≤ v4 ∧ v4 < (p1.length : Int)) ∧ ∀ a5 : GVersion_Range, p1[(v4 : Int).toNat]? = some a5 → Q (a3.Low, a5.High, (0 : Int))))))
theorem ok8 (p1 : List (GVersion_Range)) (r : Int × Int × Int) (hw : w8 p1 fun r' => r' = r) : sp8 p1 r := by
  refine zf (rs := [.t 2, .t 3, .t 4]) (g := zg8) Tryd.func8 hk8 ?_
  unfold w8 at hw
  show SC Tryd.prog Tryd.f8.ntmps 0 hc8 _ [(0, ln eGVersion_Range p1)] []
  unfold hc8
  refine q_reg (st_mv rfl (st_mv rfl (st_mv rfl (g_endq [(0, ln eGVersion_Range p1)] rfl ?_))))
  refine sc_seq (q_reg (st_mv rfl (k_call dh (ec rfl en) rfl hw fun r2 hw => st_mv rfl (g_endq [(0, ln eGVersion_Range p1), (5, ii r2)] rfl ?_))))
  refine q_reg (st_mv rfl (g_nei rfl rfl hw (fun hw => g_endq [(0, ln eGVersion_Range p1), (5, ii r2), (9, .bool true)] rfl ?_) (fun hw => g_endq [(0, ln eGVersion_Range p1), (5, ii r2), (9, .bool false)] rfl ?_)))
  · refine s_cond_t rfl (q_reg (st_mv rfl (st_mv rfl (st_mv rfl (st_mv rfl (g_endq [(2, ii 0), (3, ii 0), (4, ii r2)] rfl ?_))))))
    exact sc_ret (sq_r (gr1 (g := zg8) (ho := fun _ => []) [ii 0, ii 0, ii r2] hw (.inr rfl) ws))
  · refine s_cond_f rfl (sc_skip (sq_n (sc_seq (q_reg (st_mv rfl (g_len rfl (g_eqi rfl rfl hw (fun hw => g_endq [(0, ln eGVersion_Range p1), (13, .bool true)] rfl ?_) (fun hw => g_endq [(0, ln eGVersion_Range p1), (13, .bool false)] rfl ?_))))))))
    · refine s_cond_t rfl (q_reg (st_mv rfl (st_mv rfl (st_mv rfl (g_endq [(2, ii 0), (3, ii 0), (4, ii 4)] rfl ?_)))))
      exact sc_ret (sq_r (gr1 (g := zg8) (ho := fun _ => []) [ii 0, ii 0, ii 4] hw (.inr rfl) ws))
    · refine s_cond_f rfl (sc_skip (sq_n (sc_seq (s_dreg Tryd.mixed rfl (st_mv rfl (g_iaddr enc_GVersion_Range rfl rfl hw fun a3 hw => g_faddr_r (cs := [ii a3.Low, ii a3.High]) rfl (lt_of_blt rfl) (st_load_r rfl rfl (st_mv rfl (st_mv rfl (g_len rfl (g_sub rfl rfl hw fun v4 hw => g_iaddr enc_GVersion_Range rfl rfl hw fun a5 hw => g_faddr_r (cs := [ii a5.Low, ii a5.High]) rfl (lt_of_blt rfl) (st_load_r rfl rfl (st_mv rfl (st_mv rfl (st_mv rfl (st_mid (g_end [(2, ii a3.Low), (3, ii a5.High), (4, ii 0)] rfl ?_)))))))))))))))))
      exact sq_n (sc_ret (gr1 (g := zg8) (ho := fun _ => []) [ii a3.Low, ii a5.High, ii 0] hw (.inr rfl) ws))
def hc9 : C := (.seq (.reg [oo 4 (.mv (.c (.bool false)))] [0, 1]) (.seq (.seq (.reg [mo 6 0, oo 7 (.len false 6), mo 8 1, oo 9 (.len false 8), oo 10 (.eqv true .int 7 9)] [0, 1, 10]) (.cond 10 (.seq (.reg [oo 4 (.mv (.c (.bool false)))] [4]) .ret) .skip)) (.seq (.seq (.reg [mo 11 0, oo 12 (.len false 11), oo 13 (.mv (.c (.int .i64 0)))] [0, 1, 12, 13]) (.block 0 (.loop (.seq (.reg [oo 14 (.bin .lss 13 12)] [0, 1, 12, 13, 14]) (.seq (.cond 14 .skip (.exit 0)) (.seq (.block 1 (.seq (.reg [mo 15 13, mo 5 15] [0, 1, 5, 12, 13]) (.seq (.dreg [mo 16 0, mo 17 5, oo 18 (.iaddr 2 16 17), oo 19 (.load (some 2) 18), mo 20 1, mo 21 5, oo 22 (.iaddr 2 20 21), oo 23 (.load (some 2) 22), oo 24 (.eqv true (.agg [.i, .i]) 19 23)] [] 0 [0, 1, 12, 13, 24]) (.cond 24 (.seq (.reg [oo 4 (.mv (.c (.bool false)))] [4]) .ret) .skip)))) (.reg [oo 25 (.bin .add 13 (.c (.int .i64 1))), mo 13 25] [0, 1, 12, 13]))))))) (.seq (.reg [oo 4 (.mv (.c (.bool true)))] [4]) .ret))))
def ha9 : Ann := ⟨[], [], [(0, [0, 1]), (1, [0, 1, 10]), (2, [4]), (3, [0, 1, 12, 13]), (4, [0, 1, 12, 13, 14]), (5, [0, 1, 5, 12, 13]), (6, [0, 1, 12, 13, 24]), (7, [4]), (8, [0, 1, 12, 13]), (9, [4])], []⟩
theorem hk9 : comp Tryd.prog ha9 Tryd.f9.ntmps Tryd.f9.code = some hc9 := by kernel_rfl
def w9 (p1 : List (GVersion_Range)) (p2 : List (GVersion_Range)) (Q : Bool → Prop) : Prop :=
  (((p1.length : Int) ≠ (p2.length : Int) → Q false) ∧ ((p1.length : Int) = (p2.length : Int) → ∃ (I8 : Int → Prop) (M9 : Int → Nat), I8 (0 : Int) ∧ ∀ (v3 : Int), I8 v3 → ∀ v10 : Bool, v10 = decide (v3 < (p1.length : Int)) → ((v10 = true → (0 ≤ v3 ∧ v3 < (p1.length : Int)) ∧ ∀ a11 : GVersion_Range, p1[(v3 : Int).toNat]? = some a11 → (0 ≤ v3 ∧ v3 < (p2.length : Int)) ∧ ∀ a12 : GVersion_Range, p2[(v3 : Int).toNat]? = some a12 → ((a11 ≠ a12 → Q false) ∧ (a11 = a12 → (R64 (v3 + (1 : Int))) ∧ ∀ v13 : Int, v13 = v3 + (1 : Int) → (I8 v13 ∧ M9 v13 < M9 v3)))) ∧ (v10 = false → Q true))))
theorem ok9 (p1 : List (GVersion_Range)) (p2 : List (GVersion_Range)) (r : Bool) (hw : w9 p1 p2 fun r' => r' = r) : sp9 p1 p2 r := by
  refine zf (rs := [.t 4]) (g := zg9) Tryd.func9 hk9 ?_
  unfold w9 at hw
  show SC Tryd.prog Tryd.f9.ntmps 0 hc9 _ [(0, ln eGVersion_Range p1), (1, ln eGVersion_Range p2)] []
  unfold hc9
  refine q_reg (st_mv rfl (g_endq [(0, ln eGVersion_Range p1), (1, ln eGVersion_Range p2)] rfl ?_))
  refine sc_seq (q_reg (st_mv rfl (g_len rfl (st_mv rfl (g_len rfl (g_nei rfl rfl hw (fun hw => g_endq [(0, ln eGVersion_Range p1), (1, ln eGVersion_Range p2), (10, .bool true)] rfl ?_) (fun hw => g_endq [(0, ln eGVersion_Range p1), (1, ln eGVersion_Range p2), (10, .bool false)] rfl ?_)))))))
  · refine s_cond_t rfl (q_reg (st_mv rfl (g_endq [(4, .bool false)] rfl ?_)))
    exact sc_ret (sq_r (gr1 (g := zg9) (ho := fun _ => []) [.bool false] hw (.inr rfl) ws))
  · refine s_cond_f rfl (sc_skip (sq_n (sc_seq (q_reg (st_mv rfl (g_len rfl (st_mv rfl (g_endq [(0, ln eGVersion_Range p1), (1, ln eGVersion_Range p2), (12, ii (p1.length : Int)), (13, ii 0)] rfl ?_))))))))
    refine sc_block ?_
    obtain ⟨I8, M9, hi, hw⟩ := hw
    refine sc_loop (X := { x : Int // I8 x }) (fun x => ([(0, ln eGVersion_Range p1), (1, ln eGVersion_Range p2), (12, ii (p1.length : Int)), (13, ii x.1)], [])) (fun x => M9 x.1) ⟨(0 : Int), hi⟩ ws ?_
    rintro ⟨v3, hi2⟩
    have hw := hw v3 hi2
    clear hi
    refine q_reg (gb_cmp rfl rfl trivial rfl hw fun v10 hw => g_endq [(0, ln eGVersion_Range p1), (1, ln eGVersion_Range p2), (12, ii (p1.length : Int)), (13, ii v3), (14, .bool v10)] rfl ?_)
    refine sc_seq (s_cond rfl hw (fun hw => ?_) (fun hw => ?_))
    · refine sc_skip (sq_n (sc_seq (sc_block (q_reg (st_mv rfl (st_mv rfl (g_endq [(0, ln eGVersion_Range p1), (1, ln eGVersion_Range p2), (5, ii v3), (12, ii (p1.length : Int)), (13, ii v3)] rfl ?_)))))))
      refine sc_seq (s_dreg Tryd.mixed rfl (st_mv rfl (st_mv rfl (g_iaddr enc_GVersion_Range rfl rfl hw fun a11 hw => st_load_r (v := eGVersion_Range a11) rfl rfl (st_mv rfl (st_mv rfl (g_iaddr enc_GVersion_Range rfl rfl hw fun a12 hw => st_load_r (v := eGVersion_Range a12) rfl rfl (g_nea (fk := eGVersion_Range) enck_GVersion_Range (fun a => ⟨_, rfl⟩) a11 a12 rfl rfl hw (fun hw => st_mid (g_end [(0, ln eGVersion_Range p1), (1, ln eGVersion_Range p2), (12, ii (p1.length : Int)), (13, ii v3), (24, .bool true)] rfl ?_)) (fun hw => st_mid (g_end [(0, ln eGVersion_Range p1), (1, ln eGVersion_Range p2), (12, ii (p1.length : Int)), (13, ii v3), (24, .bool false)] rfl ?_))))))))))
      · refine sq_n (s_cond_t rfl (q_reg (st_mv rfl (g_endq [(4, .bool false)] rfl ?_))))
        exact sc_ret (bl_r (sq_r (lo_r (bl_r (sq_r (gr1 (g := zg9) (ho := fun _ => []) [.bool false] hw (.inr rfl) ws))))))
      · refine sq_n (s_cond_f rfl (sc_skip (bl_n (sq_n (s_reg (g_add rfl rfl hw fun v13 hw => st_mv rfl (g_end [(0, ln eGVersion_Range p1), (1, ln eGVersion_Range p2), (12, ii (p1.length : Int)), (13, ii v13)] rfl ?_)))))))
        exact lo_n ⟨v13, hw.1⟩ hw.2 ws
    · refine sc_exit (sq_x (lo_x (bl_x (sq_n (q_reg (st_mv rfl (g_endq [(4, .bool true)] rfl ?_)))))))
      exact sc_ret (gr1 (g := zg9) (ho := fun _ => []) [.bool true] hw (.inr rfl) ws)
def hc10 : C := (.seq (.reg [oo 3 (.box none 1 1), oo 4 (.mv (.c (.bool false)))] [0, 3]) (.seq (.reg [mo 5 0, oo 6 (.mkfunc 23 [3]), co 7 (.call 22 [5, 6]), mo 4 7] [4]) .ret))
def ha10 : Ann := ⟨[], [], [(0, [0, 3]), (1, [4])], []⟩
theorem hk10 : comp Tryd.prog ha10 Tryd.f10.ntmps Tryd.f10.code = some hc10 := by kernel_rfl
def w10 (p1 : List (GVersion_Range)) (p2 : Int) (Q : Bool → Prop) : Prop :=
  ∃ r3 : Bool × Int, sp22_23 p1 p2 r3 ∧ Q r3.1
theorem ok10 (p1 : List (GVersion_Range)) (p2 : Int) (r : Bool) (hw : w10 p1 p2 fun r' => r' = r) : sp10 p1 p2 r := by
  refine zf (rs := [.t 4]) (g := zg10) Tryd.func10 hk10 ?_
  unfold w10 at hw
  show SC Tryd.prog Tryd.f10.ntmps 0 hc10 _ [(0, ln eGVersion_Range p1), (1, ii p2)] []
  unfold hc10
  refine q_reg (g_box (v := ii p2) rfl rfl rfl (n := 0) rfl rfl (st_mv rfl (g_endq [(0, ln eGVersion_Range p1), (3, .ptr 0 0)] rfl ?_)))
  refine q_reg (st_mv rfl (g_mkfunc (ec rfl en) rfl (kh (hargs := (ra_cons (.pv _ (pv_lst enc_GVersion_Range _ _ (by simp))) (ra_cons (Ren.fn (rf_cons (.ptr _ _ _ rfl) rf_nil)) ra_nil))) hh (g2 := fun r3 : Bool × Int => .bool r3.1) (H2 := fun r3 : Bool × Int => [.cells [ii r3.2]]) [0] [0] 1 0 (ec rfl (ec rfl en)) hw fun r3 hw => st_mv rfl (g_endq [(4, .bool r3.1)] rfl ?_))))
  exact sc_ret (gr1 (g := zg10) (ho := fun _ => []) [.bool r3.1] hw (.inr rfl) (wr []))
def hc13 : C := (.seq (.reg [oo 4 (.mv (.c (.int .i64 0)))] [0, 1]) (.seq (.seq (.reg [mo 5 0, oo 6 (.bin .lss 5 (.c (.int .i64 0)))] [0, 1, 6]) (.cond 6 (.reg [mo 7 0, oo 8 (.bin .add 7 (.c (.int .i64 1))), oo 9 (.un .neg 8), mo 0 9] [0, 1]) .skip)) (.seq (.reg [mo 10 0, mo 11 1, oo 12 (.bin .rem 10 11), mo 4 12] [4]) .ret)))
def ha13 : Ann := ⟨[], [], [(0, [0, 1]), (1, [0, 1, 6]), (2, [0, 1]), (3, [4])], []⟩
theorem hk13 : comp Tryd.prog ha13 Tryd.f13.ntmps Tryd.f13.code = some hc13 := by kernel_rfl
def w13 (p1 : Int) (p2 : Int) (Q : Int → Prop) : Prop :=
  ∃ J4 : Int → Prop, (((p1 < (0 : Int) → (R64 (p1 + (1 : Int))) ∧ ∀ v5 : Int, v5 = p1 + (1 : Int) → (-9223372036854775807 ≤ v5 ∧ v5 ≤ 9223372036854775807) ∧ ∀ v6 : Int, v6 = -(v5) → J4 v6) ∧ ((0 : Int) ≤ p1 → J4 p1))) ∧ ∀ (v3 : Int), J4 v3 → (p2 ≠ 0) ∧ ∀ v7 : Int, v7 = (v3).tmod p2 → Q v7
theorem ok13 (p1 : Int) (p2 : Int) (r : Int) (hw : w13 p1 p2 fun r' => r' = r) : sp13 p1 p2 r := by
  refine zf (rs := [.t 4]) (g := zg13) Tryd.func13 hk13 ?_
  unfold w13 at hw
  show SC Tryd.prog Tryd.f13.ntmps 0 hc13 _ [(0, ii p1), (1, ii p2)] []
  unfold hc13
  refine q_reg (st_mv rfl (g_endq [(0, ii p1), (1, ii p2)] rfl ?_))
  obtain ⟨J4, hw, hk⟩ := hw
  refine sc_join (A := Int) (fun x => J4 x) (fun x => ([(0, ii x), (1, ii p2)], [])) ?_ ?_
  · rintro v3 hj
    have hw := hk v3 hj
    clear hk hj
    refine q_reg (st_mv rfl (st_mv rfl (g_rem rfl rfl hw fun v7 hw => st_mv rfl (g_endq [(4, ii v7)] rfl ?_))))
    exact sc_ret (gr1 (g := zg13) (ho := fun _ => []) [ii v7] hw (.inr rfl) ws)
  · clear hk
    refine q_reg (st_mv rfl (g_lss rfl rfl hw (fun hw => g_endq [(0, ii p1), (1, ii p2), (6, .bool true)] rfl ?_) (fun hw => g_endq [(0, ii p1), (1, ii p2), (6, .bool false)] rfl ?_)))
    · refine s_cond_t rfl (s_reg (st_mv rfl (g_add rfl rfl hw fun v5 hw => g_neg rfl hw fun v6 hw => st_mv rfl (g_end [(0, ii v6), (1, ii p2)] rfl ?_))))
      exact jo_n v6 hw ws
    · exact s_cond_f rfl (sc_skip (jo_n p1 hw ws))
def hc15 : C := (.seq (.reg [oo 2 (.mv (.c (.list [] .full))), oo 3 (.mv (.c (.int .i64 0)))] [0]) (.seq (.seq (.reg [mo 10 0, oo 11 (.len false 10), oo 12 (.mv (.c (.int .i64 0)))] [0, 10, 11, 12]) (.block 0 (.loop (.seq (.reg [oo 13 (.bin .lss 12 11)] [0, 10, 11, 12, 13]) (.seq (.cond 13 .skip (.exit 0)) (.seq (.block 1 (.seq (.reg [oo 14 (.iaddr 2 10 12), oo 15 (.load (some 2) 14), oo 5 (.alloc none [(.int .i64 0), (.int .i64 0)]), os (.store 2 5 15)] [0, 5, 10, 11, 12]) (.seq (.reg [oo 16 (.faddr 0 1 5), oo 17 (.load none 16), oo 18 (.bin .lss 17 (.c (.int .i64 1))), mo 19 18, og 20 (.faddr 1 1 5) 19 false, og 21 (.load none 20) 19 false, og 22 (.bin .gtr 21 (.c (.int .i64 9999))) 19 false, oo 23 (.pick 19 (.c (.bool true)) 22), mo 24 23, og 25 (.faddr 0 1 5) 24 false, og 26 (.load none 25) 24 false, og 27 (.faddr 1 1 5) 24 false, og 28 (.load none 27) 24 false, og 29 (.bin .gtr 26 28) 24 false, oo 30 (.pick 24 (.c (.bool true)) 29)] [0, 10, 11, 12, 30]) (.cond 30 (.seq (.reg [oo 2 (.mv (.c (.list [] .full))), oo 3 (.mv (.c (.int .i64 1)))] [2, 3]) .ret) .skip)))) (.reg [oo 31 (.bin .add 12 (.c (.int .i64 1))), mo 12 31] [0, 10, 11, 12]))))))) (.seq (.reg [mo 32 0, co 33 (.call 33 [32]), mo 0 33] [0]) (.seq (.reg [mo 34 0, co 35 (.call 34 [34, (.c (.func 35 []))])] [0]) (.seq (.reg [oo 6 (.mv (.c (.list [] .full)))] [0, 6]) (.seq (.seq (.reg [mo 36 0, oo 37 (.len false 36), oo 38 (.mv (.c (.int .i64 0)))] [6, 36, 37, 38]) (.block 2 (.loop (.seq (.reg [oo 39 (.bin .lss 38 37)] [6, 36, 37, 38, 39]) (.seq (.cond 39 .skip (.exit 2)) (.seq (.block 3 (.seq (.reg [oo 40 (.iaddr 2 36 38), oo 41 (.load (some 2) 40), oo 8 (.alloc none [(.int .i64 0), (.int .i64 0)]), os (.store 2 8 41)] [6, 8, 36, 37, 38]) (.seq (.reg [mo 42 6, oo 43 (.len false 42), mo 9 43] [6, 8, 9, 36, 37, 38]) (.seq (.dreg [mo 44 9, oo 45 (.bin .gtr 44 (.c (.int .i64 0))), mo 46 45, og 47 (.faddr 0 1 8) 46 true, og 48 (.load none 47) 46 true, og 49 (.mv 6) 46 true, og 50 (.mv 9) 46 true, og 51 (.bin .sub 50 (.c (.int .i64 1))) 46 true, og 52 (.iaddr 2 49 51) 46 true, og 53 (.faddr 1 1 52) 46 true, og 54 (.load none 53) 46 true, og 55 (.bin .add 54 (.c (.int .i64 1))) 46 true, og 56 (.bin .leq 48 55) 46 true, oo 57 (.pick 46 56 (.c (.bool false)))] [] 0 [6, 8, 9, 36, 37, 38, 57]) (.cond 57 (.dreg [mo 58 6, mo 59 9, oo 60 (.bin .sub 59 (.c (.int .i64 1))), mo 61 6, mo 62 9, oo 63 (.bin .sub 62 (.c (.int .i64 1))), oo 64 (.iaddr 2 61 63), oo 65 (.faddr 1 1 64), oo 66 (.load none 65), oo 67 (.faddr 1 1 8), oo 68 (.load none 67), oo 69 (.max [66, 68]), oo 70 (.iaddr 2 58 60), oo 71 (.faddr 1 1 70), os (.store 1 71 69)] [] 0 [6, 36, 37, 38]) (.reg [mo 72 6, oo 73 (.load (some 2) 8), oo 74 (.mklist 2 [73]), oo 75 (.appendarr 2 16 72 74), mo 6 75] [6, 36, 37, 38])))))) (.reg [oo 76 (.bin .add 38 (.c (.int .i64 1))), mo 38 76] [6, 36, 37, 38]))))))) (.seq (.seq (.reg [mo 77 6, oo 78 (.len false 77), oo 79 (.bin .gtr 78 (.c (.int .i64 50)))] [6, 79]) (.cond 79 (.seq (.reg [oo 2 (.mv (.c (.list [] .full))), oo 3 (.mv (.c (.int .i64 2)))] [2, 3]) .ret) .skip)) (.seq (.reg [mo 80 6, mo 2 80, oo 3 (.mv (.c (.int .i64 0)))] [2, 3]) .ret))))))))
def ha15 : Ann := ⟨[(16, 3)], [], [(0, [0]), (1, [0, 10, 11, 12]), (2, [0, 10, 11, 12, 13]), (3, [0, 5, 10, 11, 12]), (4, [0, 10, 11, 12, 30]), (5, [2, 3]), (6, [0, 10, 11, 12]), (7, [0]), (8, [0]), (9, [0, 6]), (10, [6, 36, 37, 38]), (11, [6, 36, 37, 38, 39]), (12, [6, 8, 36, 37, 38]), (13, [6, 8, 9, 36, 37, 38]), (14, [6, 8, 9, 36, 37, 38, 57]), (15, [6, 36, 37, 38]), (16, [6, 36, 37, 38]), (17, [6, 36, 37, 38]), (18, [6, 79]), (19, [2, 3]), (20, [2, 3])], []⟩
theorem hk15 : comp Tryd.prog ha15 Tryd.f15.ntmps Tryd.f15.code = some hc15 := by kernel_rfl
def w15 (p1 : List (GVersion_Range)) (Q : List (GVersion_Range) × Int → Prop) : Prop :=
  ∃ (I6 : Int → Prop) (M7 : Int → Nat), I6 (0 : Int) ∧ ∀ (v2 : Int), I6 v2 → ∀ v8 : Bool, v8 = decide (v2 < (p1.length : Int)) → ((v8 = true → (0 ≤ v2 ∧ v2 < (p1.length : Int)) ∧ ∀ a9 : GVersion_Range, p1[(v2 : Int).toNat]? = some a9 → ((a9.Low < (1 : Int) → Q (([] : List GVersion_Range), (1 : Int))) ∧ ((1 : Int) ≤ a9.Low → (((9999 : Int) < a9.High → Q (([] : List GVersion_Range), (1 : Int))) ∧ (a9.High ≤ (9999 : Int) → ((a9.High < a9.Low → Q (([] : List GVersion_Range), (1 : Int))) ∧ (a9.Low ≤ a9.High → (R64 (v2 + (1 : Int))) ∧ ∀ v10 : Int, v10 = v2 + (1 : Int) → (I6 v10 ∧ M7 v10 < M7 v2)))))))) ∧ (v8 = false → ∃ r11 : List (GVersion_Range), sp33m p1 r11 ∧ ∃ r12 : List (GVersion_Range), sp34_35 r11 r12 ∧ ∃ (I35 : (List GVersion_Range) → Nat → Int → Prop) (M36 : (List GVersion_Range) → Nat → Int → Nat), I35 ([] : List GVersion_Range) (([] : List GVersion_Range).length) (0 : Int) ∧ ∀ (v13 : List GVersion_Range) (v14 : Nat) (v15 : Int), I35 v13 v14 v15 → ∀ v37 : Bool, v37 = decide (v15 < (r11.length : Int)) → ((v37 = true → ((0 ≤ v15 ∧ v15 < (r11.length : Int)) ∧ v15.toNat < r12.length ∧ ∀ a38 : GVersion_Range, r12[v15.toNat]? = some a38 → (((0 : Int) < (v14 : Int) → (R64 ((v14 : Int) - (1 : Int))) ∧ ∀ v40 : Int, v40 = (v14 : Int) - (1 : Int) → ((0 ≤ v40 ∧ v40 < (v14 : Int)) ∧ v40.toNat < v13.length ∧ ∀ a41 : GVersion_Range, v13[v40.toNat]? = some a41 → (R64 (a41.High + (1 : Int))) ∧ ∀ v43 : Int, v43 = a41.High + (1 : Int) → ((a38.Low ≤ v43 → (R64 ((v14 : Int) - (1 : Int))) ∧ ∀ v44 : Int, v44 = (v14 : Int) - (1 : Int) → (R64 ((v14 : Int) - (1 : Int))) ∧ ∀ v45 : Int, v45 = (v14 : Int) - (1 : Int) → ((0 ≤ v45 ∧ v45 < (v14 : Int)) ∧ v45.toNat < v13.length ∧ ∀ a46 : GVersion_Range, v13[v45.toNat]? = some a46 → ∀ v48 : Int, v48 = max a46.High a38.High → ((0 ≤ v44 ∧ v44 < (v14 : Int)) ∧ (v44.toNat < v13.length ∧ ∀ a : GVersion_Range, v13[v44.toNat]? = some a → ∀ v49 : List GVersion_Range, v49 = v13.set v44.toNat ({ a with High := v48 }) → (R64 (v15 + (1 : Int))) ∧ ∀ v50 : Int, v50 = v15 + (1 : Int) → (I35 v49 v14 v50 ∧ M36 v49 v14 v50 < M36 v13 v14 v15))))) ∧ (v43 < a38.Low → v14 ≤ v13.length ∧ ((v14 + ([(GVersion_Range.mk a38.Low a38.High)] : List GVersion_Range).length) * 16 ≤ 140737488355328) ∧ ∀ v52 : List GVersion_Range, v52 = v13.take v14 ++ ([(GVersion_Range.mk a38.Low a38.High)] : List GVersion_Range) → (R64 (v15 + (1 : Int))) ∧ ∀ v53 : Int, v53 = v15 + (1 : Int) → (I35 v52 v52.length v53 ∧ M36 v52 v52.length v53 < M36 v13 v14 v15))))) ∧ ((v14 : Int) ≤ (0 : Int) → v14 ≤ v13.length ∧ ((v14 + ([(GVersion_Range.mk a38.Low a38.High)] : List GVersion_Range).length) * 16 ≤ 140737488355328) ∧ ∀ v54 : List GVersion_Range, v54 = v13.take v14 ++ ([(GVersion_Range.mk a38.Low a38.High)] : List GVersion_Range) → (R64 (v15 + (1 : Int))) ∧ ∀ v55 : Int, v55 = v15 + (1 : Int) → (I35 v54 v54.length v55 ∧ M36 v54 v54.length v55 < M36 v13 v14 v15))))) ∧ (v37 = false → (((50 : Int) < (v14 : Int) → Q (([] : List GVersion_Range), (2 : Int))) ∧ ((v14 : Int) ≤ (50 : Int) → (v13.length = v14 ∧ Q (v13, (0 : Int)))))))))
theorem ok15 (p1 : List (GVersion_Range)) (r : List (GVersion_Range) × Int) (hw : w15 p1 fun r' => r' = r) : sp15 p1 r := by
  refine zf (rs := [.t 2, .t 3]) (g := zg15) Tryd.func15 hk15 ?_
  unfold w15 at hw
  show SC Tryd.prog Tryd.f15.ntmps 0 hc15 _ [(0, ln eGVersion_Range p1)] []
  unfold hc15
  refine q_reg (st_mv rfl (st_mv rfl (g_endq [(0, ln eGVersion_Range p1)] rfl ?_)))
  refine sc_seq (q_reg (st_mv rfl (g_len rfl (st_mv rfl (g_endq [(0, ln eGVersion_Range p1), (10, ln eGVersion_Range p1), (11, ii (p1.length : Int)), (12, ii 0)] rfl ?_)))))
  refine sc_block ?_
  obtain ⟨I6, M7, hi, hw⟩ := hw
  refine sc_loop (X := { x : Int // I6 x }) (fun x => ([(0, ln eGVersion_Range p1), (10, ln eGVersion_Range p1), (11, ii (p1.length : Int)), (12, ii x.1)], [])) (fun x => M7 x.1) ⟨(0 : Int), hi⟩ ws ?_
  rintro ⟨v2, hi2⟩
  have hw := hw v2 hi2
  clear hi
  refine q_reg (gb_cmp rfl rfl trivial rfl hw fun v8 hw => g_endq [(0, ln eGVersion_Range p1), (10, ln eGVersion_Range p1), (11, ii (p1.length : Int)), (12, ii v2), (13, .bool v8)] rfl ?_)
  refine sc_seq (s_cond rfl hw (fun hw => ?_) (fun hw => ?_))
  · refine sc_skip (sq_n (sc_seq (sc_block (q_reg (g_iaddr enc_GVersion_Range rfl rfl hw fun a9 hw => st_load_r (v := eGVersion_Range a9) rfl rfl (g_alloc (n := 0) rfl rfl (g_sp (v := eGVersion_Range a9) (h' := [.cells [ii a9.Low, ii a9.High]]) rfl rfl rfl (g_endq [(0, ln eGVersion_Range p1), (5, .ptr 0 0), (10, ln eGVersion_Range p1), (11, ii (p1.length : Int)), (12, ii v2)] rfl ?_))))))))
    refine q_reg (g_faddr_p rfl (g_load_p rfl rfl rfl (g_lss rfl rfl hw (fun hw => st_mv rfl (st_gtf rfl (st_gtf rfl (st_gtf rfl (st_pick_t rfl rfl rfl (st_mv rfl (st_gtf rfl (st_gtf rfl (st_gtf rfl (st_gtf rfl (st_gtf rfl (st_pick_t rfl rfl rfl (g_endq [(0, ln eGVersion_Range p1), (10, ln eGVersion_Range p1), (11, ii (p1.length : Int)), (12, ii v2), (30, .bool true)] rfl ?_))))))))))))) (fun hw => st_mv rfl (st_g rfl (g_faddr_p rfl (st_g rfl (g_load_p rfl rfl rfl (st_g rfl (g_gtr rfl rfl hw (fun hw => st_pick_f rfl rfl rfl (st_mv rfl (st_gtf rfl (st_gtf rfl (st_gtf rfl (st_gtf rfl (st_gtf rfl (st_pick_t rfl rfl rfl (g_endq [(0, ln eGVersion_Range p1), (10, ln eGVersion_Range p1), (11, ii (p1.length : Int)), (12, ii v2), (30, .bool true)] rfl ?_))))))))) (fun hw => st_pick_f rfl rfl rfl (st_mv rfl (st_g rfl (g_faddr_p rfl (st_g rfl (g_load_p rfl rfl rfl (st_g rfl (g_faddr_p rfl (st_g rfl (g_load_p rfl rfl rfl (st_g rfl (g_gtr rfl rfl hw (fun hw => st_pick_f rfl rfl rfl (g_endq [(0, ln eGVersion_Range p1), (10, ln eGVersion_Range p1), (11, ii (p1.length : Int)), (12, ii v2), (30, .bool true)] rfl ?_)) (fun hw => st_pick_f rfl rfl rfl (g_endq [(0, ln eGVersion_Range p1), (10, ln eGVersion_Range p1), (11, ii (p1.length : Int)), (12, ii v2), (30, .bool false)] rfl ?_))))))))))))))))))))))))
    · refine s_cond_t rfl (q_reg (st_mv rfl (st_mv rfl (g_endq [(2, nl eGVersion_Range), (3, ii 1)] rfl ?_))))
      exact sc_ret (bl_r (sq_r (lo_r (bl_r (sq_r (gr (g := zg15) (ho := fun _ => []) [nl eGVersion_Range, ii 1] [ln eGVersion_Range ([] : List GVersion_Range), ii 1] hw (.inr rfl) (wr [])))))))
    · refine s_cond_t rfl (q_reg (st_mv rfl (st_mv rfl (g_endq [(2, nl eGVersion_Range), (3, ii 1)] rfl ?_))))
      exact sc_ret (bl_r (sq_r (lo_r (bl_r (sq_r (gr (g := zg15) (ho := fun _ => []) [nl eGVersion_Range, ii 1] [ln eGVersion_Range ([] : List GVersion_Range), ii 1] hw (.inr rfl) (wr [])))))))
    · refine s_cond_t rfl (q_reg (st_mv rfl (st_mv rfl (g_endq [(2, nl eGVersion_Range), (3, ii 1)] rfl ?_))))
      exact sc_ret (bl_r (sq_r (lo_r (bl_r (sq_r (gr (g := zg15) (ho := fun _ => []) [nl eGVersion_Range, ii 1] [ln eGVersion_Range ([] : List GVersion_Range), ii 1] hw (.inr rfl) (wr [])))))))
    · refine s_cond_f rfl (sc_skip (bl_n (sq_n (s_reg (g_add rfl rfl hw fun v10 hw => st_mv rfl (g_end [(0, ln eGVersion_Range p1), (10, ln eGVersion_Range p1), (11, ii (p1.length : Int)), (12, ii v10)] rfl ?_))))))
      exact lo_n ⟨v10, hw.1⟩ hw.2 (wr [])
  · refine sc_exit (sq_x (lo_x (bl_x (sq_n (q_reg (st_mv rfl (kh (hback := fun _ => (ou_arr enc_GVersion_Range (fun a => (lfc rfl (lfc rfl lfn))) rfl ou_nil)) (hres := fun _ => (rn_arr rfl)) hh (g2 := fun r11 : List (GVersion_Range) => .arr 0 0 r11.length 2) (H2 := fun r11 : List (GVersion_Range) => [GA eGVersion_Range r11]) [] [0] 0 1 (ec rfl en) hw fun r11 hw => st_mv rfl (g_endq [(0, .arr 0 0 r11.length 2)] rfl ?_))))))))
    refine q_reg (st_mv rfl (kh (hin := (ro_arr enc_GVersion_Range (fun a => (lfc rfl (lfc rfl lfn))) rfl ro_nil)) (hback := fun _ => (ou_arr enc_GVersion_Range (fun a => (lfc rfl (lfc rfl lfn))) rfl ou_nil)) hh (g2 := fun r12 : List (GVersion_Range) => .tuple []) (H2 := fun r12 : List (GVersion_Range) => [GA eGVersion_Range r12]) [0] [0] 1 0 (ec rfl (ec rfl en)) hw fun r12 hw => g_endq [(0, .arr 0 0 r11.length 2)] rfl ?_))
    refine q_reg (st_mv rfl (g_endq [(0, .arr 0 0 r11.length 2), (6, nl eGVersion_Range)] rfl ?_))
    refine sc_seq (q_reg (st_mv rfl (g_lenA rfl (st_mv rfl (g_endq [(6, nl eGVersion_Range), (36, .arr 0 0 r11.length 2), (37, ii (r11.length : Int)), (38, ii 0)] rfl ?_)))))
    refine sc_block (SC.weak (w_nilarr (A := GVersion_Range) (f := eGVersion_Range) (sz := 2) (n := 1) (h' := [GA eGVersion_Range r12, GA eGVersion_Range ([] : List GVersion_Range)]) 6 rfl rfl rfl) ?_)
    obtain ⟨I35, M36, hi, hw⟩ := hw
    refine sc_loop (X := { x : List GVersion_Range × Nat × Int // I35 x.1 x.2.1 x.2.2 }) (fun x => ([(6, .arr 0 0 x.1.2.1 2), (36, .arr 1 0 r11.length 2), (37, ii (r11.length : Int)), (38, ii x.1.2.2)], [GA eGVersion_Range x.1.1, GA eGVersion_Range r12])) (fun x => M36 x.1.1 x.1.2.1 x.1.2.2) ⟨(([] : List GVersion_Range), ([] : List GVersion_Range).length, (0 : Int)), hi⟩ (weak_ren [1, 0] (by simp) (by decide) (ro_arr enc_GVersion_Range (fun a => (lfc rfl (lfc rfl lfn))) rfl (ro_arr enc_GVersion_Range (fun a => (lfc rfl (lfc rfl lfn))) rfl ro_nil)) (re_cons rfl (rn_arr rfl) (re_cons rfl (rn_arr rfl) (re_cons rfl (.pv _ (.int _ _)) (re_cons rfl (.pv _ (.int _ _)) re_nil))))) ?_
    rintro ⟨⟨v13, v14, v15⟩, hi2⟩
    have hw := hw v13 v14 v15 hi2
    clear hi
    refine q_reg (gb_cmp rfl rfl trivial rfl hw fun v37 hw => g_endq [(6, .arr 0 0 v14 2), (36, .arr 1 0 r11.length 2), (37, ii (r11.length : Int)), (38, ii v15), (39, .bool v37)] rfl ?_)
    refine sc_seq (s_cond rfl hw (fun hw => ?_) (fun hw => ?_))
    · refine sc_skip (sq_n (sc_seq (sc_block (q_reg (g_iaA rfl rfl hw fun hw => g_ldA (f := eGVersion_Range) (q := v15) (sub := 0) (l := r12) (g := fun a38 => eGVersion_Range a38) enc_GVersion_Range rfl rfl (by decide) rfl (fun _ => rfl) hw fun a38 hw => g_alloc (n := 2) rfl rfl (g_sp (v := eGVersion_Range a38) (h' := [GA eGVersion_Range v13, GA eGVersion_Range r12, .cells [ii a38.Low, ii a38.High]]) rfl rfl rfl (g_endq [(6, .arr 0 0 v14 2), (8, .ptr 2 0), (36, .arr 1 0 r11.length 2), (37, ii (r11.length : Int)), (38, ii v15)] rfl ?_)))))))
      refine q_reg (st_mv rfl (g_lenA rfl (st_mv rfl (g_endq [(6, .arr 0 0 v14 2), (8, .ptr 2 0), (9, ii (v14 : Int)), (36, .arr 1 0 r11.length 2), (37, ii (r11.length : Int)), (38, ii v15)] rfl ?_))))
      refine sc_seq (s_dreg Tryd.mixed rfl (st_mv rfl (g_gtr rfl rfl hw (fun hw => st_mv rfl (st_g rfl (g_faddr_p rfl (st_g rfl (g_load_p rfl rfl rfl (st_g rfl (st_mv rfl (st_g rfl (st_mv rfl (st_g rfl (g_sub rfl rfl hw fun v40 hw => st_g rfl (g_iaA rfl rfl hw fun hw => st_g rfl (g_faddr_p rfl (st_g rfl (g_ldA (f := eGVersion_Range) (q := v40) (sub := 1) (l := v13) (g := fun a41 => ii a41.High) enc_GVersion_Range rfl rfl (by decide) rfl (fun _ => rfl) hw fun a41 hw => st_g rfl (g_add rfl rfl hw fun v43 hw => st_g rfl (g_leq rfl rfl hw (fun hw => st_pick_t rfl rfl rfl (st_mid (g_end [(6, .arr 0 0 v14 2), (8, .ptr 2 0), (9, ii (v14 : Int)), (36, .arr 1 0 r11.length 2), (37, ii (r11.length : Int)), (38, ii v15), (57, .bool true)] rfl ?_))) (fun hw => st_pick_t rfl rfl rfl (st_mid (g_end [(6, .arr 0 0 v14 2), (8, .ptr 2 0), (9, ii (v14 : Int)), (36, .arr 1 0 r11.length 2), (37, ii (r11.length : Int)), (38, ii v15), (57, .bool false)] rfl ?_)))))))))))))))))))) (fun hw => st_mv rfl (st_gft rfl (st_gft rfl (st_gft rfl (st_gft rfl (st_gft rfl (st_gft rfl (st_gft rfl (st_gft rfl (st_gft rfl (st_gft rfl (st_pick_f rfl rfl rfl (st_mid (g_end [(6, .arr 0 0 v14 2), (8, .ptr 2 0), (9, ii (v14 : Int)), (36, .arr 1 0 r11.length 2), (37, ii (r11.length : Int)), (38, ii v15), (57, .bool false)] rfl ?_)))))))))))))))))
      · refine sq_n (s_cond_t rfl (s_dreg Tryd.mixed rfl (st_mv rfl (st_mv rfl (g_sub rfl rfl hw fun v44 hw => st_mv rfl (st_mv rfl (g_sub rfl rfl hw fun v45 hw => g_iaA rfl rfl hw fun hw => g_faddr_p rfl (g_ldA (f := eGVersion_Range) (q := v45) (sub := 1) (l := v13) (g := fun a46 => ii a46.High) enc_GVersion_Range rfl rfl (by decide) rfl (fun _ => rfl) hw fun a46 hw => g_faddr_p rfl (g_load_p rfl rfl rfl (g_max rfl rfl hw fun v48 hw => g_iaA rfl rfl hw fun hw => g_faddr_p rfl (g_stA (q := v44) (sub := 1) (l := v13) (u := fun a => { a with High := v48 }) (v := ii v48) enc_GVersion_Range rfl rfl rfl rfl rfl (by decide) rfl (fun a => rfl) hw (fun z => [GA eGVersion_Range z, GA eGVersion_Range r12, .cells [ii a38.Low, ii a38.High]]) (fun _ => rfl) fun v49 hw => st_mid (g_end [(6, .arr 0 0 v14 2), (36, .arr 1 0 r11.length 2), (37, ii (r11.length : Int)), (38, ii v15)] rfl ?_))))))))))))
        refine bl_n (sq_n (s_reg (g_add rfl rfl hw fun v50 hw => st_mv rfl (g_end [(6, .arr 0 0 v14 2), (36, .arr 1 0 r11.length 2), (37, ii (r11.length : Int)), (38, ii v50)] rfl ?_))))
        exact lo_n ⟨(v49, v14, v50), hw.1⟩ hw.2 (weak_ren [0, 1] (by simp) (by decide) (ro_arr enc_GVersion_Range (fun a => (lfc rfl (lfc rfl lfn))) rfl (ro_arr enc_GVersion_Range (fun a => (lfc rfl (lfc rfl lfn))) rfl ro_nil)) (re_cons rfl (rn_arr rfl) (re_cons rfl (rn_arr rfl) (re_cons rfl (.pv _ (.int _ _)) (re_cons rfl (.pv _ (.int _ _)) re_nil)))))
      · refine sq_n (s_cond_f rfl (s_reg (st_mv rfl (g_load_p (v := .agg [ii a38.Low, ii a38.High]) rfl rfl rfl (g_mkl enc_GVersion_Range [(GVersion_Range.mk a38.Low a38.High)] (ec rfl en) rfl (mz mkn) (g_apB (n := 3) enc_GVersion_Range rfl rfl rfl (asrc_list enc_GVersion_Range) rfl hw (fun z => [.dead, GA eGVersion_Range r12, .cells [ii a38.Low, ii a38.High], GA eGVersion_Range z]) (fun _ => rfl) fun v52 hw => st_mv rfl (g_end [(6, .arr 3 0 v52.length 2), (36, .arr 1 0 r11.length 2), (37, ii (r11.length : Int)), (38, ii v15)] rfl ?_)))))))
        refine bl_n (sq_n (s_reg (g_add rfl rfl hw fun v53 hw => st_mv rfl (g_end [(6, .arr 3 0 v52.length 2), (36, .arr 1 0 r11.length 2), (37, ii (r11.length : Int)), (38, ii v53)] rfl ?_))))
        exact lo_n ⟨(v52, v52.length, v53), hw.1⟩ hw.2 (weak_ren [3, 1] (by simp) (by decide) (ro_arr enc_GVersion_Range (fun a => (lfc rfl (lfc rfl lfn))) rfl (ro_arr enc_GVersion_Range (fun a => (lfc rfl (lfc rfl lfn))) rfl ro_nil)) (re_cons rfl (rn_arr rfl) (re_cons rfl (rn_arr rfl) (re_cons rfl (.pv _ (.int _ _)) (re_cons rfl (.pv _ (.int _ _)) re_nil)))))
      · refine sq_n (s_cond_f rfl (s_reg (st_mv rfl (g_load_p (v := .agg [ii a38.Low, ii a38.High]) rfl rfl rfl (g_mkl enc_GVersion_Range [(GVersion_Range.mk a38.Low a38.High)] (ec rfl en) rfl (mz mkn) (g_apB (n := 3) enc_GVersion_Range rfl rfl rfl (asrc_list enc_GVersion_Range) rfl hw (fun z => [.dead, GA eGVersion_Range r12, .cells [ii a38.Low, ii a38.High], GA eGVersion_Range z]) (fun _ => rfl) fun v54 hw => st_mv rfl (g_end [(6, .arr 3 0 v54.length 2), (36, .arr 1 0 r11.length 2), (37, ii (r11.length : Int)), (38, ii v15)] rfl ?_)))))))
        refine bl_n (sq_n (s_reg (g_add rfl rfl hw fun v55 hw => st_mv rfl (g_end [(6, .arr 3 0 v54.length 2), (36, .arr 1 0 r11.length 2), (37, ii (r11.length : Int)), (38, ii v55)] rfl ?_))))
        exact lo_n ⟨(v54, v54.length, v55), hw.1⟩ hw.2 (weak_ren [3, 1] (by simp) (by decide) (ro_arr enc_GVersion_Range (fun a => (lfc rfl (lfc rfl lfn))) rfl (ro_arr enc_GVersion_Range (fun a => (lfc rfl (lfc rfl lfn))) rfl ro_nil)) (re_cons rfl (rn_arr rfl) (re_cons rfl (rn_arr rfl) (re_cons rfl (.pv _ (.int _ _)) (re_cons rfl (.pv _ (.int _ _)) re_nil)))))
    · refine sc_exit (sq_x (lo_x (bl_x (sq_n (sc_seq (q_reg (st_mv rfl (g_lenA rfl (g_gtr rfl rfl hw (fun hw => g_endq [(6, .arr 0 0 v14 2), (79, .bool true)] rfl ?_) (fun hw => g_endq [(6, .arr 0 0 v14 2), (79, .bool false)] rfl ?_))))))))))
      · refine s_cond_t rfl (q_reg (st_mv rfl (st_mv rfl (g_endq [(2, nl eGVersion_Range), (3, ii 2)] rfl ?_))))
        exact sc_ret (sq_r (gr (g := zg15) (ho := fun _ => []) [nl eGVersion_Range, ii 2] [ln eGVersion_Range ([] : List GVersion_Range), ii 2] hw (.inr rfl) (wr [])))
      · refine s_cond_f rfl (sc_skip (sq_n (q_reg (st_mv rfl (st_mv rfl (st_mv rfl (g_endq [(2, .arr 0 0 v14 2), (3, ii 0)] rfl ?_)))))))
        exact sc_ret (gr (g := zg15) (ho := fun _ => []) [.arr 0 0 v14 2, ii 0] [ln eGVersion_Range v13, ii 0] hw.2 (.inr rfl) ((w_freeze (l := v13) (h' := [.dead, GA eGVersion_Range r12]) 0 enc_GVersion_Range rfl hw.1 rfl rfl).trans (wr [])))
def hc16 : C := (.seq (.reg [oo 2 (.mv (.c (.int .i64 0)))] [0]) (.seq (.seq (.reg [mo 5 0, oo 6 (.len false 5), oo 7 (.bin .gtr 6 (.c (.int .i64 50)))] [0, 7]) (.cond 7 (.seq (.reg [oo 2 (.mv (.c (.int .i64 2)))] [2]) .ret) .skip)) (.seq (.seq (.reg [mo 8 0, oo 9 (.len false 8), oo 10 (.mv (.c (.int .i64 0)))] [0, 8, 9, 10]) (.block 0 (.loop (.seq (.reg [oo 11 (.bin .lss 10 9)] [0, 8, 9, 10, 11]) (.seq (.cond 11 .skip (.exit 0)) (.seq (.block 1 (.seq (.reg [mo 12 10, oo 13 (.iaddr 2 8 10), oo 14 (.load (some 2) 13), oo 4 (.alloc none [(.int .i64 0), (.int .i64 0)]), mo 3 12, os (.store 2 4 14)] [0, 3, 4, 8, 9, 10]) (.seq (.seq (.reg [oo 15 (.faddr 0 1 4), oo 16 (.load none 15), oo 17 (.bin .lss 16 (.c (.int .i64 1))), mo 18 17, og 19 (.faddr 1 1 4) 18 false, og 20 (.load none 19) 18 false, og 21 (.bin .gtr 20 (.c (.int .i64 9999))) 18 false, oo 22 (.pick 18 (.c (.bool true)) 21), mo 23 22, og 24 (.faddr 0 1 4) 23 false, og 25 (.load none 24) 23 false, og 26 (.faddr 1 1 4) 23 false, og 27 (.load none 26) 23 false, og 28 (.bin .gtr 25 27) 23 false, oo 29 (.pick 23 (.c (.bool true)) 28)] [0, 3, 4, 8, 9, 10, 29]) (.cond 29 (.seq (.reg [oo 2 (.mv (.c (.int .i64 1)))] [2]) .ret) .skip)) (.seq (.dreg [mo 30 3, oo 31 (.bin .gtr 30 (.c (.int .i64 0))), mo 32 31, og 33 (.faddr 0 1 4) 32 true, og 34 (.load none 33) 32 true, og 35 (.mv 0) 32 true, og 36 (.mv 3) 32 true, og 37 (.bin .sub 36 (.c (.int .i64 1))) 32 true, og 38 (.iaddr 2 35 37) 32 true, og 39 (.faddr 1 1 38) 32 true, og 40 (.load none 39) 32 true, og 41 (.bin .add 40 (.c (.int .i64 1))) 32 true, og 42 (.bin .leq 34 41) 32 true, oo 43 (.pick 32 42 (.c (.bool false)))] [] 0 [0, 8, 9, 10, 43]) (.cond 43 (.seq (.reg [oo 2 (.mv (.c (.int .i64 21)))] [2]) .ret) .skip))))) (.reg [oo 44 (.bin .add 10 (.c (.int .i64 1))), mo 10 44] [0, 8, 9, 10]))))))) (.seq (.reg [oo 2 (.mv (.c (.int .i64 0)))] [2]) .ret))))
def ha16 : Ann := ⟨[], [], [(0, [0]), (1, [0, 7]), (2, [2]), (3, [0, 8, 9, 10]), (4, [0, 8, 9, 10, 11]), (5, [0, 3, 4, 8, 9, 10]), (6, [0, 3, 4, 8, 9, 10, 29]), (7, [2]), (8, [0, 8, 9, 10, 43]), (9, [2]), (10, [0, 8, 9, 10]), (11, [2])], []⟩
theorem hk16 : comp Tryd.prog ha16 Tryd.f16.ntmps Tryd.f16.code = some hc16 := by kernel_rfl
def w16 (p1 : List (GVersion_Range)) (Q : Int → Prop) : Prop :=
  (((50 : Int) < (p1.length : Int) → Q (2 : Int)) ∧ ((p1.length : Int) ≤ (50 : Int) → ∃ (I10 : Int → Prop) (M11 : Int → Nat), I10 (0 : Int) ∧ ∀ (v2 : Int), I10 v2 → ∀ v12 : Bool, v12 = decide (v2 < (p1.length : Int)) → ((v12 = true → (0 ≤ v2 ∧ v2 < (p1.length : Int)) ∧ ∀ a13 : GVersion_Range, p1[(v2 : Int).toNat]? = some a13 → ((a13.Low < (1 : Int) → Q (1 : Int)) ∧ ((1 : Int) ≤ a13.Low → (((9999 : Int) < a13.High → Q (1 : Int)) ∧ (a13.High ≤ (9999 : Int) → ((a13.High < a13.Low → Q (1 : Int)) ∧ (a13.Low ≤ a13.High → (((0 : Int) < v2 → (R64 (v2 - (1 : Int))) ∧ ∀ v14 : Int, v14 = v2 - (1 : Int) → (0 ≤ v14 ∧ v14 < (p1.length : Int)) ∧ ∀ a15 : GVersion_Range, p1[(v14 : Int).toNat]? = some a15 → (R64 (a15.High + (1 : Int))) ∧ ∀ v16 : Int, v16 = a15.High + (1 : Int) → ((a13.Low ≤ v16 → Q (21 : Int)) ∧ (v16 < a13.Low → (R64 (v2 + (1 : Int))) ∧ ∀ v17 : Int, v17 = v2 + (1 : Int) → (I10 v17 ∧ M11 v17 < M11 v2)))) ∧ (v2 ≤ (0 : Int) → (R64 (v2 + (1 : Int))) ∧ ∀ v18 : Int, v18 = v2 + (1 : Int) → (I10 v18 ∧ M11 v18 < M11 v2)))))))))) ∧ (v12 = false → Q (0 : Int)))))
theorem ok16 (p1 : List (GVersion_Range)) (r : Int) (hw : w16 p1 fun r' => r' = r) : sp16 p1 r := by
  refine zf (rs := [.t 2]) (g := zg16) Tryd.func16 hk16 ?_
  unfold w16 at hw
  show SC Tryd.prog Tryd.f16.ntmps 0 hc16 _ [(0, ln eGVersion_Range p1)] []
  unfold hc16
  refine q_reg (st_mv rfl (g_endq [(0, ln eGVersion_Range p1)] rfl ?_))
  refine sc_seq (q_reg (st_mv rfl (g_len rfl (g_gtr rfl rfl hw (fun hw => g_endq [(0, ln eGVersion_Range p1), (7, .bool true)] rfl ?_) (fun hw => g_endq [(0, ln eGVersion_Range p1), (7, .bool false)] rfl ?_)))))
  · refine s_cond_t rfl (q_reg (st_mv rfl (g_endq [(2, ii 2)] rfl ?_)))
    exact sc_ret (sq_r (gr1 (g := zg16) (ho := fun _ => []) [ii 2] hw (.inr rfl) ws))
  · refine s_cond_f rfl (sc_skip (sq_n (sc_seq (q_reg (st_mv rfl (g_len rfl (st_mv rfl (g_endq [(0, ln eGVersion_Range p1), (8, ln eGVersion_Range p1), (9, ii (p1.length : Int)), (10, ii 0)] rfl ?_))))))))
    refine sc_block ?_
    obtain ⟨I10, M11, hi, hw⟩ := hw
    refine sc_loop (X := { x : Int // I10 x }) (fun x => ([(0, ln eGVersion_Range p1), (8, ln eGVersion_Range p1), (9, ii (p1.length : Int)), (10, ii x.1)], [])) (fun x => M11 x.1) ⟨(0 : Int), hi⟩ ws ?_
    rintro ⟨v2, hi2⟩
    have hw := hw v2 hi2
    clear hi
    refine q_reg (gb_cmp rfl rfl trivial rfl hw fun v12 hw => g_endq [(0, ln eGVersion_Range p1), (8, ln eGVersion_Range p1), (9, ii (p1.length : Int)), (10, ii v2), (11, .bool v12)] rfl ?_)
    refine sc_seq (s_cond rfl hw (fun hw => ?_) (fun hw => ?_))
    · refine sc_skip (sq_n (sc_seq (sc_block (q_reg (st_mv rfl (g_iaddr enc_GVersion_Range rfl rfl hw fun a13 hw => st_load_r (v := eGVersion_Range a13) rfl rfl (g_alloc (n := 0) rfl rfl (st_mv rfl (g_sp (v := eGVersion_Range a13) (h' := [.cells [ii a13.Low, ii a13.High]]) rfl rfl rfl (g_endq [(0, ln eGVersion_Range p1), (3, ii v2), (4, .ptr 0 0), (8, ln eGVersion_Range p1), (9, ii (p1.length : Int)), (10, ii v2)] rfl ?_))))))))))
      refine sc_seq (q_reg (g_faddr_p rfl (g_load_p rfl rfl rfl (g_lss rfl rfl hw (fun hw => st_mv rfl (st_gtf rfl (st_gtf rfl (st_gtf rfl (st_pick_t rfl rfl rfl (st_mv rfl (st_gtf rfl (st_gtf rfl (st_gtf rfl (st_gtf rfl (st_gtf rfl (st_pick_t rfl rfl rfl (g_endq [(0, ln eGVersion_Range p1), (3, ii v2), (4, .ptr 0 0), (8, ln eGVersion_Range p1), (9, ii (p1.length : Int)), (10, ii v2), (29, .bool true)] rfl ?_))))))))))))) (fun hw => st_mv rfl (st_g rfl (g_faddr_p rfl (st_g rfl (g_load_p rfl rfl rfl (st_g rfl (g_gtr rfl rfl hw (fun hw => st_pick_f rfl rfl rfl (st_mv rfl (st_gtf rfl (st_gtf rfl (st_gtf rfl (st_gtf rfl (st_gtf rfl (st_pick_t rfl rfl rfl (g_endq [(0, ln eGVersion_Range p1), (3, ii v2), (4, .ptr 0 0), (8, ln eGVersion_Range p1), (9, ii (p1.length : Int)), (10, ii v2), (29, .bool true)] rfl ?_))))))))) (fun hw => st_pick_f rfl rfl rfl (st_mv rfl (st_g rfl (g_faddr_p rfl (st_g rfl (g_load_p rfl rfl rfl (st_g rfl (g_faddr_p rfl (st_g rfl (g_load_p rfl rfl rfl (st_g rfl (g_gtr rfl rfl hw (fun hw => st_pick_f rfl rfl rfl (g_endq [(0, ln eGVersion_Range p1), (3, ii v2), (4, .ptr 0 0), (8, ln eGVersion_Range p1), (9, ii (p1.length : Int)), (10, ii v2), (29, .bool true)] rfl ?_)) (fun hw => st_pick_f rfl rfl rfl (g_endq [(0, ln eGVersion_Range p1), (3, ii v2), (4, .ptr 0 0), (8, ln eGVersion_Range p1), (9, ii (p1.length : Int)), (10, ii v2), (29, .bool false)] rfl ?_)))))))))))))))))))))))))
      · refine s_cond_t rfl (q_reg (st_mv rfl (g_endq [(2, ii 1)] rfl ?_)))
        exact sc_ret (sq_r (bl_r (sq_r (lo_r (bl_r (sq_r (gr1 (g := zg16) (ho := fun _ => []) [ii 1] hw (.inr rfl) (wr []))))))))
      · refine s_cond_t rfl (q_reg (st_mv rfl (g_endq [(2, ii 1)] rfl ?_)))
        exact sc_ret (sq_r (bl_r (sq_r (lo_r (bl_r (sq_r (gr1 (g := zg16) (ho := fun _ => []) [ii 1] hw (.inr rfl) (wr []))))))))
      · refine s_cond_t rfl (q_reg (st_mv rfl (g_endq [(2, ii 1)] rfl ?_)))
        exact sc_ret (sq_r (bl_r (sq_r (lo_r (bl_r (sq_r (gr1 (g := zg16) (ho := fun _ => []) [ii 1] hw (.inr rfl) (wr []))))))))
      · refine s_cond_f rfl (sc_skip (sq_n (sc_seq (s_dreg Tryd.mixed rfl (st_mv rfl (g_gtr rfl rfl hw (fun hw => st_mv rfl (st_g rfl (g_faddr_p rfl (st_g rfl (g_load_p rfl rfl rfl (st_g rfl (st_mv rfl (st_g rfl (st_mv rfl (st_g rfl (g_sub rfl rfl hw fun v14 hw => st_g rfl (g_iaddr enc_GVersion_Range rfl rfl hw fun a15 hw => st_g rfl (g_faddr_r (cs := [ii a15.Low, ii a15.High]) rfl (lt_of_blt rfl) (st_g rfl (st_load_r rfl rfl (st_g rfl (g_add rfl rfl hw fun v16 hw => st_g rfl (g_leq rfl rfl hw (fun hw => st_pick_t rfl rfl rfl (st_mid (g_end [(0, ln eGVersion_Range p1), (8, ln eGVersion_Range p1), (9, ii (p1.length : Int)), (10, ii v2), (43, .bool true)] rfl ?_))) (fun hw => st_pick_t rfl rfl rfl (st_mid (g_end [(0, ln eGVersion_Range p1), (8, ln eGVersion_Range p1), (9, ii (p1.length : Int)), (10, ii v2), (43, .bool false)] rfl ?_))))))))))))))))))))) (fun hw => st_mv rfl (st_gft rfl (st_gft rfl (st_gft rfl (st_gft rfl (st_gft rfl (st_gft rfl (st_gft rfl (st_gft rfl (st_gft rfl (st_gft rfl (st_pick_f rfl rfl rfl (st_mid (g_end [(0, ln eGVersion_Range p1), (8, ln eGVersion_Range p1), (9, ii (p1.length : Int)), (10, ii v2), (43, .bool false)] rfl ?_))))))))))))))))))))
        · refine sq_n (s_cond_t rfl (q_reg (st_mv rfl (g_endq [(2, ii 21)] rfl ?_))))
          exact sc_ret (bl_r (sq_r (lo_r (bl_r (sq_r (gr1 (g := zg16) (ho := fun _ => []) [ii 21] hw (.inr rfl) (wr [])))))))
        · refine sq_n (s_cond_f rfl (sc_skip (bl_n (sq_n (s_reg (g_add rfl rfl hw fun v17 hw => st_mv rfl (g_end [(0, ln eGVersion_Range p1), (8, ln eGVersion_Range p1), (9, ii (p1.length : Int)), (10, ii v17)] rfl ?_)))))))
          exact lo_n ⟨v17, hw.1⟩ hw.2 (wr [])
        · refine sq_n (s_cond_f rfl (sc_skip (bl_n (sq_n (s_reg (g_add rfl rfl hw fun v18 hw => st_mv rfl (g_end [(0, ln eGVersion_Range p1), (8, ln eGVersion_Range p1), (9, ii (p1.length : Int)), (10, ii v18)] rfl ?_)))))))
          exact lo_n ⟨v18, hw.1⟩ hw.2 (wr [])
    · refine sc_exit (sq_x (lo_x (bl_x (sq_n (q_reg (st_mv rfl (g_endq [(2, ii 0)] rfl ?_)))))))
      exact sc_ret (gr1 (g := zg16) (ho := fun _ => []) [ii 0] hw (.inr rfl) ws)
def hc20 : C := (.seq (.reg [oo 4 (.mv (.c (.str []))), oo 5 (.mv (.c (.str []))), oo 6 (.mv (.c (.bool false)))] [0, 1]) (.seq (.reg [mo 7 0, mo 8 1, co 9 (.call 41 [7, 8]), oo 10 (.extract 9 0), oo 11 (.extract 9 1), oo 12 (.extract 9 2), mo 4 10, mo 5 11, mo 6 12] [4, 5, 6]) .ret))
def ha20 : Ann := ⟨[], [], [(0, [0, 1]), (1, [4, 5, 6])], []⟩
theorem hk20 : comp Tryd.prog ha20 Tryd.f20.ntmps Tryd.f20.code = some hc20 := by kernel_rfl
def w20 (p1 : List UInt8) (p2 : List UInt8) (Q : List UInt8 × List UInt8 × Bool → Prop) : Prop :=
  ∃ r3 : List UInt8 × List UInt8 × Bool, sp41 p1 p2 r3 ∧ Q (r3.1, r3.2.1, r3.2.2)
theorem ok20 (p1 : List UInt8) (p2 : List UInt8) (r : List UInt8 × List UInt8 × Bool) (hw : w20 p1 p2 fun r' => r' = r) : sp20 p1 p2 r := by
  refine zf (rs := [.t 4, .t 5, .t 6]) (g := zg20) Tryd.func20 hk20 ?_
  unfold w20 at hw
  show SC Tryd.prog Tryd.f20.ntmps 0 hc20 _ [(0, .str p1), (1, .str p2)] []
  unfold hc20
  refine q_reg (st_mv rfl (st_mv rfl (st_mv rfl (g_endq [(0, .str p1), (1, .str p2)] rfl ?_))))
  refine q_reg (st_mv rfl (st_mv rfl (k_call dh (ec rfl (ec rfl en)) rfl hw fun r3 hw => st_extract rfl rfl (st_extract rfl rfl (st_extract rfl rfl (st_mv rfl (st_mv rfl (st_mv rfl (g_endq [(4, .str r3.1), (5, .str r3.2.1), (6, .bool r3.2.2)] rfl ?_)))))))))
  exact sc_ret (gr1 (g := zg20) (ho := fun _ => []) [.str r3.1, .str r3.2.1, .bool r3.2.2] hw (.inr rfl) ws)
def hc23 : C := (.seq (.reg [oo 2 (.box none 2 0), oo 3 (.mv (.c (.bool false)))] [1, 2]) (.seq (.reg [oo 4 (.faddr 0 1 2), oo 5 (.load none 4), oo 6 (.load none 1), oo 7 (.bin .leq 5 6), mo 8 7, og 9 (.load none 1) 8 true, og 10 (.faddr 1 1 2) 8 true, og 11 (.load none 10) 8 true, og 12 (.bin .leq 9 11) 8 true, oo 13 (.pick 8 12 (.c (.bool false))), mo 3 13] [3]) .ret))
def ha23 : Ann := ⟨[], [], [(0, [1, 2]), (1, [3])], []⟩
theorem hk23 : comp Tryd.prog ha23 Tryd.f23.ntmps Tryd.f23.code = some hc23 := by kernel_rfl
def w23 (p1 : GVersion_Range) (p2 : Int) (Q : Bool × Int → Prop) : Prop :=
  ((p1.Low ≤ p2 → ∀ v3 : Bool, v3 = decide (p2 ≤ p1.High) → Q (v3, p2)) ∧ (p2 < p1.Low → Q (false, p2)))
theorem ok23 (p1 : GVersion_Range) (p2 : Int) (r : Bool × Int) (hw : w23 p1 p2 fun r' => r' = r) : sp23 p1 p2 r := by
  refine zh (rs := [.t 3]) Tryd.func23 hk23 ?_
  unfold w23 at hw
  show SC Tryd.prog Tryd.f23.ntmps 1 hc23 _ [(0, eGVersion_Range p1), (1, .ptr 0 0)] [.cells [ii p2]]
  unfold hc23
  refine q_reg (g_box (v := eGVersion_Range p1) rfl rfl rfl (n := 1) rfl rfl (st_mv rfl (g_endq [(1, .ptr 0 0), (2, .ptr 1 0)] rfl ?_)))
  refine q_reg (g_faddr_p rfl (g_load_p rfl rfl rfl (g_load_p rfl rfl rfl (g_leq rfl rfl hw (fun hw => st_mv rfl (st_g rfl (g_load_p rfl rfl rfl (st_g rfl (g_faddr_p rfl (st_g rfl (g_load_p rfl rfl rfl (st_g rfl (gb_cmp rfl rfl trivial rfl hw fun v3 hw => st_pick_t rfl rfl rfl (st_mv rfl (g_endq [(3, .bool v3)] rfl ?_))))))))))) (fun hw => st_mv rfl (st_gft rfl (st_gft rfl (st_gft rfl (st_gft rfl (st_pick_f rfl rfl rfl (st_mv rfl (g_endq [(3, .bool false)] rfl ?_))))))))))))
  · exact sc_ret (gr1 (g := zg23) (ho := zo23) [.bool v3] hw (.inr rfl) (wrm 1 [0]))
  · exact sc_ret (gr1 (g := zg23) (ho := zo23) [.bool false] hw (.inr rfl) (wrm 1 [0]))
def hc33m : C := (.seq (.reg [oo 2 (.mv (.c (.list [] .full)))] [0]) (.seq (.seq (.reg [mo 3 0, oo 4 (.eqv false .slice 3 (.c .nilslice))] [0, 4]) (.cond 4 (.seq (.reg [oo 2 (.mv (.c (.list [] .full)))] [2]) .ret) .skip)) (.seq (.reg [oo 5 (.mklist 2 []), mo 6 0, oo 7 (.appendarr 2 16 5 6), mo 2 7] [2]) .ret)))
def ha33m : Ann := ⟨[(3, 2)], [], [(0, [0]), (1, [0, 4]), (2, [2]), (3, [2])], []⟩
theorem hk33m : comp Tryd.prog ha33m Tryd.f33.ntmps Tryd.f33.code = some hc33m := by kernel_rfl
def w33m (p1 : List (GVersion_Range)) (Q : List (GVersion_Range) → Prop) : Prop :=
  ((p1.length = 0 → Q ([] : List GVersion_Range)) ∧ ((p1.length * 16 ≤ 140737488355328) ∧ ∀ v2 : List GVersion_Range, v2 = p1 → Q v2))
theorem ok33m (p1 : List (GVersion_Range)) (r : List (GVersion_Range)) (hw : w33m p1 fun r' => r' = r) : sp33m p1 r := by
  refine zh (rs := [.t 2]) Tryd.func33 hk33m ?_
  unfold w33m at hw
  show SC Tryd.prog Tryd.f33.ntmps 0 hc33m _ [(0, ln eGVersion_Range p1)] []
  unfold hc33m
  refine q_reg (st_mv rfl (g_endq [(0, ln eGVersion_Range p1)] rfl ?_))
  refine sc_seq (q_reg (st_mv rfl (g_eqn2 rfl rfl hw (fun hw => g_endq [(0, ln eGVersion_Range p1), (4, .bool true)] rfl ?_) (fun hw => g_endq [(0, ln eGVersion_Range p1), (4, .bool false)] rfl ?_))))
  · refine s_cond_t rfl (q_reg (st_mv rfl (g_endq [(2, nl eGVersion_Range)] rfl ?_)))
    exact sc_ret (sq_r (gr (g := zg33m) (ho := zo33m) [nl eGVersion_Range] [.arr 0 0 (([] : List GVersion_Range).length) 2] hw (.inr rfl) ((w_nilarr (A := GVersion_Range) (f := eGVersion_Range) (sz := 2) (n := 0) (h' := [GA eGVersion_Range ([] : List GVersion_Range)]) 0 rfl rfl rfl).trans ws)))
  · refine s_cond_f rfl (sc_skip (sq_n (q_reg (g_mkl enc_GVersion_Range [] en rfl mkn (st_mv rfl (g_apB0 (n := 0) (f := eGVersion_Range) rfl rfl (asrc_list enc_GVersion_Range) rfl hw fun v2 hw => st_mv rfl (g_endq [(2, .arr 0 0 v2.length 2)] rfl ?_)))))))
    exact sc_ret (gr1 (g := zg33m) (ho := zo33m) [.arr 0 0 v2.length 2] hw (.inr rfl) ws)
def hc35 : C := (.seq (.reg [oo 2 (.box none 2 0), oo 3 (.box none 2 1), oo 4 (.mv (.c (.int .i64 0)))] [2, 3]) (.seq (.dreg [oo 5 (.faddr 0 1 2), oo 6 (.load none 5), oo 7 (.faddr 0 1 3), oo 8 (.load none 7), co 9 (.call 37 [6, 8]), oo 10 (.faddr 1 1 2), oo 11 (.load none 10), oo 12 (.faddr 1 1 3), oo 13 (.load none 12), co 14 (.call 37 [11, 13]), oo 15 (.mklist 1 [9, 14]), co 16 (.call 36 [15]), mo 4 16] [] 0 [4]) .ret))
def ha35 : Ann := ⟨[], [], [(0, [2, 3]), (1, [4])], []⟩
theorem hk35 : comp Tryd.prog ha35 Tryd.f35.ntmps Tryd.f35.code = some hc35 := by kernel_rfl
def w35 (p1 : GVersion_Range) (p2 : GVersion_Range) (Q : Int → Prop) : Prop :=
  ∃ r3 : Int, sp37 p1.Low p2.Low r3 ∧ ∃ r4 : Int, sp37 p1.High p2.High r4 ∧ ∃ r5 : Int, sp36 ([r3, r4] : List Int) r5 ∧ Q r5
theorem ok35 (p1 : GVersion_Range) (p2 : GVersion_Range) (r : Int) (hw : w35 p1 p2 fun r' => r' = r) : sp35 p1 p2 r := by
  refine zf (rs := [.t 4]) (g := zg35) Tryd.func35 hk35 ?_
  unfold w35 at hw
  show SC Tryd.prog Tryd.f35.ntmps 0 hc35 _ [(0, eGVersion_Range p1), (1, eGVersion_Range p2)] []
  unfold hc35
  refine q_reg (g_box (v := eGVersion_Range p1) rfl rfl rfl (n := 0) rfl rfl (g_box (v := eGVersion_Range p2) rfl rfl rfl (n := 1) rfl rfl (st_mv rfl (g_endq [(2, .ptr 0 0), (3, .ptr 1 0)] rfl ?_))))
  refine sc_seq (s_dreg Tryd.mixed rfl (g_faddr_p rfl (g_load_p rfl rfl rfl (g_faddr_p rfl (g_load_p rfl rfl rfl (k_call dd (ec rfl (ec rfl en)) rfl hw fun r3 hw => g_faddr_p rfl (g_load_p rfl rfl rfl (g_faddr_p rfl (g_load_p rfl rfl rfl (k_call dd (ec rfl (ec rfl en)) rfl hw fun r4 hw => g_mkl (enc_int .i64) [r3, r4] (ec rfl (ec rfl en)) rfl (mz (mz mkn)) (k_call dd (ec rfl en) rfl hw fun r5 hw => st_mv rfl (st_mid (g_end [(4, ii r5)] rfl ?_)))))))))))))
  exact sq_n (sc_ret (gr1 (g := zg35) (ho := fun _ => []) [ii r5] hw (.inr rfl) (wr [])))
def hc36 : C := (.seq (.reg [oo 2 (.mv (.c (.int .i64 0)))] [0]) (.seq (.reg [oo 3 (.mv (.c (.int .i64 0)))] [0, 3]) (.seq (.seq (.reg [mo 6 0, oo 7 (.len false 6), oo 8 (.mv (.c (.int .i64 0)))] [3, 6, 7, 8]) (.block 0 (.loop (.seq (.reg [oo 9 (.bin .lss 8 7)] [3, 6, 7, 8, 9]) (.seq (.cond 9 .skip (.exit 0)) (.seq (.block 1 (.seq (.reg [oo 10 (.iaddr 1 6 8), oo 11 (.load none 10), mo 5 11] [3, 5, 6, 7, 8]) (.seq (.reg [mo 12 5, mo 13 3, oo 14 (.eqv true .int 12 13)] [3, 5, 6, 7, 8, 14]) (.cond 14 (.seq (.reg [mo 15 5, mo 2 15] [2]) .ret) .skip)))) (.reg [oo 16 (.bin .add 8 (.c (.int .i64 1))), mo 8 16] [3, 6, 7, 8]))))))) (.seq (.reg [mo 17 3, mo 2 17] [2]) .ret))))
def ha36 : Ann := ⟨[], [], [(0, [0]), (1, [0, 3]), (2, [3, 6, 7, 8]), (3, [3, 6, 7, 8, 9]), (4, [3, 5, 6, 7, 8]), (5, [3, 5, 6, 7, 8, 14]), (6, [2]), (7, [3, 6, 7, 8]), (8, [2])], []⟩
theorem hk36 : comp Tryd.prog ha36 Tryd.f36.ntmps Tryd.f36.code = some hc36 := by kernel_rfl
def w36 (p1 : List (Int)) (Q : Int → Prop) : Prop :=
  ∃ (I6 : Int → Prop) (M7 : Int → Nat), I6 (0 : Int) ∧ ∀ (v2 : Int), I6 v2 → ∀ v8 : Bool, v8 = decide (v2 < (p1.length : Int)) → ((v8 = true → (0 ≤ v2 ∧ v2 < (p1.length : Int)) ∧ ∀ a9 : Int, p1[(v2 : Int).toNat]? = some a9 → ((a9 ≠ (0 : Int) → Q a9) ∧ (a9 = (0 : Int) → (R64 (v2 + (1 : Int))) ∧ ∀ v10 : Int, v10 = v2 + (1 : Int) → (I6 v10 ∧ M7 v10 < M7 v2)))) ∧ (v8 = false → Q (0 : Int)))
theorem ok36 (p1 : List (Int)) (r : Int) (hw : w36 p1 fun r' => r' = r) : sp36 p1 r := by
  refine zf (rs := [.t 2]) (g := zg36) Tryd.func36 hk36 ?_
  unfold w36 at hw
  show SC Tryd.prog Tryd.f36.ntmps 0 hc36 _ [(0, ln (eInt .i64) p1)] []
  unfold hc36
  refine q_reg (st_mv rfl (g_endq [(0, ln (eInt .i64) p1)] rfl ?_))
  refine q_reg (st_mv rfl (g_endq [(0, ln (eInt .i64) p1), (3, ii 0)] rfl ?_))
  refine sc_seq (q_reg (st_mv rfl (g_len rfl (st_mv rfl (g_endq [(3, ii 0), (6, ln (eInt .i64) p1), (7, ii (p1.length : Int)), (8, ii 0)] rfl ?_)))))
  refine sc_block ?_
  obtain ⟨I6, M7, hi, hw⟩ := hw
  refine sc_loop (X := { x : Int // I6 x }) (fun x => ([(3, ii 0), (6, ln (eInt .i64) p1), (7, ii (p1.length : Int)), (8, ii x.1)], [])) (fun x => M7 x.1) ⟨(0 : Int), hi⟩ ws ?_
  rintro ⟨v2, hi2⟩
  have hw := hw v2 hi2
  clear hi
  refine q_reg (gb_cmp rfl rfl trivial rfl hw fun v8 hw => g_endq [(3, ii 0), (6, ln (eInt .i64) p1), (7, ii (p1.length : Int)), (8, ii v2), (9, .bool v8)] rfl ?_)
  refine sc_seq (s_cond rfl hw (fun hw => ?_) (fun hw => ?_))
  · refine sc_skip (sq_n (sc_seq (sc_block (q_reg (g_iaddr (enc_int .i64) rfl rfl hw fun a9 hw => st_load_r rfl rfl (st_mv rfl (g_endq [(3, ii 0), (5, ii a9), (6, ln (eInt .i64) p1), (7, ii (p1.length : Int)), (8, ii v2)] rfl ?_)))))))
    refine q_reg (st_mv rfl (st_mv rfl (g_nei rfl rfl hw (fun hw => g_endq [(3, ii 0), (5, ii a9), (6, ln (eInt .i64) p1), (7, ii (p1.length : Int)), (8, ii v2), (14, .bool true)] rfl ?_) (fun hw => g_endq [(3, ii 0), (5, ii a9), (6, ln (eInt .i64) p1), (7, ii (p1.length : Int)), (8, ii v2), (14, .bool false)] rfl ?_))))
    · refine s_cond_t rfl (q_reg (st_mv rfl (st_mv rfl (g_endq [(2, ii a9)] rfl ?_))))
      exact sc_ret (bl_r (sq_r (lo_r (bl_r (sq_r (gr1 (g := zg36) (ho := fun _ => []) [ii a9] hw (.inr rfl) ws))))))
    · refine s_cond_f rfl (sc_skip (bl_n (sq_n (s_reg (g_add rfl rfl hw fun v10 hw => st_mv rfl (g_end [(3, ii 0), (6, ln (eInt .i64) p1), (7, ii (p1.length : Int)), (8, ii v10)] rfl ?_))))))
      exact lo_n ⟨v10, hw.1⟩ hw.2 ws
  · refine sc_exit (sq_x (lo_x (bl_x (sq_n (q_reg (st_mv rfl (st_mv rfl (g_endq [(2, ii 0)] rfl ?_))))))))
    exact sc_ret (gr1 (g := zg36) (ho := fun _ => []) [ii 0] hw (.inr rfl) ws)
def hc37 : C := (.seq (.reg [oo 4 (.mv (.c (.int .i64 0)))] [0, 1]) (.seq (.reg [mo 7 0, co 8 (.call 56 [7]), mo 5 8] [0, 1, 5]) (.seq (.reg [mo 9 1, co 10 (.call 56 [9]), mo 6 10] [0, 1, 5, 6]) (.seq (.seq (.reg [mo 11 5] [0, 1, 6, 11]) (.cond 11 (.seq (.seq (.reg [mo 12 6] [12]) (.cond 12 (.seq (.reg [oo 4 (.mv (.c (.int .i64 0)))] [4]) .ret) .skip)) (.seq (.reg [oo 4 (.mv (.c (.int .i64 (-1))))] [4]) .ret)) .skip)) (.seq (.seq (.reg [mo 13 6] [0, 1, 13]) (.cond 13 (.seq (.reg [oo 4 (.mv (.c (.int .i64 1)))] [4]) .ret) .skip)) (.seq (.seq (.reg [mo 14 0, mo 15 1, oo 16 (.bin .lss 14 15)] [0, 1, 16]) (.cond 16 (.seq (.reg [oo 4 (.mv (.c (.int .i64 (-1))))] [4]) .ret) .skip)) (.seq (.seq (.reg [mo 17 0, mo 18 1, oo 19 (.bin .gtr 17 18)] [19]) (.cond 19 (.seq (.reg [oo 4 (.mv (.c (.int .i64 1)))] [4]) .ret) .skip)) (.seq (.reg [oo 4 (.mv (.c (.int .i64 0)))] [4]) .ret))))))))
def ha37 : Ann := ⟨[], [], [(0, [0, 1]), (1, [0, 1, 5]), (2, [0, 1, 5, 6]), (3, [0, 1, 6, 11]), (4, [12]), (5, [4]), (6, [4]), (7, [0, 1, 13]), (8, [4]), (9, [0, 1, 16]), (10, [4]), (11, [19]), (12, [4]), (13, [4])], []⟩
theorem hk37 : comp Tryd.prog ha37 Tryd.f37.ntmps Tryd.f37.code = some hc37 := by kernel_rfl
def w37 (p1 : Int) (p2 : Int) (Q : Int → Prop) : Prop :=
  ∃ r3 : Bool, sp56 p1 r3 ∧ ∃ r4 : Bool, sp56 p2 r4 ∧ ((r3 = true → ((r4 = true → Q (0 : Int)) ∧ (r4 = false → Q (-1 : Int)))) ∧ (r3 = false → ((r4 = true → Q (1 : Int)) ∧ (r4 = false → ((p1 < p2 → Q (-1 : Int)) ∧ (p2 ≤ p1 → ((p2 < p1 → Q (1 : Int)) ∧ (p1 ≤ p2 → Q (0 : Int)))))))))
theorem ok37 (p1 : Int) (p2 : Int) (r : Int) (hw : w37 p1 p2 fun r' => r' = r) : sp37 p1 p2 r := by
  refine zf (rs := [.t 4]) (g := zg37) Tryd.func37 hk37 ?_
  unfold w37 at hw
  show SC Tryd.prog Tryd.f37.ntmps 0 hc37 _ [(0, ii p1), (1, ii p2)] []
  unfold hc37
  refine q_reg (st_mv rfl (g_endq [(0, ii p1), (1, ii p2)] rfl ?_))
  refine q_reg (st_mv rfl (k_call dh (ec rfl en) rfl hw fun r3 hw => st_mv rfl (g_endq [(0, ii p1), (1, ii p2), (5, .bool r3)] rfl ?_)))
  refine q_reg (st_mv rfl (k_call dh (ec rfl en) rfl hw fun r4 hw => st_mv rfl (g_endq [(0, ii p1), (1, ii p2), (5, .bool r3), (6, .bool r4)] rfl ?_)))
  refine sc_seq (q_reg (st_mv rfl (g_endq [(0, ii p1), (1, ii p2), (6, .bool r4), (11, .bool r3)] rfl ?_)))
  refine s_cond rfl hw (fun hw => ?_) (fun hw => ?_)
  · refine sc_seq (q_reg (st_mv rfl (g_endq [(12, .bool r4)] rfl ?_)))
    refine s_cond rfl hw (fun hw => ?_) (fun hw => ?_)
    · refine q_reg (st_mv rfl (g_endq [(4, ii 0)] rfl ?_))
      exact sc_ret (sq_r (sq_r (gr1 (g := zg37) (ho := fun _ => []) [ii 0] hw (.inr rfl) ws)))
    · refine sc_skip (sq_n (q_reg (st_mv rfl (g_endq [(4, ii (-1 : Int))] rfl ?_))))
      exact sc_ret (sq_r (gr1 (g := zg37) (ho := fun _ => []) [ii (-1 : Int)] hw (.inr rfl) ws))
  · refine sc_skip (sq_n (sc_seq (q_reg (st_mv rfl (g_endq [(0, ii p1), (1, ii p2), (13, .bool r4)] rfl ?_)))))
    refine s_cond rfl hw (fun hw => ?_) (fun hw => ?_)
    · refine q_reg (st_mv rfl (g_endq [(4, ii 1)] rfl ?_))
      exact sc_ret (sq_r (gr1 (g := zg37) (ho := fun _ => []) [ii 1] hw (.inr rfl) ws))
    · refine sc_skip (sq_n (sc_seq (q_reg (st_mv rfl (st_mv rfl (g_lss rfl rfl hw (fun hw => g_endq [(0, ii p1), (1, ii p2), (16, .bool true)] rfl ?_) (fun hw => g_endq [(0, ii p1), (1, ii p2), (16, .bool false)] rfl ?_)))))))
      · refine s_cond_t rfl (q_reg (st_mv rfl (g_endq [(4, ii (-1 : Int))] rfl ?_)))
        exact sc_ret (sq_r (gr1 (g := zg37) (ho := fun _ => []) [ii (-1 : Int)] hw (.inr rfl) ws))
      · refine s_cond_f rfl (sc_skip (sq_n (sc_seq (q_reg (st_mv rfl (st_mv rfl (g_gtr rfl rfl hw (fun hw => g_endq [(19, .bool true)] rfl ?_) (fun hw => g_endq [(19, .bool false)] rfl ?_))))))))
        · refine s_cond_t rfl (q_reg (st_mv rfl (g_endq [(4, ii 1)] rfl ?_)))
          exact sc_ret (sq_r (gr1 (g := zg37) (ho := fun _ => []) [ii 1] hw (.inr rfl) ws))
        · refine s_cond_f rfl (sc_skip (sq_n (q_reg (st_mv rfl (g_endq [(4, ii 0)] rfl ?_)))))
          exact sc_ret (gr1 (g := zg37) (ho := fun _ => []) [ii 0] hw (.inr rfl) ws)
def hc41 : C := (.seq (.reg [oo 4 (.mv (.c (.str []))), oo 5 (.mv (.c (.str []))), oo 6 (.mv (.c (.bool false)))] [0, 1]) (.seq (.seq (.reg [mo 8 0, mo 9 1, co 10 (.call 61 [8, 9]), mo 7 10] [0, 1, 7]) (.seq (.reg [mo 11 7, oo 12 (.bin .geq 11 (.c (.int .i64 0)))] [0, 1, 7, 12]) (.cond 12 (.seq (.dreg [mo 13 0, mo 14 7, oo 15 (.sslice 13 none (some 14)), mo 16 0, mo 17 7, mo 18 1, oo 19 (.len true 18), oo 20 (.bin .add 17 19), oo 21 (.sslice 16 (some 20) none), mo 4 15, mo 5 21, oo 6 (.mv (.c (.bool true)))] [] 0 [4, 5, 6]) .ret) .skip))) (.seq (.reg [mo 22 0, mo 4 22, oo 5 (.mv (.c (.str []))), oo 6 (.mv (.c (.bool false)))] [4, 5, 6]) .ret)))
def ha41 : Ann := ⟨[], [], [(0, [0, 1]), (1, [0, 1, 7]), (2, [0, 1, 7, 12]), (3, [4, 5, 6]), (4, [4, 5, 6])], []⟩
theorem hk41 : comp Tryd.prog ha41 Tryd.f41.ntmps Tryd.f41.code = some hc41 := by kernel_rfl
def w41 (p1 : List UInt8) (p2 : List UInt8) (Q : List UInt8 × List UInt8 × Bool → Prop) : Prop :=
  ∃ r3 : Int, sp61 p1 p2 r3 ∧ (((0 : Int) ≤ r3 → (0 ≤ (0 : Int) ∧ (0 : Int) ≤ r3 ∧ r3 ≤ (p1.length : Int)) ∧ ∀ v4 : List UInt8, v4 = (p1.take (r3 : Int).toNat).drop ((0 : Int) : Int).toNat → (R64 (r3 + (p2.length : Int))) ∧ ∀ v5 : Int, v5 = r3 + (p2.length : Int) → (0 ≤ v5 ∧ v5 ≤ (p1.length : Int) ∧ (p1.length : Int) ≤ (p1.length : Int)) ∧ ∀ v6 : List UInt8, v6 = (p1.take ((p1.length : Int) : Int).toNat).drop (v5 : Int).toNat → Q (v4, v6, true)) ∧ (r3 < (0 : Int) → Q (p1, [], false)))
theorem ok41 (p1 : List UInt8) (p2 : List UInt8) (r : List UInt8 × List UInt8 × Bool) (hw : w41 p1 p2 fun r' => r' = r) : sp41 p1 p2 r := by
  refine zf (rs := [.t 4, .t 5, .t 6]) (g := zg41) Tryd.func41 hk41 ?_
  unfold w41 at hw
  show SC Tryd.prog Tryd.f41.ntmps 0 hc41 _ [(0, .str p1), (1, .str p2)] []
  unfold hc41
  refine q_reg (st_mv rfl (st_mv rfl (st_mv rfl (g_endq [(0, .str p1), (1, .str p2)] rfl ?_))))
  refine sc_seq (q_reg (st_mv rfl (st_mv rfl (k_call dh (ec rfl (ec rfl en)) rfl hw fun r3 hw => st_mv rfl (g_endq [(0, .str p1), (1, .str p2), (7, ii r3)] rfl ?_)))))
  refine q_reg (st_mv rfl (g_geq rfl rfl hw (fun hw => g_endq [(0, .str p1), (1, .str p2), (7, ii r3), (12, .bool true)] rfl ?_) (fun hw => g_endq [(0, .str p1), (1, .str p2), (7, ii r3), (12, .bool false)] rfl ?_)))
  · refine s_cond_t rfl (sc_seq (s_dreg Tryd.mixed rfl (st_mv rfl (st_mv rfl (g_sslice rfl bnd_none (bnd_some rfl) hw fun v4 hw => st_mv rfl (st_mv rfl (st_mv rfl (st_slen rfl (g_add rfl rfl hw fun v5 hw => g_sslice rfl (bnd_some rfl) bnd_none hw fun v6 hw => st_mv rfl (st_mv rfl (st_mv rfl (st_mid (g_end [(4, .str v4), (5, .str v6), (6, .bool true)] rfl ?_)))))))))))))
    exact sq_n (sc_ret (sq_r (gr1 (g := zg41) (ho := fun _ => []) [.str v4, .str v6, .bool true] hw (.inr rfl) ws)))
  · refine s_cond_f rfl (sc_skip (sq_n (q_reg (st_mv rfl (st_mv rfl (st_mv rfl (st_mv rfl (g_endq [(4, .str p1), (5, .str []), (6, .bool false)] rfl ?_))))))))
    exact sc_ret (gr1 (g := zg41) (ho := fun _ => []) [.str p1, .str [], .bool false] hw (.inr rfl) ws)
def hc56 : C := (.seq (.reg [oo 2 (.mv (.c (.bool false)))] [0]) (.seq (.reg [mo 3 0, mo 4 0, oo 5 (.eqv true .int 3 4), mo 2 5] [2]) .ret))
def ha56 : Ann := ⟨[], [], [(0, [0]), (1, [2])], []⟩
theorem hk56 : comp Tryd.prog ha56 Tryd.f56.ntmps Tryd.f56.code = some hc56 := by kernel_rfl
def w56 (p1 : Int) (Q : Bool → Prop) : Prop :=
  ∀ v2 : Bool, v2 = (if true then !(p1 == p1) else (p1 == p1)) → Q v2
theorem ok56 (p1 : Int) (r : Bool) (hw : w56 p1 fun r' => r' = r) : sp56 p1 r := by
  refine zf (rs := [.t 2]) (g := zg56) Tryd.func56 hk56 ?_
  unfold w56 at hw
  show SC Tryd.prog Tryd.f56.ntmps 0 hc56 _ [(0, ii p1)] []
  unfold hc56
  refine q_reg (st_mv rfl (g_endq [(0, ii p1)] rfl ?_))
  refine q_reg (st_mv rfl (st_mv rfl (gb_eqi rfl rfl hw fun v2 hw => st_mv rfl (g_endq [(2, .bool v2)] rfl ?_))))
  exact sc_ret (gr1 (g := zg56) (ho := fun _ => []) [.bool v2] hw (.inr rfl) ws)
def hc22 : C := (.seq (.reg [oo 4 (.mv (.c (.bool false)))] [0, 1]) (.seq (.reg [mo 5 0, mo 6 1, co 7 (.call 43 [5, 6]), oo 8 (.bin .geq 7 (.c (.int .i64 0))), mo 4 8] [4]) .ret))
def ha22 : Ann := ⟨[], [], [(0, [0, 1]), (1, [4])], []⟩
theorem hk22 : comp Tryd.prog ha22 Tryd.f22.ntmps Tryd.f22.code = some hc22 := by kernel_rfl
def w22_23 (p1 : List (GVersion_Range)) (p2 : Int) (Q : Bool × Int → Prop) : Prop :=
  ∃ r3 : Int × Int, sp43_23 p1 p2 r3 ∧ ∀ v4 : Bool, v4 = decide (r3.1 ≥ (0 : Int)) → Q (v4, r3.2)
theorem ok22_23 (p1 : List (GVersion_Range)) (p2 : Int) (r : Bool × Int) (hw : w22_23 p1 p2 fun r' => r' = r) : sp22_23 p1 p2 r := by
  refine zh (rs := [.t 4]) Tryd.func22 hk22 ?_
  unfold w22_23 at hw
  show SC Tryd.prog Tryd.f22.ntmps 1 hc22 _ [(0, ln eGVersion_Range p1), (1, .func 23 [.ptr 0 0])] [.cells [ii p2]]
  unfold hc22
  refine q_reg (st_mv rfl (g_endq [(0, ln eGVersion_Range p1), (1, .func 23 [.ptr 0 0])] rfl ?_))
  refine q_reg (st_mv rfl (st_mv rfl (kh (hargs := (ra_cons (.pv _ (pv_lst enc_GVersion_Range _ _ (by simp))) (ra_cons (Ren.fn (rf_cons (.ptr _ _ _ rfl) rf_nil)) ra_nil))) hh (g2 := fun r3 : Int × Int => ii r3.1) (H2 := fun r3 : Int × Int => [.cells [ii r3.2]]) [0] [0] 1 0 (ec rfl (ec rfl en)) hw fun r3 hw => gb_cmp rfl rfl trivial rfl hw fun v4 hw => st_mv rfl (g_endq [(4, .bool v4)] rfl ?_))))
  exact sc_ret (gr1 (g := zg22_23) (ho := zo22_23) [.bool v4] hw (.inr rfl) ws)
def hc34 : C := (.seq (.reg [mo 5 0, oo 6 (.len false 5), mo 4 6] [0, 1, 4]) (.reg [mo 7 0, mo 8 4, mo 9 4, oo 10 (.conv (.int .u64) 9), co 11 (.call 55 [10]), mo 12 1, co 13 (.call 54 [7, (.c (.int .i64 0)), 8, 11, 12])] []))
def ha34 : Ann := ⟨[], [], [(0, [0, 1, 4]), (1, [])], []⟩
theorem hk34 : comp Tryd.prog ha34 Tryd.f34.ntmps Tryd.f34.code = some hc34 := by kernel_rfl
def w34_35 (p1 : List (GVersion_Range)) (Q : List (GVersion_Range) → Prop) : Prop :=
  ∀ v2 : Int, v2 = IntKind.wrap .u64 (p1.length : Int) → ∃ r3 : Int, sp55 v2 r3 ∧ ∃ r4 : List (GVersion_Range), sp54_35 p1 (0 : Int) (p1.length : Int) r3 r4 ∧ Q r4
theorem ok34_35 (p1 : List (GVersion_Range)) (r : List (GVersion_Range)) (hw : w34_35 p1 fun r' => r' = r) : sp34_35 p1 r := by
  refine zh (rs := []) Tryd.func34 hk34 ?_
  unfold w34_35 at hw
  show SC Tryd.prog Tryd.f34.ntmps 1 hc34 _ [(0, .arr 0 0 p1.length 2), (1, .func 35 [])] [GA eGVersion_Range p1]
  unfold hc34
  refine q_reg (st_mv rfl (g_lenA rfl (st_mv rfl (g_endq [(0, .arr 0 0 p1.length 2), (1, .func 35 []), (4, ii (p1.length : Int))] rfl ?_))))
  refine s_reg (st_mv rfl (st_mv rfl (st_mv rfl (g_conv rfl hw fun v2 hw => k_call dh (ec rfl en) rfl hw fun r3 hw => st_mv rfl (kh (hin := (ro_arr enc_GVersion_Range (fun a => (lfc rfl (lfc rfl lfn))) rfl ro_nil)) (hback := fun _ => (ou_arr enc_GVersion_Range (fun a => (lfc rfl (lfc rfl lfn))) rfl ou_nil)) hh (g2 := fun r4 : List (GVersion_Range) => .tuple []) (H2 := fun r4 : List (GVersion_Range) => [GA eGVersion_Range r4]) [0] [0] 1 0 (ec rfl (ec rfl (ec rfl (ec rfl (ec rfl en))))) hw fun r4 hw => g_end [] rfl ?_)))))
  exact gr1 (g := zg34_35) (ho := zo34_35) [] hw (.inl rfl) ws
def hc43 : C := (.seq (.reg [oo 4 (.mv (.c (.int .i64 0)))] [0, 1]) (.seq (.seq (.reg [mo 6 0, oo 7 (.len false 6), oo 8 (.mv (.c (.int .i64 0)))] [0, 1, 7, 8]) (.block 0 (.loop (.seq (.reg [oo 9 (.bin .lss 8 7)] [0, 1, 7, 8, 9]) (.seq (.cond 9 .skip (.exit 0)) (.seq (.block 1 (.seq (.reg [mo 10 8, mo 5 10] [0, 1, 5, 7, 8]) (.seq (.reg [mo 11 1, mo 12 0, mo 13 5, oo 14 (.iaddr 2 12 13), oo 15 (.load (some 2) 14), co 16 (.callv 11 [15])] [0, 1, 5, 7, 8, 16]) (.cond 16 (.seq (.reg [mo 17 5, mo 4 17] [4]) .ret) .skip)))) (.reg [oo 18 (.bin .add 8 (.c (.int .i64 1))), mo 8 18] [0, 1, 7, 8]))))))) (.seq (.reg [oo 4 (.mv (.c (.int .i64 (-1))))] [4]) .ret)))
def ha43 : Ann := ⟨[], [23, 59, 999999], [(0, [0, 1]), (1, [0, 1, 7, 8]), (2, [0, 1, 7, 8, 9]), (3, [0, 1, 5, 7, 8]), (4, [0, 1, 5, 7, 8, 16]), (5, [4]), (6, [0, 1, 7, 8]), (7, [4])], []⟩
theorem hk43 : comp Tryd.prog ha43 Tryd.f43.ntmps Tryd.f43.code = some hc43 := by kernel_rfl
def w43_23 (p1 : List (GVersion_Range)) (p2 : Int) (Q : Int × Int → Prop) : Prop :=
  ∃ (I9 : Int → Int → Prop) (M10 : Int → Int → Nat), I9 p2 (0 : Int) ∧ ∀ (v3 : Int) (v4 : Int), I9 v3 v4 → ∀ v11 : Bool, v11 = decide (v4 < (p1.length : Int)) → ((v11 = true → (0 ≤ v4 ∧ v4 < (p1.length : Int)) ∧ ∀ a12 : GVersion_Range, p1[(v4 : Int).toNat]? = some a12 → ∃ r13 : Bool × Int, sp23 a12 v3 r13 ∧ ((r13.1 = true → Q (v4, r13.2)) ∧ (r13.1 = false → (R64 (v4 + (1 : Int))) ∧ ∀ v14 : Int, v14 = v4 + (1 : Int) → (I9 r13.2 v14 ∧ M10 r13.2 v14 < M10 v3 v4)))) ∧ (v11 = false → Q ((-1 : Int), v3)))
theorem ok43_23 (p1 : List (GVersion_Range)) (p2 : Int) (r : Int × Int) (hw : w43_23 p1 p2 fun r' => r' = r) : sp43_23 p1 p2 r := by
  refine zh (rs := [.t 4]) Tryd.func43 hk43 ?_
  unfold w43_23 at hw
  show SC Tryd.prog Tryd.f43.ntmps 1 hc43 _ [(0, ln eGVersion_Range p1), (1, .func 23 [.ptr 0 0])] [.cells [ii p2]]
  unfold hc43
  refine q_reg (st_mv rfl (g_endq [(0, ln eGVersion_Range p1), (1, .func 23 [.ptr 0 0])] rfl ?_))
  refine sc_seq (q_reg (st_mv rfl (g_len rfl (st_mv rfl (g_endq [(0, ln eGVersion_Range p1), (1, .func 23 [.ptr 0 0]), (7, ii (p1.length : Int)), (8, ii 0)] rfl ?_)))))
  refine sc_block ?_
  obtain ⟨I9, M10, hi, hw⟩ := hw
  refine sc_loop (X := { x : Int × Int // I9 x.1 x.2 }) (fun x => ([(0, ln eGVersion_Range p1), (1, .func 23 [.ptr 0 0]), (7, ii (p1.length : Int)), (8, ii x.1.2)], [.cells [ii x.1.1]])) (fun x => M10 x.1.1 x.1.2) ⟨(p2, (0 : Int)), hi⟩ ws ?_
  rintro ⟨⟨v3, v4⟩, hi2⟩
  have hw := hw v3 v4 hi2
  clear hi
  refine q_reg (gb_cmp rfl rfl trivial rfl hw fun v11 hw => g_endq [(0, ln eGVersion_Range p1), (1, .func 23 [.ptr 0 0]), (7, ii (p1.length : Int)), (8, ii v4), (9, .bool v11)] rfl ?_)
  refine sc_seq (s_cond rfl hw (fun hw => ?_) (fun hw => ?_))
  · refine sc_skip (sq_n (sc_seq (sc_block (q_reg (st_mv rfl (st_mv rfl (g_endq [(0, ln eGVersion_Range p1), (1, .func 23 [.ptr 0 0]), (5, ii v4), (7, ii (p1.length : Int)), (8, ii v4)] rfl ?_)))))))
    refine q_reg (st_mv rfl (st_mv rfl (st_mv rfl (g_iaddr enc_GVersion_Range rfl rfl hw fun a12 hw => st_load_r (v := eGVersion_Range a12) rfl rfl (khv hh rfl (g2 := fun r13 : Bool × Int => .bool r13.1) (H2 := fun r13 : Bool × Int => [.cells [ii r13.2]]) [0] [0] 1 0 (ec rfl en) hw fun r13 hw => g_endq [(0, ln eGVersion_Range p1), (1, .func 23 [.ptr 0 0]), (5, ii v4), (7, ii (p1.length : Int)), (8, ii v4), (16, .bool r13.1)] rfl ?_)))))
    refine s_cond rfl hw (fun hw => ?_) (fun hw => ?_)
    · refine q_reg (st_mv rfl (st_mv rfl (g_endq [(4, ii v4)] rfl ?_)))
      exact sc_ret (bl_r (sq_r (lo_r (bl_r (sq_r (gr1 (g := zg43_23) (ho := zo43_23) [ii v4] hw (.inr rfl) ws))))))
    · refine sc_skip (bl_n (sq_n (s_reg (g_add rfl rfl hw fun v14 hw => st_mv rfl (g_end [(0, ln eGVersion_Range p1), (1, .func 23 [.ptr 0 0]), (7, ii (p1.length : Int)), (8, ii v14)] rfl ?_)))))
      exact lo_n ⟨(r13.2, v14), hw.1⟩ hw.2 ws
  · refine sc_exit (sq_x (lo_x (bl_x (sq_n (q_reg (st_mv rfl (g_endq [(4, ii (-1 : Int))] rfl ?_)))))))
    exact sc_ret (gr1 (g := zg43_23) (ho := zo43_23) [ii (-1 : Int)] hw (.inr rfl) ws)
def hc54 : C := (.seq (.reg [oo 10 (.mv (.c (.bool true)))] [0, 1, 2, 3, 4, 10]) (.seq (.reg [oo 11 (.mv (.c (.bool true)))] [0, 1, 2, 3, 4, 10, 11]) (.block 0 (.loop (.block 1 (.seq (.reg [mo 21 2, mo 22 1, oo 23 (.bin .sub 21 22), mo 12 23] [0, 1, 2, 3, 4, 10, 11, 12]) (.seq (.seq (.reg [mo 24 12, oo 25 (.bin .leq 24 (.c (.int .i64 12)))] [0, 1, 2, 3, 4, 10, 11, 12, 25]) (.cond 25 (.seq (.reg [mo 26 0, mo 27 1, mo 28 2, mo 29 4, co 30 (.call 70 [26, 27, 28, 29])] []) .ret) .skip)) (.seq (.seq (.reg [mo 31 3, oo 32 (.eqv false .int 31 (.c (.int .i64 0)))] [0, 1, 2, 3, 4, 10, 11, 12, 32]) (.cond 32 (.seq (.reg [mo 33 0, mo 34 1, mo 35 2, mo 36 4, co 37 (.call 71 [33, 34, 35, 36])] []) .ret) .skip)) (.seq (.seq (.reg [mo 38 10, oo 39 (.un .not 38)] [0, 1, 2, 3, 4, 10, 11, 12, 39]) (.cond 39 (.seq (.reg [mo 40 0, mo 41 1, mo 42 2, mo 43 4, co 44 (.call 72 [40, 41, 42, 43])] [0, 1, 2, 3, 4, 10, 11, 12]) (.reg [mo 45 3, oo 46 (.bin .sub 45 (.c (.int .i64 1))), mo 3 46] [0, 1, 2, 3, 4, 10, 11, 12])) .skip)) (.seq (.reg [mo 48 0, mo 49 1, mo 50 2, mo 51 4, co 52 (.call 73 [48, 49, 50, 51]), mo 47 52, oo 53 (.extract 47 0), oo 54 (.extract 47 1), mo 13 53, mo 14 54] [0, 1, 2, 3, 4, 10, 11, 12, 13, 14]) (.seq (.seq (.reg [mo 55 14, oo 56 (.eqv false .int 55 (.c (.int .i64 2)))] [0, 1, 2, 3, 4, 10, 11, 12, 13, 14, 56]) (.cond 56 (.seq (.reg [mo 57 0, mo 58 1, mo 59 2, mo 60 4, co 61 (.call 74 [57, 58, 59, 60])] [0, 1, 2, 3, 4, 10, 11, 12, 13]) (.seq (.reg [mo 62 2, oo 63 (.bin .sub 62 (.c (.int .i64 1))), mo 64 13, mo 65 1, oo 66 (.bin .sub 64 65), oo 67 (.bin .sub 63 66), mo 13 67] [0, 1, 2, 3, 4, 10, 11, 12, 13]) (.reg [oo 14 (.mv (.c (.int .i64 1)))] [0, 1, 2, 3, 4, 10, 11, 12, 13, 14]))) .skip)) (.seq (.seq (.reg [mo 68 10, mo 69 68, og 70 (.mv 11) 69 true, oo 71 (.pick 69 70 (.c (.bool false))), mo 72 71, og 73 (.mv 14) 72 true, og 74 (.eqv false .int 73 (.c (.int .i64 1))) 72 true, oo 75 (.pick 72 74 (.c (.bool false)))] [0, 1, 2, 3, 4, 10, 11, 12, 13, 75]) (.cond 75 (.seq (.reg [mo 76 0, mo 77 1, mo 78 2, mo 79 4, co 80 (.call 75 [76, 77, 78, 79])] [0, 1, 2, 3, 4, 10, 11, 12, 13, 80]) (.cond 80 .ret .skip)) .skip)) (.seq (.seq (.dreg [mo 81 1, oo 82 (.bin .gtr 81 (.c (.int .i64 0))), mo 83 82, og 84 (.mv 4) 83 true, og 85 (.mv 0) 83 true, og 86 (.mv 1) 83 true, og 87 (.bin .sub 86 (.c (.int .i64 1))) 83 true, og 88 (.iaddr 2 85 87) 83 true, og 89 (.load (some 2) 88) 83 true, og 90 (.mv 0) 83 true, og 91 (.mv 13) 83 true, og 92 (.iaddr 2 90 91) 83 true, og 93 (.load (some 2) 92) 83 true] [cg 94 (.callv 84 [89, 93]) 83 true, og 95 (.bin .lss 94 (.c (.int .i64 0))) 83 true, og 96 (.un .not 95) 83 true, oo 97 (.pick 83 96 (.c (.bool false)))] 0 [0, 1, 2, 3, 4, 10, 11, 12, 13, 97]) (.cond 97 (.seq (.reg [mo 98 0, mo 99 1, mo 100 2, mo 101 13, mo 102 4, co 103 (.call 76 [98, 99, 100, 101, 102]), mo 15 103] [0, 2, 3, 4, 10, 11, 15]) (.seq (.reg [mo 104 15, mo 1 104] [0, 1, 2, 3, 4, 10, 11]) (.exit 1))) .skip)) (.seq (.reg [mo 106 0, mo 107 1, mo 108 2, mo 109 13, mo 110 4, co 111 (.call 77 [106, 107, 108, 109, 110]), mo 105 111, oo 112 (.extract 105 0), oo 113 (.extract 105 1), mo 16 112, mo 17 113] [0, 1, 2, 3, 4, 12, 16, 17]) (.seq (.reg [mo 114 17, mo 11 114] [0, 1, 2, 3, 4, 11, 12, 16]) (.seq (.reg [mo 115 16, mo 116 1, oo 117 (.bin .sub 115 116), mo 118 2, mo 119 16, oo 120 (.bin .sub 118 119), mo 18 117, mo 19 120] [0, 1, 2, 3, 4, 11, 12, 16, 18, 19]) (.seq (.reg [mo 121 12, oo 122 (.bin .quo 121 (.c (.int .i64 8))), mo 20 122] [0, 1, 2, 3, 4, 11, 16, 18, 19, 20]) (.seq (.reg [mo 123 18, mo 124 19, oo 125 (.bin .lss 123 124)] [0, 1, 2, 3, 4, 11, 16, 18, 19, 20, 125]) (.cond 125 (.seq (.reg [mo 126 18, mo 127 20, oo 128 (.bin .geq 126 127), mo 10 128] [0, 1, 2, 3, 4, 10, 11, 16]) (.seq (.reg [mo 129 0, mo 130 1, mo 131 16, mo 132 3, mo 133 4, co 134 (.call 54 [129, 130, 131, 132, 133])] [0, 2, 3, 4, 10, 11, 16]) (.reg [mo 135 16, oo 136 (.bin .add 135 (.c (.int .i64 1))), mo 1 136] [0, 1, 2, 3, 4, 10, 11]))) (.seq (.reg [mo 137 19, mo 138 20, oo 139 (.bin .geq 137 138), mo 10 139] [0, 1, 2, 3, 4, 10, 11, 16]) (.seq (.reg [mo 140 0, mo 141 16, oo 142 (.bin .add 141 (.c (.int .i64 1))), mo 143 2, mo 144 3, mo 145 4, co 146 (.call 54 [140, 142, 143, 144, 145])] [0, 1, 3, 4, 10, 11, 16]) (.reg [mo 147 16, mo 2 147] [0, 1, 2, 3, 4, 10, 11]))))))))))))))))))))))
def ha54 : Ann := ⟨[], [23, 59, 999999], [(0, [0, 1, 2, 3, 4, 10]), (1, [0, 1, 2, 3, 4, 10, 11]), (2, [0, 1, 2, 3, 4, 10, 11, 12]), (3, [0, 1, 2, 3, 4, 10, 11, 12, 25]), (4, []), (5, [0, 1, 2, 3, 4, 10, 11, 12, 32]), (6, []), (7, [0, 1, 2, 3, 4, 10, 11, 12, 39]), (8, [0, 1, 2, 3, 4, 10, 11, 12]), (9, [0, 1, 2, 3, 4, 10, 11, 12]), (10, [0, 1, 2, 3, 4, 10, 11, 12, 13, 14]), (11, [0, 1, 2, 3, 4, 10, 11, 12, 13, 14, 56]), (12, [0, 1, 2, 3, 4, 10, 11, 12, 13]), (13, [0, 1, 2, 3, 4, 10, 11, 12, 13]), (14, [0, 1, 2, 3, 4, 10, 11, 12, 13, 14]), (15, [0, 1, 2, 3, 4, 10, 11, 12, 13, 75]), (16, [0, 1, 2, 3, 4, 10, 11, 12, 13, 80]), (17, [0, 1, 2, 3, 4, 10, 11, 12, 13, 97]), (18, [0, 2, 3, 4, 10, 11, 15]), (19, [0, 1, 2, 3, 4, 10, 11]), (20, [0, 1, 2, 3, 4, 12, 16, 17]), (21, [0, 1, 2, 3, 4, 11, 12, 16]), (22, [0, 1, 2, 3, 4, 11, 12, 16, 18, 19]), (23, [0, 1, 2, 3, 4, 11, 16, 18, 19, 20]), (24, [0, 1, 2, 3, 4, 11, 16, 18, 19, 20, 125]), (25, [0, 1, 2, 3, 4, 10, 11, 16]), (26, [0, 2, 3, 4, 10, 11, 16]), (27, [0, 1, 2, 3, 4, 10, 11]), (28, [0, 1, 2, 3, 4, 10, 11, 16]), (29, [0, 1, 3, 4, 10, 11, 16]), (30, [0, 1, 2, 3, 4, 10, 11])], []⟩
theorem hk54 : comp Tryd.prog ha54 Tryd.f54.ntmps Tryd.f54.code = some hc54 := by kernel_rfl
def w54_35 (p1 : List (GVersion_Range)) (p2 : Int) (p3 : Int) (p4 : Int) (Q : List (GVersion_Range) → Prop) : Prop :=
  ∃ (I12 : Int → Int → Int → Bool → Bool → Prop) (M13 : Int → Int → Int → Bool → Bool → Nat), I12 p2 p3 p4 true true ∧ ∀ (v5 : Int) (v6 : Int) (v7 : Int) (v8 : Bool) (v9 : Bool), I12 v5 v6 v7 v8 v9 → (R64 (v6 - v5)) ∧ ∀ v14 : Int, v14 = v6 - v5 → ((v14 ≤ (12 : Int) → ∃ r15 : List (GVersion_Range), sp70_35 p1 v5 v6 r15 ∧ Q r15) ∧ ((12 : Int) < v14 → ((v7 = (0 : Int) → False) ∧ (v7 ≠ (0 : Int) → (((!v8) = true → False) ∧ ((!v8) = false → False))))))
theorem ok54_35 (p1 : List (GVersion_Range)) (p2 : Int) (p3 : Int) (p4 : Int) (r : List (GVersion_Range)) (hw : w54_35 p1 p2 p3 p4 fun r' => r' = r) : sp54_35 p1 p2 p3 p4 r := by
  refine zh (rs := []) Tryd.func54 hk54 ?_
  unfold w54_35 at hw
  show SC Tryd.prog Tryd.f54.ntmps 1 hc54 _ [(0, .arr 0 0 p1.length 2), (1, ii p2), (2, ii p3), (3, ii p4), (4, .func 35 [])] [GA eGVersion_Range p1]
  unfold hc54
  refine q_reg (st_mv rfl (g_endq [(0, .arr 0 0 p1.length 2), (1, ii p2), (2, ii p3), (3, ii p4), (4, .func 35 []), (10, .bool true)] rfl ?_))
  refine q_reg (st_mv rfl (g_endq [(0, .arr 0 0 p1.length 2), (1, ii p2), (2, ii p3), (3, ii p4), (4, .func 35 []), (10, .bool true), (11, .bool true)] rfl ?_))
  refine sc_block ?_
  obtain ⟨I12, M13, hi, hw⟩ := hw
  refine sc_loop (X := { x : Int × Int × Int × Bool × Bool // I12 x.1 x.2.1 x.2.2.1 x.2.2.2.1 x.2.2.2.2 }) (fun x => ([(0, .arr 0 0 p1.length 2), (1, ii x.1.1), (2, ii x.1.2.1), (3, ii x.1.2.2.1), (4, .func 35 []), (10, .bool x.1.2.2.2.1), (11, .bool x.1.2.2.2.2)], [GA eGVersion_Range p1])) (fun x => M13 x.1.1 x.1.2.1 x.1.2.2.1 x.1.2.2.2.1 x.1.2.2.2.2) ⟨(p2, p3, p4, true, true), hi⟩ ws ?_
  rintro ⟨⟨v5, v6, v7, v8, v9⟩, hi2⟩
  have hw := hw v5 v6 v7 v8 v9 hi2
  clear hi
  refine sc_block (q_reg (st_mv rfl (st_mv rfl (g_sub rfl rfl hw fun v14 hw => st_mv rfl (g_endq [(0, .arr 0 0 p1.length 2), (1, ii v5), (2, ii v6), (3, ii v7), (4, .func 35 []), (10, .bool v8), (11, .bool v9), (12, ii v14)] rfl ?_)))))
  refine sc_seq (q_reg (st_mv rfl (g_leq rfl rfl hw (fun hw => g_endq [(0, .arr 0 0 p1.length 2), (1, ii v5), (2, ii v6), (3, ii v7), (4, .func 35 []), (10, .bool v8), (11, .bool v9), (12, ii v14), (25, .bool true)] rfl ?_) (fun hw => g_endq [(0, .arr 0 0 p1.length 2), (1, ii v5), (2, ii v6), (3, ii v7), (4, .func 35 []), (10, .bool v8), (11, .bool v9), (12, ii v14), (25, .bool false)] rfl ?_))))
  · refine s_cond_t rfl (q_reg (st_mv rfl (st_mv rfl (st_mv rfl (st_mv rfl (kh (hin := (ro_arr enc_GVersion_Range (fun a => (lfc rfl (lfc rfl lfn))) rfl ro_nil)) (hback := fun _ => (ou_arr enc_GVersion_Range (fun a => (lfc rfl (lfc rfl lfn))) rfl ou_nil)) hh (g2 := fun r15 : List (GVersion_Range) => .tuple []) (H2 := fun r15 : List (GVersion_Range) => [GA eGVersion_Range r15]) [0] [0] 1 0 (ec rfl (ec rfl (ec rfl (ec rfl en)))) hw fun r15 hw => g_endq [] rfl ?_))))))
    exact sc_ret (sq_r (bl_r (lo_r (bl_r (gr1 (g := zg54_35) (ho := zo54_35) [] hw (.inr rfl) ws)))))
  · refine s_cond_f rfl (sc_skip (sq_n (sc_seq (q_reg (st_mv rfl (g_eqi rfl rfl hw (fun hw => g_endq [(0, .arr 0 0 p1.length 2), (1, ii v5), (2, ii v6), (3, ii v7), (4, .func 35 []), (10, .bool v8), (11, .bool v9), (12, ii v14), (32, .bool true)] rfl ?_) (fun hw => g_endq [(0, .arr 0 0 p1.length 2), (1, ii v5), (2, ii v6), (3, ii v7), (4, .func 35 []), (10, .bool v8), (11, .bool v9), (12, ii v14), (32, .bool false)] rfl ?_)))))))
    · refine s_cond_t rfl (SC.weak (w_freeze (l := p1) (h' := [.dead]) 0 enc_GVersion_Range rfl rfl rfl rfl) ?_)
      refine q_reg (st_mv rfl (st_mv rfl (st_mv rfl (st_mv rfl (hw.elim)))))
    · refine s_cond_f rfl (sc_skip (sq_n (sc_seq (q_reg (st_mv rfl (st_not rfl (g_endq [(0, .arr 0 0 p1.length 2), (1, ii v5), (2, ii v6), (3, ii v7), (4, .func 35 []), (10, .bool v8), (11, .bool v9), (12, ii v14), (39, .bool (!v8))] rfl ?_)))))))
      refine s_cond rfl hw (fun hw => ?_) (fun hw => ?_)
      · refine SC.weak (w_freeze (l := p1) (h' := [.dead]) 0 enc_GVersion_Range rfl rfl rfl rfl) ?_
        refine q_reg (st_mv rfl (st_mv rfl (st_mv rfl (st_mv rfl (hw.elim)))))
      · refine sc_skip (sq_n (SC.weak (w_freeze (l := p1) (h' := [.dead]) 0 enc_GVersion_Range rfl rfl rfl rfl) ?_))
        refine q_reg (st_mv rfl (st_mv rfl (st_mv rfl (st_mv rfl (hw.elim)))))
def hc70 : C := (.seq (.reg [mo 10 1, oo 11 (.bin .add 10 (.c (.int .i64 1))), mo 8 11] [0, 1, 2, 3, 8]) (.block 0 (.loop (.seq (.seq (.reg [mo 12 8, mo 13 2, oo 14 (.bin .lss 12 13)] [0, 1, 2, 3, 8, 14]) (.cond 14 .skip (.exit 0))) (.seq (.block 1 (.seq (.reg [mo 17 8, mo 9 17] [0, 1, 2, 3, 8, 9]) (.block 2 (.loop (.seq (.seq (.dreg [mo 18 9, mo 19 1, oo 20 (.bin .gtr 18 19), mo 21 20, og 22 (.mv 3) 21 true, og 23 (.mv 0) 21 true, og 24 (.mv 9) 21 true, og 25 (.iaddr 2 23 24) 21 true, og 26 (.load (some 2) 25) 21 true, og 27 (.mv 0) 21 true, og 28 (.mv 9) 21 true, og 29 (.bin .sub 28 (.c (.int .i64 1))) 21 true, og 30 (.iaddr 2 27 29) 21 true, og 31 (.load (some 2) 30) 21 true] [cg 32 (.callv 22 [26, 31]) 21 true, og 33 (.bin .lss 32 (.c (.int .i64 0))) 21 true, oo 34 (.pick 21 33 (.c (.bool false)))] 0 [0, 1, 2, 3, 8, 9, 34]) (.cond 34 .skip (.exit 2))) (.seq (.block 3 (.dreg [mo 37 0, mo 38 9, mo 39 0, mo 40 9, oo 41 (.bin .sub 40 (.c (.int .i64 1))), mo 42 0, mo 43 9, oo 44 (.bin .sub 43 (.c (.int .i64 1))), oo 45 (.iaddr 2 42 44), oo 46 (.load (some 2) 45), mo 47 0, mo 48 9, oo 49 (.iaddr 2 47 48), oo 50 (.load (some 2) 49), oo 51 (.iaddr 2 37 38), os (.store 2 51 46), oo 52 (.iaddr 2 39 41), os (.store 2 52 50)] [] 0 [0, 1, 2, 3, 8, 9])) (.reg [mo 35 9, oo 36 (.bin .sub 35 (.c (.int .i64 1))), mo 9 36] [0, 1, 2, 3, 8, 9]))))))) (.reg [mo 15 8, oo 16 (.bin .add 15 (.c (.int .i64 1))), mo 8 16] [0, 1, 2, 3, 8]))))))
def ha70 : Ann := ⟨[], [23, 59, 999999], [(0, [0, 1, 2, 3, 8]), (1, [0, 1, 2, 3, 8, 14]), (3, [0, 1, 2, 3, 8, 9]), (4, [0, 1, 2, 3, 8, 9, 34]), (6, [0, 1, 2, 3, 8, 9]), (5, [0, 1, 2, 3, 8, 9]), (2, [0, 1, 2, 3, 8])], []⟩
theorem hk70 : comp Tryd.prog ha70 Tryd.f70.ntmps Tryd.f70.code = some hc70 := by kernel_rfl
def w70_35 (p1 : List (GVersion_Range)) (p2 : Int) (p3 : Int) (Q : List (GVersion_Range) → Prop) : Prop :=
  (R64 (p2 + (1 : Int))) ∧ ∀ v4 : Int, v4 = p2 + (1 : Int) → ∃ (I45 : (List GVersion_Range) → Int → Prop) (M46 : (List GVersion_Range) → Int → Nat), I45 p1 v4 ∧ ∀ (v5 : List GVersion_Range) (v6 : Int), I45 v5 v6 → ((v6 < p3 → ∃ J49 : (List GVersion_Range) → Int → Prop, (∃ (I67 : (List GVersion_Range) → Int → Prop) (M68 : (List GVersion_Range) → Int → Nat), I67 v5 v6 ∧ ∀ (v50 : List GVersion_Range) (v51 : Int), I67 v50 v51 → ((p2 < v51 → ((0 ≤ v51 ∧ v51 < (p1.length : Int)) ∧ v51.toNat < v50.length ∧ ∀ a69 : GVersion_Range, v50[v51.toNat]? = some a69 → (R64 (v51 - (1 : Int))) ∧ ∀ v71 : Int, v71 = v51 - (1 : Int) → ((0 ≤ v71 ∧ v71 < (p1.length : Int)) ∧ v71.toNat < v50.length ∧ ∀ a72 : GVersion_Range, v50[v71.toNat]? = some a72 → ∃ r74 : Int, sp35 a69 a72 r74 ∧ ((r74 < (0 : Int) → (R64 (v51 - (1 : Int))) ∧ ∀ v75 : Int, v75 = v51 - (1 : Int) → (R64 (v51 - (1 : Int))) ∧ ∀ v76 : Int, v76 = v51 - (1 : Int) → ((0 ≤ v76 ∧ v76 < (p1.length : Int)) ∧ v76.toNat < v50.length ∧ ∀ a77 : GVersion_Range, v50[v76.toNat]? = some a77 → ((0 ≤ v51 ∧ v51 < (p1.length : Int)) ∧ v51.toNat < v50.length ∧ ∀ a79 : GVersion_Range, v50[v51.toNat]? = some a79 → ((0 ≤ v51 ∧ v51 < (p1.length : Int)) ∧ (v51.toNat < v50.length ∧ ∀ a : GVersion_Range, v50[v51.toNat]? = some a → ∀ v81 : List GVersion_Range, v81 = v50.set v51.toNat a77 → ((0 ≤ v75 ∧ v75 < (p1.length : Int)) ∧ (v75.toNat < v81.length ∧ ∀ a : GVersion_Range, v81[v75.toNat]? = some a → ∀ v82 : List GVersion_Range, v82 = v81.set v75.toNat a79 → (R64 (v51 - (1 : Int))) ∧ ∀ v83 : Int, v83 = v51 - (1 : Int) → (I67 v82 v83 ∧ M68 v82 v83 < M68 v50 v51)))))))) ∧ ((0 : Int) ≤ r74 → J49 v50 v51))))) ∧ (v51 ≤ p2 → J49 v50 v51))) ∧ ∀ (v47 : List GVersion_Range) (v48 : Int), J49 v47 v48 → (R64 (v6 + (1 : Int))) ∧ ∀ v84 : Int, v84 = v6 + (1 : Int) → (I45 v47 v84 ∧ M46 v47 v84 < M46 v5 v6)) ∧ (p3 ≤ v6 → Q v5))
theorem ok70_35 (p1 : List (GVersion_Range)) (p2 : Int) (p3 : Int) (r : List (GVersion_Range)) (hw : w70_35 p1 p2 p3 fun r' => r' = r) : sp70_35 p1 p2 p3 r := by
  refine zh (rs := []) Tryd.func70 hk70 ?_
  unfold w70_35 at hw
  show SC Tryd.prog Tryd.f70.ntmps 1 hc70 _ [(0, .arr 0 0 p1.length 2), (1, ii p2), (2, ii p3), (3, .func 35 [])] [GA eGVersion_Range p1]
  unfold hc70
  refine q_reg (st_mv rfl (g_add rfl rfl hw fun v4 hw => st_mv rfl (g_endq [(0, .arr 0 0 p1.length 2), (1, ii p2), (2, ii p3), (3, .func 35 []), (8, ii v4)] rfl ?_)))
  refine sc_block ?_
  obtain ⟨I45, M46, hi, hw⟩ := hw
  refine sc_loop (X := { x : List GVersion_Range × Int // I45 x.1 x.2 }) (fun x => ([(0, .arr 0 0 p1.length 2), (1, ii p2), (2, ii p3), (3, .func 35 []), (8, ii x.1.2)], [GA eGVersion_Range x.1.1])) (fun x => M46 x.1.1 x.1.2) ⟨(p1, v4), hi⟩ ws ?_
  rintro ⟨⟨v5, v6⟩, hi2⟩
  have hw := hw v5 v6 hi2
  clear hi
  refine sc_seq (q_reg (st_mv rfl (st_mv rfl (g_lss rfl rfl hw (fun hw => g_endq [(0, .arr 0 0 p1.length 2), (1, ii p2), (2, ii p3), (3, .func 35 []), (8, ii v6), (14, .bool true)] rfl ?_) (fun hw => g_endq [(0, .arr 0 0 p1.length 2), (1, ii p2), (2, ii p3), (3, .func 35 []), (8, ii v6), (14, .bool false)] rfl ?_)))))
  · refine s_cond_t rfl (sc_skip (sq_n ?_))
    obtain ⟨J49, hw, hk⟩ := hw
    refine sc_join (A := List GVersion_Range × Int) (fun x => J49 x.1 x.2) (fun x => ([(0, .arr 0 0 p1.length 2), (1, ii p2), (2, ii p3), (3, .func 35 []), (8, ii v6), (9, ii x.2), (34, .bool false)], [GA eGVersion_Range x.1])) ?_ ?_
    · rintro ⟨v47, v48⟩ hj
      have hw := hk v47 v48 hj
      clear hk hj
      refine s_reg (st_mv rfl (g_add rfl rfl hw fun v84 hw => st_mv rfl (g_end [(0, .arr 0 0 p1.length 2), (1, ii p2), (2, ii p3), (3, .func 35 []), (8, ii v84)] rfl ?_)))
      exact lo_n ⟨(v47, v84), hw.1⟩ hw.2 ws
    · clear hk
      refine sc_block (q_reg (st_mv rfl (st_mv rfl (g_endq [(0, .arr 0 0 p1.length 2), (1, ii p2), (2, ii p3), (3, .func 35 []), (8, ii v6), (9, ii v6)] rfl ?_))))
      refine sc_block ?_
      obtain ⟨I67, M68, hi, hw⟩ := hw
      refine sc_loop (X := { x : List GVersion_Range × Int // I67 x.1 x.2 }) (fun x => ([(0, .arr 0 0 p1.length 2), (1, ii p2), (2, ii p3), (3, .func 35 []), (8, ii v6), (9, ii x.1.2)], [GA eGVersion_Range x.1.1])) (fun x => M68 x.1.1 x.1.2) ⟨(v5, v6), hi⟩ ws ?_
      rintro ⟨⟨v50, v51⟩, hi2⟩
      have hw := hw v50 v51 hi2
      clear hi
      refine sc_seq (sc_seq (s_dreg Tryd.mixed rfl (st_mv rfl (st_mv rfl (g_gtr rfl rfl hw (fun hw => st_mv rfl (st_g rfl (st_mv rfl (st_g rfl (st_mv rfl (st_g rfl (st_mv rfl (st_g rfl (g_iaA rfl rfl hw fun hw => st_g rfl (g_ldA (f := eGVersion_Range) (q := v51) (sub := 0) (l := v50) (g := fun a69 => eGVersion_Range a69) enc_GVersion_Range rfl rfl (by decide) rfl (fun _ => rfl) hw fun a69 hw => st_g rfl (st_mv rfl (st_g rfl (st_mv rfl (st_g rfl (g_sub rfl rfl hw fun v71 hw => st_g rfl (g_iaA rfl rfl hw fun hw => st_g rfl (g_ldA (f := eGVersion_Range) (q := v71) (sub := 0) (l := v50) (g := fun a72 => eGVersion_Range a72) enc_GVersion_Range rfl rfl (by decide) rfl (fun _ => rfl) hw fun a72 hw => st_mid (st_g rfl (k_callv dh rfl (ec rfl (ec rfl en)) rfl hw fun r74 hw => st_g rfl (g_lss rfl rfl hw (fun hw => st_pick_t rfl rfl rfl (g_end [(0, .arr 0 0 p1.length 2), (1, ii p2), (2, ii p3), (3, .func 35 []), (8, ii v6), (9, ii v51), (34, .bool true)] rfl ?_)) (fun hw => st_pick_t rfl rfl rfl (g_end [(0, .arr 0 0 p1.length 2), (1, ii p2), (2, ii p3), (3, .func 35 []), (8, ii v6), (9, ii v51), (34, .bool false)] rfl ?_)))))))))))))))))))))) (fun hw => st_mv rfl (st_gft rfl (st_gft rfl (st_gft rfl (st_gft rfl (st_gft rfl (st_gft rfl (st_gft rfl (st_gft rfl (st_gft rfl (st_gft rfl (st_mid (st_gft rfl (st_gft rfl (st_pick_f rfl rfl rfl (g_end [(0, .arr 0 0 p1.length 2), (1, ii p2), (2, ii p3), (3, .func 35 []), (8, ii v6), (9, ii v51), (34, .bool false)] rfl ?_)))))))))))))))))))))
      · refine sq_n (s_cond_t rfl (sc_skip (sq_n (sc_seq (sc_block (s_dreg Tryd.mixed rfl (st_mv rfl (st_mv rfl (st_mv rfl (st_mv rfl (g_sub rfl rfl hw fun v75 hw => st_mv rfl (st_mv rfl (g_sub rfl rfl hw fun v76 hw => g_iaA rfl rfl hw fun hw => g_ldA (f := eGVersion_Range) (q := v76) (sub := 0) (l := v50) (g := fun a77 => eGVersion_Range a77) enc_GVersion_Range rfl rfl (by decide) rfl (fun _ => rfl) hw fun a77 hw => st_mv rfl (st_mv rfl (g_iaA rfl rfl hw fun hw => g_ldA (f := eGVersion_Range) (q := v51) (sub := 0) (l := v50) (g := fun a79 => eGVersion_Range a79) enc_GVersion_Range rfl rfl (by decide) rfl (fun _ => rfl) hw fun a79 hw => g_iaA rfl rfl hw fun hw => g_stA (q := v51) (sub := 0) (l := v50) (u := fun _ => a77) (v := eGVersion_Range a77) enc_GVersion_Range rfl rfl rfl rfl rfl (by decide) rfl (fun a => rfl) hw (fun z => [GA eGVersion_Range z]) (fun _ => rfl) fun v81 hw => g_iaA rfl rfl hw fun hw => g_stA (q := v75) (sub := 0) (l := v81) (u := fun _ => a79) (v := eGVersion_Range a79) enc_GVersion_Range rfl rfl rfl rfl rfl (by decide) rfl (fun a => rfl) hw (fun z => [GA eGVersion_Range z]) (fun _ => rfl) fun v82 hw => st_mid (g_end [(0, .arr 0 0 p1.length 2), (1, ii p2), (2, ii p3), (3, .func 35 []), (8, ii v6), (9, ii v51)] rfl ?_))))))))))))))))
        refine bl_n (sq_n (s_reg (st_mv rfl (g_sub rfl rfl hw fun v83 hw => st_mv rfl (g_end [(0, .arr 0 0 p1.length 2), (1, ii p2), (2, ii p3), (3, .func 35 []), (8, ii v6), (9, ii v83)] rfl ?_)))))
        exact lo_n ⟨(v82, v83), hw.1⟩ hw.2 ws
      · exact sq_n (s_cond_f rfl (sc_exit (sq_x (lo_x (bl_x (bl_n (jo_n (v50, v51) hw ws)))))))
      · exact sq_n (s_cond_f rfl (sc_exit (sq_x (lo_x (bl_x (bl_n (jo_n (v50, v51) hw ws)))))))
  · exact s_cond_f rfl (sc_exit (sq_x (lo_x (bl_x (gr1 (g := zg70_35) (ho := zo70_35) [] hw (.inl rfl) ws)))))
end Go.Hw.VX

