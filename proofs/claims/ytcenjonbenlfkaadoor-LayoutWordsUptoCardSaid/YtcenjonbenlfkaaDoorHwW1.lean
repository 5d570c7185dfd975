import Derived.Test.YtcenjonbenlfkaaDoorHwF2
import Derived.Test.YtcenjonbenlfkaaDoorHwNest
import Derived.Test.YtcenjonbenlfkaaDoorProg
set_option linter.unusedVariables false
set_option linter.unusedSimpArgs false
namespace Go.Hw.VL
open Go Go.Proofs
theorem _root_.Go.Proofs.Tryd.mixed : Tryd.prog.follows .mixedOrders = true := by kernel_rfl
structure GLayout_Piece where
  Kind : Int
  N : Int
  S : List UInt8
  deriving DecidableEq
def eGLayout_Piece (a : GLayout_Piece) : HV := .agg [ii a.Kind, ii a.N, .str a.S]
theorem enc_GLayout_Piece : Enc eGLayout_Piece 3 := ⟨fun a => (pvc (.int _ _) (pvc (.int _ _) (pvc (.str _) pvn))), fun _ => rfl, fun _ => rfl, fun _ => rfl⟩
instance : EncC eGLayout_Piece 3 := ⟨enc_GLayout_Piece⟩
instance (a : GLayout_Piece) : PVi (eGLayout_Piece a) := ⟨enc_GLayout_Piece.all a⟩
instance (a : GLayout_Piece) : PVl (eGLayout_Piece a).cells := ⟨enc_GLayout_Piece.pv a⟩
@[reducible] def zg11 (r : List (GLayout_Piece)) : HV := ln eGLayout_Piece r
abbrev sp11 (p2 : List (Int)) (r : List (GLayout_Piece)) : Prop := PCall Tryd.prog 11 [ln (eInt .i64) p2] (zg11 r)
@[reducible] def zg13 (r : Int) : HV := ii r
abbrev sp13 (p3 : Int) (p4 : Int) (r : Int) : Prop := PCall Tryd.prog 13 [ii p3, ii p4] (zg13 r)
@[reducible] def zg24 (r : List UInt8) : HV := .str r
abbrev sp24 (p5 : List UInt8) (p6 : Int) (r : List UInt8) : Prop := PCall Tryd.prog 24 [.str p5, ii p6] (zg24 r)
@[reducible] def zg25 (r : Int) : HV := ii r
abbrev sp25 (p7 : List (GLayout_Piece)) (r : Int) : Prop := PCall Tryd.prog 25 [ln eGLayout_Piece p7] (zg25 r)
@[reducible] def zg27 (r : Int) : HV := ii r
abbrev sp27 (p8 : List (GLayout_Piece)) (p9 : Int) (r : Int) : Prop := PCall Tryd.prog 27 [ln eGLayout_Piece p8, ii p9] (zg27 r)
@[reducible] def zg28 (r : Int) : HV := ii r
abbrev sp28 (p10 : List (GLayout_Piece)) (r : Int) : Prop := PCall Tryd.prog 28 [ln eGLayout_Piece p10] (zg28 r)
@[reducible] def zg29 (r : Int) : HV := ii r
abbrev sp29 (p11 : List (GLayout_Piece)) (r : Int) : Prop := PCall Tryd.prog 29 [ln eGLayout_Piece p11] (zg29 r)
@[reducible] def zg32 (r : Int) : HV := .int .i32 r
abbrev sp32 (p12 : Int) (r : Int) : Prop := PCall Tryd.prog 32 [.int .i32 p12] (zg32 r)
@[reducible] def zg47 (r : Bool) : HV := .bool r
abbrev sp47 (p13 : List UInt8) (p14 : List UInt8) (r : Bool) : Prop := PCall Tryd.prog 47 [.str p13, .str p14] (zg47 r)
def hc11 : C := (.seq (.reg [oo 2 (.mv (.c (.list [] .full)))] [0]) (.seq (.reg [oo 3 (.mv (.c (.list [] .full)))] [0, 3]) (.seq (.reg [oo 4 (.mv (.c (.int .i64 0)))] [0, 3, 4]) (.seq (.seq (.reg [mo 8 0, oo 9 (.len false 8), oo 10 (.mv (.c (.int .i64 0)))] [3, 4, 8, 9, 10]) (.block 0 (.loop (.seq (.reg [oo 11 (.bin .lss 10 9)] [3, 4, 8, 9, 10, 11]) (.seq (.cond 11 .skip (.exit 0)) (.seq (.block 1 (.seq (.reg [mo 12 10, oo 13 (.iaddr 1 8 10), oo 14 (.load none 13), mo 5 12, mo 6 14] [3, 4, 5, 6, 8, 9, 10]) (.seq (.seq (.reg [mo 15 5, oo 16 (.bin .geq 15 (.c (.int .i64 40)))] [3, 4, 6, 8, 9, 10, 16]) (.cond 16 (.exit 0) .skip)) (.seq (.reg [mo 17 6, co 18 (.call 13 [17, (.c (.int .i64 9))]), mo 7 18] [3, 4, 6, 7, 8, 9, 10]) (.block 2 (.seq (.reg [mo 20 7, oo 21 (.bin .lss 20 (.c (.int .i64 3))), mo 19 21] [3, 4, 6, 7, 8, 9, 10, 19]) (.cond 19 (.dreg [mo 22 3, mo 23 7, mo 24 7, oo 25 (.bin .add 24 (.c (.int .i64 1))), oo 26 (.sslice (.c (.str [97, 98, 99])) (some 23) (some 25)), mo 27 6, oo 28 (.bin .quo 27 (.c (.int .i64 9))), co 29 (.call 13 [28, (.c (.int .i64 8))]), oo 30 (.bin .add (.c (.int .i64 1)) 29), co 31 (.call 24 [26, 30]), oo 32 (.build [(.int .i64 0), (.int .i64 0), (.str [])] [(0, 1, (.c (.int .i64 1))), (2, 1, 31)]), oo 33 (.mklist 3 [32]), oo 34 (.append 3 32 22 33), mo 3 34] [] 0 [3, 4, 8, 9, 10]) (.seq (.reg [mo 36 7, oo 37 (.bin .lss 36 (.c (.int .i64 5))), mo 35 37] [3, 4, 6, 7, 8, 9, 10, 35]) (.cond 35 (.reg [mo 38 3, oo 39 (.build [(.int .i64 0), (.int .i64 0), (.str [])] [(0, 1, (.c (.int .i64 2)))]), oo 40 (.mklist 3 [39]), oo 41 (.append 3 32 38 40), mo 3 41] [3, 4, 8, 9, 10]) (.seq (.reg [mo 43 7, oo 44 (.eqv false .int 43 (.c (.int .i64 5))), mo 42 44] [3, 4, 6, 7, 8, 9, 10, 42]) (.cond 42 (.reg [mo 45 3, oo 46 (.build [(.int .i64 0), (.int .i64 0), (.str [])] [(0, 1, (.c (.int .i64 3)))]), oo 47 (.mklist 3 [46]), oo 48 (.append 3 32 45 47), mo 3 48] [3, 4, 8, 9, 10]) (.seq (.reg [mo 50 7, oo 51 (.eqv false .int 50 (.c (.int .i64 6))), mo 49 51] [3, 4, 6, 7, 8, 9, 10, 49]) (.cond 49 (.seq (.reg [mo 52 3, mo 53 6, oo 54 (.bin .quo 53 (.c (.int .i64 9))), co 55 (.call 13 [54, (.c (.int .i64 4))]), oo 56 (.build [(.int .i64 0), (.int .i64 0), (.str [])] [(0, 1, (.c (.int .i64 5))), (1, 1, 55)]), oo 57 (.mklist 3 [56]), oo 58 (.append 3 32 52 57), mo 3 58] [3, 4, 8, 9, 10]) (.reg [mo 59 4, oo 60 (.bin .add 59 (.c (.int .i64 1))), mo 4 60] [3, 4, 8, 9, 10])) (.seq (.reg [mo 62 7, oo 63 (.eqv false .int 62 (.c (.int .i64 7))), mo 64 63, og 65 (.mv 4) 64 true, og 66 (.bin .gtr 65 (.c (.int .i64 0))) 64 true, oo 67 (.pick 64 66 (.c (.bool false))), mo 61 67] [3, 4, 6, 7, 8, 9, 10, 61]) (.cond 61 (.seq (.reg [mo 68 3, oo 69 (.build [(.int .i64 0), (.int .i64 0), (.str [])] [(0, 1, (.c (.int .i64 6)))]), oo 70 (.mklist 3 [69]), oo 71 (.append 3 32 68 70), mo 3 71] [3, 4, 8, 9, 10]) (.reg [mo 72 4, oo 73 (.bin .sub 72 (.c (.int .i64 1))), mo 4 73] [3, 4, 8, 9, 10])) (.seq (.reg [mo 75 7, oo 76 (.eqv false .int 75 (.c (.int .i64 8))), mo 77 76, og 78 (.mv 6) 77 true, og 79 (.bin .rem 78 (.c (.int .i64 5))) 77 true, og 80 (.eqv false .int 79 (.c (.int .i64 0))) 77 true, oo 81 (.pick 77 80 (.c (.bool false))), mo 74 81] [3, 4, 8, 9, 10, 74]) (.cond 74 (.reg [mo 82 3, oo 83 (.build [(.int .i64 0), (.int .i64 0), (.str [])] [(0, 1, (.c (.int .i64 4)))]), oo 84 (.mklist 3 [83]), oo 85 (.append 3 32 82 84), mo 3 85] [3, 4, 8, 9, 10]) .skip))))))))))))))))) (.reg [oo 86 (.bin .add 10 (.c (.int .i64 1))), mo 10 86] [3, 4, 8, 9, 10]))))))) (.seq (.seq (.reg [mo 87 4, oo 88 (.mv (.c (.int .i64 0)))] [3, 87, 88]) (.block 3 (.loop (.seq (.reg [oo 89 (.bin .lss 88 87)] [3, 87, 88, 89]) (.seq (.cond 89 .skip (.exit 3)) (.seq (.block 4 (.reg [mo 90 3, oo 91 (.build [(.int .i64 0), (.int .i64 0), (.str [])] [(0, 1, (.c (.int .i64 6)))]), oo 92 (.mklist 3 [91]), oo 93 (.append 3 32 90 92), mo 3 93] [3, 87, 88])) (.reg [oo 94 (.bin .add 88 (.c (.int .i64 1))), mo 88 94] [3, 87, 88]))))))) (.seq (.reg [mo 95 3, mo 2 95] [2]) .ret))))))
def ha11 : Ann := ⟨[], [], [(0, [0]), (1, [0, 3]), (2, [0, 3, 4]), (3, [3, 4, 8, 9, 10]), (4, [3, 4, 8, 9, 10, 11]), (5, [3, 4, 5, 6, 8, 9, 10]), (6, [3, 4, 6, 8, 9, 10, 16]), (7, [3, 4, 6, 7, 8, 9, 10]), (8, [3, 4, 6, 7, 8, 9, 10, 19]), (9, [3, 4, 8, 9, 10]), (10, [3, 4, 6, 7, 8, 9, 10, 35]), (11, [3, 4, 8, 9, 10]), (12, [3, 4, 6, 7, 8, 9, 10, 42]), (13, [3, 4, 8, 9, 10]), (14, [3, 4, 6, 7, 8, 9, 10, 49]), (15, [3, 4, 8, 9, 10]), (16, [3, 4, 8, 9, 10]), (17, [3, 4, 6, 7, 8, 9, 10, 61]), (18, [3, 4, 8, 9, 10]), (19, [3, 4, 8, 9, 10]), (20, [3, 4, 8, 9, 10, 74]), (21, [3, 4, 8, 9, 10]), (22, [3, 4, 8, 9, 10]), (23, [3, 87, 88]), (24, [3, 87, 88, 89]), (25, [3, 87, 88]), (26, [3, 87, 88]), (27, [2])], []⟩
theorem hk11 : comp Tryd.prog ha11 Tryd.f11.ntmps Tryd.f11.code = some hc11 := by kernel_rfl
def w11 (p1 : List (Int)) (Q : List (GLayout_Piece) → Prop) : Prop :=
  ∃ J5 : (List GLayout_Piece) → Int → Int → Prop, (∃ (I42 : (List GLayout_Piece) → Int → Int → Prop) (M43 : (List GLayout_Piece) → Int → Int → Nat), I42 ([] : List GLayout_Piece) (0 : Int) (0 : Int) ∧ ∀ (v6 : List GLayout_Piece) (v7 : Int) (v8 : Int), I42 v6 v7 v8 → ∀ v44 : Bool, v44 = decide (v8 < (p1.length : Int)) → ((v44 = true → (0 ≤ v8 ∧ v8 < (p1.length : Int)) ∧ ∀ a45 : Int, p1[(v8 : Int).toNat]? = some a45 → (((40 : Int) ≤ v8 → J5 v6 v7 v8) ∧ (v8 < (40 : Int) → ∃ r46 : Int, sp13 a45 (9 : Int) r46 ∧ ((r46 < (3 : Int) → (R64 (r46 + (1 : Int))) ∧ ∀ v47 : Int, v47 = r46 + (1 : Int) → (0 ≤ r46 ∧ r46 ≤ v47 ∧ v47 ≤ ([97, 98, 99].length : Int)) ∧ ∀ v48 : List UInt8, v48 = ([97, 98, 99].take (v47 : Int).toNat).drop (r46 : Int).toNat → ((9 : Int) ≠ 0 ∧ R64 ((a45).tdiv (9 : Int))) ∧ ∀ v49 : Int, v49 = (a45).tdiv (9 : Int) → ∃ r50 : Int, sp13 v49 (8 : Int) r50 ∧ (R64 ((1 : Int) + r50)) ∧ ∀ v51 : Int, v51 = (1 : Int) + r50 → ∃ r52 : List UInt8, sp24 v48 v51 r52 ∧ ((v6.length + ([(GLayout_Piece.mk (1 : Int) (0 : Int) r52)] : List GLayout_Piece).length) * 32 ≤ 140737488355328) ∧ ∀ v53 : List GLayout_Piece, v53 = v6 ++ ([(GLayout_Piece.mk (1 : Int) (0 : Int) r52)] : List GLayout_Piece) → (R64 (v8 + (1 : Int))) ∧ ∀ v54 : Int, v54 = v8 + (1 : Int) → (I42 v53 v7 v54 ∧ M43 v53 v7 v54 < M43 v6 v7 v8)) ∧ ((3 : Int) ≤ r46 → ((r46 < (5 : Int) → ((v6.length + ([(GLayout_Piece.mk (2 : Int) (0 : Int) [])] : List GLayout_Piece).length) * 32 ≤ 140737488355328) ∧ ∀ v55 : List GLayout_Piece, v55 = v6 ++ ([(GLayout_Piece.mk (2 : Int) (0 : Int) [])] : List GLayout_Piece) → (R64 (v8 + (1 : Int))) ∧ ∀ v56 : Int, v56 = v8 + (1 : Int) → (I42 v55 v7 v56 ∧ M43 v55 v7 v56 < M43 v6 v7 v8)) ∧ ((5 : Int) ≤ r46 → ((r46 = (5 : Int) → ((v6.length + ([(GLayout_Piece.mk (3 : Int) (0 : Int) [])] : List GLayout_Piece).length) * 32 ≤ 140737488355328) ∧ ∀ v57 : List GLayout_Piece, v57 = v6 ++ ([(GLayout_Piece.mk (3 : Int) (0 : Int) [])] : List GLayout_Piece) → (R64 (v8 + (1 : Int))) ∧ ∀ v58 : Int, v58 = v8 + (1 : Int) → (I42 v57 v7 v58 ∧ M43 v57 v7 v58 < M43 v6 v7 v8)) ∧ (r46 ≠ (5 : Int) → ((r46 = (6 : Int) → ((9 : Int) ≠ 0 ∧ R64 ((a45).tdiv (9 : Int))) ∧ ∀ v59 : Int, v59 = (a45).tdiv (9 : Int) → ∃ r60 : Int, sp13 v59 (4 : Int) r60 ∧ ((v6.length + ([(GLayout_Piece.mk (5 : Int) r60 [])] : List GLayout_Piece).length) * 32 ≤ 140737488355328) ∧ ∀ v61 : List GLayout_Piece, v61 = v6 ++ ([(GLayout_Piece.mk (5 : Int) r60 [])] : List GLayout_Piece) → (R64 (v7 + (1 : Int))) ∧ ∀ v62 : Int, v62 = v7 + (1 : Int) → (R64 (v8 + (1 : Int))) ∧ ∀ v63 : Int, v63 = v8 + (1 : Int) → (I42 v61 v62 v63 ∧ M43 v61 v62 v63 < M43 v6 v7 v8)) ∧ (r46 ≠ (6 : Int) → ((r46 = (7 : Int) → (((0 : Int) < v7 → ((v6.length + ([(GLayout_Piece.mk (6 : Int) (0 : Int) [])] : List GLayout_Piece).length) * 32 ≤ 140737488355328) ∧ ∀ v64 : List GLayout_Piece, v64 = v6 ++ ([(GLayout_Piece.mk (6 : Int) (0 : Int) [])] : List GLayout_Piece) → (R64 (v7 - (1 : Int))) ∧ ∀ v65 : Int, v65 = v7 - (1 : Int) → (R64 (v8 + (1 : Int))) ∧ ∀ v66 : Int, v66 = v8 + (1 : Int) → (I42 v64 v65 v66 ∧ M43 v64 v65 v66 < M43 v6 v7 v8)) ∧ (v7 ≤ (0 : Int) → ((r46 = (8 : Int) → ((5 : Int) ≠ 0) ∧ ∀ v67 : Int, v67 = (a45).tmod (5 : Int) → ((v67 = (0 : Int) → ((v6.length + ([(GLayout_Piece.mk (4 : Int) (0 : Int) [])] : List GLayout_Piece).length) * 32 ≤ 140737488355328) ∧ ∀ v68 : List GLayout_Piece, v68 = v6 ++ ([(GLayout_Piece.mk (4 : Int) (0 : Int) [])] : List GLayout_Piece) → (R64 (v8 + (1 : Int))) ∧ ∀ v69 : Int, v69 = v8 + (1 : Int) → (I42 v68 v7 v69 ∧ M43 v68 v7 v69 < M43 v6 v7 v8)) ∧ (v67 ≠ (0 : Int) → (R64 (v8 + (1 : Int))) ∧ ∀ v70 : Int, v70 = v8 + (1 : Int) → (I42 v6 v7 v70 ∧ M43 v6 v7 v70 < M43 v6 v7 v8)))) ∧ (r46 ≠ (8 : Int) → (R64 (v8 + (1 : Int))) ∧ ∀ v71 : Int, v71 = v8 + (1 : Int) → (I42 v6 v7 v71 ∧ M43 v6 v7 v71 < M43 v6 v7 v8)))))) ∧ (r46 ≠ (7 : Int) → ((r46 = (8 : Int) → ((5 : Int) ≠ 0) ∧ ∀ v72 : Int, v72 = (a45).tmod (5 : Int) → ((v72 = (0 : Int) → ((v6.length + ([(GLayout_Piece.mk (4 : Int) (0 : Int) [])] : List GLayout_Piece).length) * 32 ≤ 140737488355328) ∧ ∀ v73 : List GLayout_Piece, v73 = v6 ++ ([(GLayout_Piece.mk (4 : Int) (0 : Int) [])] : List GLayout_Piece) → (R64 (v8 + (1 : Int))) ∧ ∀ v74 : Int, v74 = v8 + (1 : Int) → (I42 v73 v7 v74 ∧ M43 v73 v7 v74 < M43 v6 v7 v8)) ∧ (v72 ≠ (0 : Int) → (R64 (v8 + (1 : Int))) ∧ ∀ v75 : Int, v75 = v8 + (1 : Int) → (I42 v6 v7 v75 ∧ M43 v6 v7 v75 < M43 v6 v7 v8)))) ∧ (r46 ≠ (8 : Int) → (R64 (v8 + (1 : Int))) ∧ ∀ v76 : Int, v76 = v8 + (1 : Int) → (I42 v6 v7 v76 ∧ M43 v6 v7 v76 < M43 v6 v7 v8)))))))))))))))) ∧ (v44 = false → J5 v6 v7 v8))) ∧ ∀ (v2 : List GLayout_Piece) (v3 : Int) (v4 : Int), J5 v2 v3 v4 → ∃ (I82 : (List GLayout_Piece) → Int → Prop) (M83 : (List GLayout_Piece) → Int → Nat), I82 v2 (0 : Int) ∧ ∀ (v77 : List GLayout_Piece) (v78 : Int), I82 v77 v78 → ∀ v84 : Bool, v84 = decide (v78 < v3) → ((v84 = true → ((v77.length + ([(GLayout_Piece.mk (6 : Int) (0 : Int) [])] : List GLayout_Piece).length) * 32 ≤ 140737488355328) ∧ ∀ v85 : List GLayout_Piece, v85 = v77 ++ ([(GLayout_Piece.mk (6 : Int) (0 : Int) [])] : List GLayout_Piece) → (R64 (v78 + (1 : Int))) ∧ ∀ v86 : Int, v86 = v78 + (1 : Int) → (I82 v85 v86 ∧ M83 v85 v86 < M83 v77 v78)) ∧ (v84 = false → Q v77))
theorem ok11 (p1 : List (Int)) (r : List (GLayout_Piece)) (hw : w11 p1 fun r' => r' = r) : sp11 p1 r := by
  refine zf (rs := [.t 2]) (g := zg11) Tryd.func11 hk11 ?_
  unfold w11 at hw
  show SC Tryd.prog Tryd.f11.ntmps 0 hc11 _ [(0, ln (eInt .i64) p1)] []
  unfold hc11
  refine q_reg (st_mv rfl (g_endq [(0, ln (eInt .i64) p1)] rfl ?_))
  refine q_reg (st_mv rfl (g_endq [(0, ln (eInt .i64) p1), (3, nl eGLayout_Piece)] rfl ?_))
  refine q_reg (st_mv rfl (g_endq [(0, ln (eInt .i64) p1), (3, nl eGLayout_Piece), (4, ii 0)] rfl ?_))
  obtain ⟨J5, hw, hk⟩ := hw
  refine sc_join (A := List GLayout_Piece × Int × Int) (fun x => J5 x.1 x.2.1 x.2.2) (fun x => ([(3, .list (List.map eGLayout_Piece x.1) (.own 0 1 3)), (4, ii x.2.1), (8, ln (eInt .i64) p1), (9, ii (p1.length : Int)), (10, ii x.2.2)], [.tok (1 + x.1.length)])) ?_ ?_
  · rintro ⟨v2, v3, v4⟩ hj
    have hw := hk v2 v3 v4 hj
    clear hk hj
    refine sc_seq (q_reg (st_mv rfl (st_mv rfl (g_endq [(3, .list (List.map eGLayout_Piece v2) (.own 0 1 3)), (87, ii v3), (88, ii 0)] rfl ?_))))
    refine sc_block ?_
    obtain ⟨I82, M83, hi, hw⟩ := hw
    refine sc_loop (X := { x : List GLayout_Piece × Int // I82 x.1 x.2 }) (fun x => ([(3, .list (List.map eGLayout_Piece x.1.1) (.own 0 1 3)), (87, ii v3), (88, ii x.1.2)], [.tok (1 + x.1.1.length)])) (fun x => M83 x.1.1 x.1.2) ⟨(v2, (0 : Int)), hi⟩ ws ?_
    rintro ⟨⟨v77, v78⟩, hi2⟩
    have hw := hw v77 v78 hi2
    clear hi
    refine q_reg (gb_cmp rfl rfl trivial rfl hw fun v84 hw => g_endq [(3, .list (List.map eGLayout_Piece v77) (.own 0 1 3)), (87, ii v3), (88, ii v78), (89, .bool v84)] rfl ?_)
    refine sc_seq (s_cond rfl hw (fun hw => ?_) (fun hw => ?_))
    · refine sc_skip (sq_n (sc_seq (sc_block (s_reg (st_mv rfl (g_build (cs := [ii 6, ii 0, .str []]) (ep_cons rfl ep_nil) rfl (g_mkl enc_GLayout_Piece [(GLayout_Piece.mk (6 : Int) (0 : Int) [])] (ec rfl en) rfl (mz mkn) (g_appo enc_GLayout_Piece rfl rfl rfl hw (fun z => [.tok (1 + z.length)]) (fun _ => rfl) fun v85 hw => st_mv rfl (g_end [(3, .list (List.map eGLayout_Piece v85) (.own 0 1 3)), (87, ii v3), (88, ii v78)] rfl ?_)))))))))
      refine bl_n (sq_n (s_reg (g_add rfl rfl hw fun v86 hw => st_mv rfl (g_end [(3, .list (List.map eGLayout_Piece v85) (.own 0 1 3)), (87, ii v3), (88, ii v86)] rfl ?_))))
      exact lo_n ⟨(v85, v86), hw.1⟩ hw.2 ws
    · refine sc_exit (sq_x (lo_x (bl_x (sq_n (q_reg (st_mv rfl (st_mv rfl (g_endq [(2, .list (List.map eGLayout_Piece v77) (.own 0 1 3))] rfl ?_))))))))
      exact sc_ret (gr (g := zg11) (ho := fun _ => []) [.list (List.map eGLayout_Piece v77) (.own 0 1 3)] [ln eGLayout_Piece v77] hw (.inr rfl) (wr []))
  · clear hk
    refine q_reg (st_mv rfl (g_len rfl (st_mv rfl (g_endq [(3, nl eGLayout_Piece), (4, ii 0), (8, ln (eInt .i64) p1), (9, ii (p1.length : Int)), (10, ii 0)] rfl ?_))))
    refine sc_block ?_
    obtain ⟨I42, M43, hi, hw⟩ := hw
    refine sc_loop (X := { x : List GLayout_Piece × Int × Int // I42 x.1 x.2.1 x.2.2 }) (fun x => ([(3, .list (List.map eGLayout_Piece x.1.1) (.own 0 1 3)), (4, ii x.1.2.1), (8, ln (eInt .i64) p1), (9, ii (p1.length : Int)), (10, ii x.1.2.2)], [.tok (1 + x.1.1.length)])) (fun x => M43 x.1.1 x.1.2.1 x.1.2.2) ⟨(([] : List GLayout_Piece), (0 : Int), (0 : Int)), hi⟩ ((w_acc (l := ([] : List GLayout_Piece)) 3 3 (n := 0) rfl enc_GLayout_Piece rfl).trans ws) ?_
    rintro ⟨⟨v6, v7, v8⟩, hi2⟩
    have hw := hw v6 v7 v8 hi2
    clear hi
    refine q_reg (gb_cmp rfl rfl trivial rfl hw fun v44 hw => g_endq [(3, .list (List.map eGLayout_Piece v6) (.own 0 1 3)), (4, ii v7), (8, ln (eInt .i64) p1), (9, ii (p1.length : Int)), (10, ii v8), (11, .bool v44)] rfl ?_)
    refine sc_seq (s_cond rfl hw (fun hw => ?_) (fun hw => ?_))
    · refine sc_skip (sq_n (sc_seq (sc_block (q_reg (st_mv rfl (g_iaddr (enc_int .i64) rfl rfl hw fun a45 hw => st_load_r rfl rfl (st_mv rfl (st_mv rfl (g_endq [(3, .list (List.map eGLayout_Piece v6) (.own 0 1 3)), (4, ii v7), (5, ii v8), (6, ii a45), (8, ln (eInt .i64) p1), (9, ii (p1.length : Int)), (10, ii v8)] rfl ?_)))))))))
      refine sc_seq (q_reg (st_mv rfl (g_geq rfl rfl hw (fun hw => g_endq [(3, .list (List.map eGLayout_Piece v6) (.own 0 1 3)), (4, ii v7), (6, ii a45), (8, ln (eInt .i64) p1), (9, ii (p1.length : Int)), (10, ii v8), (16, .bool true)] rfl ?_) (fun hw => g_endq [(3, .list (List.map eGLayout_Piece v6) (.own 0 1 3)), (4, ii v7), (6, ii a45), (8, ln (eInt .i64) p1), (9, ii (p1.length : Int)), (10, ii v8), (16, .bool false)] rfl ?_))))
      · exact s_cond_t rfl (sc_exit (sq_x (bl_p (by decide) (sq_x (lo_x (bl_x (jo_n (v6, v7, v8) hw ws)))))))
      · refine s_cond_f rfl (sc_skip (sq_n (q_reg (st_mv rfl (k_call dh (ec rfl (ec rfl en)) rfl hw fun r46 hw => st_mv rfl (g_endq [(3, .list (List.map eGLayout_Piece v6) (.own 0 1 3)), (4, ii v7), (6, ii a45), (7, ii r46), (8, ln (eInt .i64) p1), (9, ii (p1.length : Int)), (10, ii v8)] rfl ?_))))))
        refine sc_block (q_reg (st_mv rfl (g_lss rfl rfl hw (fun hw => st_mv rfl (g_endq [(3, .list (List.map eGLayout_Piece v6) (.own 0 1 3)), (4, ii v7), (6, ii a45), (7, ii r46), (8, ln (eInt .i64) p1), (9, ii (p1.length : Int)), (10, ii v8), (19, .bool true)] rfl ?_)) (fun hw => st_mv rfl (g_endq [(3, .list (List.map eGLayout_Piece v6) (.own 0 1 3)), (4, ii v7), (6, ii a45), (7, ii r46), (8, ln (eInt .i64) p1), (9, ii (p1.length : Int)), (10, ii v8), (19, .bool false)] rfl ?_)))))
        · refine s_cond_t rfl (s_dreg Tryd.mixed rfl (st_mv rfl (st_mv rfl (st_mv rfl (g_add rfl rfl hw fun v47 hw => g_sslice rfl (bnd_some rfl) (bnd_some rfl) hw fun v48 hw => st_mv rfl (g_quo rfl rfl hw fun v49 hw => k_call dd (ec rfl (ec rfl en)) rfl hw fun r50 hw => g_add rfl rfl hw fun v51 hw => k_call dd (ec rfl (ec rfl en)) rfl hw fun r52 hw => g_build (cs := [ii 1, ii 0, .str r52]) (ep_cons rfl (ep_cons rfl ep_nil)) rfl (g_mkl enc_GLayout_Piece [(GLayout_Piece.mk (1 : Int) (0 : Int) r52)] (ec rfl en) rfl (mz mkn) (g_appo enc_GLayout_Piece rfl rfl rfl hw (fun z => [.tok (1 + z.length)]) (fun _ => rfl) fun v53 hw => st_mv rfl (st_mid (g_end [(3, .list (List.map eGLayout_Piece v53) (.own 0 1 3)), (4, ii v7), (8, ln (eInt .i64) p1), (9, ii (p1.length : Int)), (10, ii v8)] rfl ?_))))))))))
          refine bl_n (bl_n (sq_n (s_reg (g_add rfl rfl hw fun v54 hw => st_mv rfl (g_end [(3, .list (List.map eGLayout_Piece v53) (.own 0 1 3)), (4, ii v7), (8, ln (eInt .i64) p1), (9, ii (p1.length : Int)), (10, ii v54)] rfl ?_)))))
          exact lo_n ⟨(v53, v7, v54), hw.1⟩ hw.2 ws
        · refine s_cond_f rfl (q_reg (st_mv rfl (g_lss rfl rfl hw (fun hw => st_mv rfl (g_endq [(3, .list (List.map eGLayout_Piece v6) (.own 0 1 3)), (4, ii v7), (6, ii a45), (7, ii r46), (8, ln (eInt .i64) p1), (9, ii (p1.length : Int)), (10, ii v8), (35, .bool true)] rfl ?_)) (fun hw => st_mv rfl (g_endq [(3, .list (List.map eGLayout_Piece v6) (.own 0 1 3)), (4, ii v7), (6, ii a45), (7, ii r46), (8, ln (eInt .i64) p1), (9, ii (p1.length : Int)), (10, ii v8), (35, .bool false)] rfl ?_)))))
          · refine s_cond_t rfl (s_reg (st_mv rfl (g_build (cs := [ii 2, ii 0, .str []]) (ep_cons rfl ep_nil) rfl (g_mkl enc_GLayout_Piece [(GLayout_Piece.mk (2 : Int) (0 : Int) [])] (ec rfl en) rfl (mz mkn) (g_appo enc_GLayout_Piece rfl rfl rfl hw (fun z => [.tok (1 + z.length)]) (fun _ => rfl) fun v55 hw => st_mv rfl (g_end [(3, .list (List.map eGLayout_Piece v55) (.own 0 1 3)), (4, ii v7), (8, ln (eInt .i64) p1), (9, ii (p1.length : Int)), (10, ii v8)] rfl ?_))))))
            refine bl_n (bl_n (sq_n (s_reg (g_add rfl rfl hw fun v56 hw => st_mv rfl (g_end [(3, .list (List.map eGLayout_Piece v55) (.own 0 1 3)), (4, ii v7), (8, ln (eInt .i64) p1), (9, ii (p1.length : Int)), (10, ii v56)] rfl ?_)))))
            exact lo_n ⟨(v55, v7, v56), hw.1⟩ hw.2 ws
          · refine s_cond_f rfl (q_reg (st_mv rfl (g_eqi rfl rfl hw (fun hw => st_mv rfl (g_endq [(3, .list (List.map eGLayout_Piece v6) (.own 0 1 3)), (4, ii v7), (6, ii a45), (7, ii r46), (8, ln (eInt .i64) p1), (9, ii (p1.length : Int)), (10, ii v8), (42, .bool true)] rfl ?_)) (fun hw => st_mv rfl (g_endq [(3, .list (List.map eGLayout_Piece v6) (.own 0 1 3)), (4, ii v7), (6, ii a45), (7, ii r46), (8, ln (eInt .i64) p1), (9, ii (p1.length : Int)), (10, ii v8), (42, .bool false)] rfl ?_)))))
            · refine s_cond_t rfl (s_reg (st_mv rfl (g_build (cs := [ii 3, ii 0, .str []]) (ep_cons rfl ep_nil) rfl (g_mkl enc_GLayout_Piece [(GLayout_Piece.mk (3 : Int) (0 : Int) [])] (ec rfl en) rfl (mz mkn) (g_appo enc_GLayout_Piece rfl rfl rfl hw (fun z => [.tok (1 + z.length)]) (fun _ => rfl) fun v57 hw => st_mv rfl (g_end [(3, .list (List.map eGLayout_Piece v57) (.own 0 1 3)), (4, ii v7), (8, ln (eInt .i64) p1), (9, ii (p1.length : Int)), (10, ii v8)] rfl ?_))))))
              refine bl_n (bl_n (sq_n (s_reg (g_add rfl rfl hw fun v58 hw => st_mv rfl (g_end [(3, .list (List.map eGLayout_Piece v57) (.own 0 1 3)), (4, ii v7), (8, ln (eInt .i64) p1), (9, ii (p1.length : Int)), (10, ii v58)] rfl ?_)))))
              exact lo_n ⟨(v57, v7, v58), hw.1⟩ hw.2 ws
            · refine s_cond_f rfl (q_reg (st_mv rfl (g_eqi rfl rfl hw (fun hw => st_mv rfl (g_endq [(3, .list (List.map eGLayout_Piece v6) (.own 0 1 3)), (4, ii v7), (6, ii a45), (7, ii r46), (8, ln (eInt .i64) p1), (9, ii (p1.length : Int)), (10, ii v8), (49, .bool true)] rfl ?_)) (fun hw => st_mv rfl (g_endq [(3, .list (List.map eGLayout_Piece v6) (.own 0 1 3)), (4, ii v7), (6, ii a45), (7, ii r46), (8, ln (eInt .i64) p1), (9, ii (p1.length : Int)), (10, ii v8), (49, .bool false)] rfl ?_)))))
              · refine s_cond_t rfl (q_reg (st_mv rfl (st_mv rfl (g_quo rfl rfl hw fun v59 hw => k_call dh (ec rfl (ec rfl en)) rfl hw fun r60 hw => g_build (cs := [ii 5, ii r60, .str []]) (ep_cons rfl (ep_cons rfl ep_nil)) rfl (g_mkl enc_GLayout_Piece [(GLayout_Piece.mk (5 : Int) r60 [])] (ec rfl en) rfl (mz mkn) (g_appo enc_GLayout_Piece rfl rfl rfl hw (fun z => [.tok (1 + z.length)]) (fun _ => rfl) fun v61 hw => st_mv rfl (g_endq [(3, .list (List.map eGLayout_Piece v61) (.own 0 1 3)), (4, ii v7), (8, ln (eInt .i64) p1), (9, ii (p1.length : Int)), (10, ii v8)] rfl ?_)))))))
                refine s_reg (st_mv rfl (g_add rfl rfl hw fun v62 hw => st_mv rfl (g_end [(3, .list (List.map eGLayout_Piece v61) (.own 0 1 3)), (4, ii v62), (8, ln (eInt .i64) p1), (9, ii (p1.length : Int)), (10, ii v8)] rfl ?_)))
                refine bl_n (bl_n (sq_n (s_reg (g_add rfl rfl hw fun v63 hw => st_mv rfl (g_end [(3, .list (List.map eGLayout_Piece v61) (.own 0 1 3)), (4, ii v62), (8, ln (eInt .i64) p1), (9, ii (p1.length : Int)), (10, ii v63)] rfl ?_)))))
                exact lo_n ⟨(v61, v62, v63), hw.1⟩ hw.2 ws
              · refine s_cond_f rfl (q_reg (st_mv rfl (g_eqi rfl rfl hw (fun hw => st_mv rfl (st_g rfl (st_mv rfl (st_g rfl (g_gtr rfl rfl hw (fun hw => st_pick_t rfl rfl rfl (st_mv rfl (g_endq [(3, .list (List.map eGLayout_Piece v6) (.own 0 1 3)), (4, ii v7), (6, ii a45), (7, ii r46), (8, ln (eInt .i64) p1), (9, ii (p1.length : Int)), (10, ii v8), (61, .bool true)] rfl ?_))) (fun hw => st_pick_t rfl rfl rfl (st_mv rfl (g_endq [(3, .list (List.map eGLayout_Piece v6) (.own 0 1 3)), (4, ii v7), (6, ii a45), (7, ii r46), (8, ln (eInt .i64) p1), (9, ii (p1.length : Int)), (10, ii v8), (61, .bool false)] rfl ?_)))))))) (fun hw => st_mv rfl (st_gft rfl (st_gft rfl (st_pick_f rfl rfl rfl (st_mv rfl (g_endq [(3, .list (List.map eGLayout_Piece v6) (.own 0 1 3)), (4, ii v7), (6, ii a45), (7, ii r46), (8, ln (eInt .i64) p1), (9, ii (p1.length : Int)), (10, ii v8), (61, .bool false)] rfl ?_)))))))))
                · refine s_cond_t rfl (q_reg (st_mv rfl (g_build (cs := [ii 6, ii 0, .str []]) (ep_cons rfl ep_nil) rfl (g_mkl enc_GLayout_Piece [(GLayout_Piece.mk (6 : Int) (0 : Int) [])] (ec rfl en) rfl (mz mkn) (g_appo enc_GLayout_Piece rfl rfl rfl hw (fun z => [.tok (1 + z.length)]) (fun _ => rfl) fun v64 hw => st_mv rfl (g_endq [(3, .list (List.map eGLayout_Piece v64) (.own 0 1 3)), (4, ii v7), (8, ln (eInt .i64) p1), (9, ii (p1.length : Int)), (10, ii v8)] rfl ?_))))))
                  refine s_reg (st_mv rfl (g_sub rfl rfl hw fun v65 hw => st_mv rfl (g_end [(3, .list (List.map eGLayout_Piece v64) (.own 0 1 3)), (4, ii v65), (8, ln (eInt .i64) p1), (9, ii (p1.length : Int)), (10, ii v8)] rfl ?_)))
                  refine bl_n (bl_n (sq_n (s_reg (g_add rfl rfl hw fun v66 hw => st_mv rfl (g_end [(3, .list (List.map eGLayout_Piece v64) (.own 0 1 3)), (4, ii v65), (8, ln (eInt .i64) p1), (9, ii (p1.length : Int)), (10, ii v66)] rfl ?_)))))
                  exact lo_n ⟨(v64, v65, v66), hw.1⟩ hw.2 ws
                · refine s_cond_f rfl (q_reg (st_mv rfl (g_eqi rfl rfl hw (fun hw => st_mv rfl (st_g rfl (st_mv rfl (st_g rfl (g_rem rfl rfl hw fun v67 hw => st_g rfl (g_eqi rfl rfl hw (fun hw => st_pick_t rfl rfl rfl (st_mv rfl (g_endq [(3, .list (List.map eGLayout_Piece v6) (.own 0 1 3)), (4, ii v7), (8, ln (eInt .i64) p1), (9, ii (p1.length : Int)), (10, ii v8), (74, .bool true)] rfl ?_))) (fun hw => st_pick_t rfl rfl rfl (st_mv rfl (g_endq [(3, .list (List.map eGLayout_Piece v6) (.own 0 1 3)), (4, ii v7), (8, ln (eInt .i64) p1), (9, ii (p1.length : Int)), (10, ii v8), (74, .bool false)] rfl ?_))))))))) (fun hw => st_mv rfl (st_gft rfl (st_gft rfl (st_gft rfl (st_pick_f rfl rfl rfl (st_mv rfl (g_endq [(3, .list (List.map eGLayout_Piece v6) (.own 0 1 3)), (4, ii v7), (8, ln (eInt .i64) p1), (9, ii (p1.length : Int)), (10, ii v8), (74, .bool false)] rfl ?_))))))))))
                  · refine s_cond_t rfl (s_reg (st_mv rfl (g_build (cs := [ii 4, ii 0, .str []]) (ep_cons rfl ep_nil) rfl (g_mkl enc_GLayout_Piece [(GLayout_Piece.mk (4 : Int) (0 : Int) [])] (ec rfl en) rfl (mz mkn) (g_appo enc_GLayout_Piece rfl rfl rfl hw (fun z => [.tok (1 + z.length)]) (fun _ => rfl) fun v68 hw => st_mv rfl (g_end [(3, .list (List.map eGLayout_Piece v68) (.own 0 1 3)), (4, ii v7), (8, ln (eInt .i64) p1), (9, ii (p1.length : Int)), (10, ii v8)] rfl ?_))))))
                    refine bl_n (bl_n (sq_n (s_reg (g_add rfl rfl hw fun v69 hw => st_mv rfl (g_end [(3, .list (List.map eGLayout_Piece v68) (.own 0 1 3)), (4, ii v7), (8, ln (eInt .i64) p1), (9, ii (p1.length : Int)), (10, ii v69)] rfl ?_)))))
                    exact lo_n ⟨(v68, v7, v69), hw.1⟩ hw.2 ws
                  · refine s_cond_f rfl (sc_skip (bl_n (bl_n (sq_n (s_reg (g_add rfl rfl hw fun v70 hw => st_mv rfl (g_end [(3, .list (List.map eGLayout_Piece v6) (.own 0 1 3)), (4, ii v7), (8, ln (eInt .i64) p1), (9, ii (p1.length : Int)), (10, ii v70)] rfl ?_)))))))
                    exact lo_n ⟨(v6, v7, v70), hw.1⟩ hw.2 ws
                  · refine s_cond_f rfl (sc_skip (bl_n (bl_n (sq_n (s_reg (g_add rfl rfl hw fun v71 hw => st_mv rfl (g_end [(3, .list (List.map eGLayout_Piece v6) (.own 0 1 3)), (4, ii v7), (8, ln (eInt .i64) p1), (9, ii (p1.length : Int)), (10, ii v71)] rfl ?_)))))))
                    exact lo_n ⟨(v6, v7, v71), hw.1⟩ hw.2 ws
                · refine s_cond_f rfl (q_reg (st_mv rfl (g_eqi rfl rfl hw (fun hw => st_mv rfl (st_g rfl (st_mv rfl (st_g rfl (g_rem rfl rfl hw fun v72 hw => st_g rfl (g_eqi rfl rfl hw (fun hw => st_pick_t rfl rfl rfl (st_mv rfl (g_endq [(3, .list (List.map eGLayout_Piece v6) (.own 0 1 3)), (4, ii v7), (8, ln (eInt .i64) p1), (9, ii (p1.length : Int)), (10, ii v8), (74, .bool true)] rfl ?_))) (fun hw => st_pick_t rfl rfl rfl (st_mv rfl (g_endq [(3, .list (List.map eGLayout_Piece v6) (.own 0 1 3)), (4, ii v7), (8, ln (eInt .i64) p1), (9, ii (p1.length : Int)), (10, ii v8), (74, .bool false)] rfl ?_))))))))) (fun hw => st_mv rfl (st_gft rfl (st_gft rfl (st_gft rfl (st_pick_f rfl rfl rfl (st_mv rfl (g_endq [(3, .list (List.map eGLayout_Piece v6) (.own 0 1 3)), (4, ii v7), (8, ln (eInt .i64) p1), (9, ii (p1.length : Int)), (10, ii v8), (74, .bool false)] rfl ?_))))))))))
                  · refine s_cond_t rfl (s_reg (st_mv rfl (g_build (cs := [ii 4, ii 0, .str []]) (ep_cons rfl ep_nil) rfl (g_mkl enc_GLayout_Piece [(GLayout_Piece.mk (4 : Int) (0 : Int) [])] (ec rfl en) rfl (mz mkn) (g_appo enc_GLayout_Piece rfl rfl rfl hw (fun z => [.tok (1 + z.length)]) (fun _ => rfl) fun v73 hw => st_mv rfl (g_end [(3, .list (List.map eGLayout_Piece v73) (.own 0 1 3)), (4, ii v7), (8, ln (eInt .i64) p1), (9, ii (p1.length : Int)), (10, ii v8)] rfl ?_))))))
                    refine bl_n (bl_n (sq_n (s_reg (g_add rfl rfl hw fun v74 hw => st_mv rfl (g_end [(3, .list (List.map eGLayout_Piece v73) (.own 0 1 3)), (4, ii v7), (8, ln (eInt .i64) p1), (9, ii (p1.length : Int)), (10, ii v74)] rfl ?_)))))
                    exact lo_n ⟨(v73, v7, v74), hw.1⟩ hw.2 ws
                  · refine s_cond_f rfl (sc_skip (bl_n (bl_n (sq_n (s_reg (g_add rfl rfl hw fun v75 hw => st_mv rfl (g_end [(3, .list (List.map eGLayout_Piece v6) (.own 0 1 3)), (4, ii v7), (8, ln (eInt .i64) p1), (9, ii (p1.length : Int)), (10, ii v75)] rfl ?_)))))))
                    exact lo_n ⟨(v6, v7, v75), hw.1⟩ hw.2 ws
                  · refine s_cond_f rfl (sc_skip (bl_n (bl_n (sq_n (s_reg (g_add rfl rfl hw fun v76 hw => st_mv rfl (g_end [(3, .list (List.map eGLayout_Piece v6) (.own 0 1 3)), (4, ii v7), (8, ln (eInt .i64) p1), (9, ii (p1.length : Int)), (10, ii v76)] rfl ?_)))))))
                    exact lo_n ⟨(v6, v7, v76), hw.1⟩ hw.2 ws
    · exact sc_exit (sq_x (lo_x (bl_x (jo_n (v6, v7, v8) hw ws))))
def hc13 : C := (.seq (.reg [oo 4 (.mv (.c (.int .i64 0)))] [0, 1]) (.seq (.seq (.reg [mo 5 0, oo 6 (.bin .lss 5 (.c (.int .i64 0)))] [0, 1, 6]) (.cond 6 (.reg [mo 7 0, oo 8 (.bin .add 7 (.c (.int .i64 1))), oo 9 (.un .neg 8), mo 0 9] [0, 1]) .skip)) (.seq (.reg [mo 10 0, mo 11 1, oo 12 (.bin .rem 10 11), mo 4 12] [4]) .ret)))
def ha13 : Ann := ⟨[], [], [(0, [0, 1]), (1, [0, 1, 6]), (2, [0, 1]), (3, [4])], []⟩
theorem hk13 : comp Tryd.prog ha13 Tryd.f13.ntmps Tryd.f13.code = some hc13 := by kernel_rfl
def w13 (p1 : Int) (p2 : Int) (Q : Int → Prop) : Prop :=
  ∃ J4 : Int → Prop, (((p1 < (0 : Int) → (R64 (p1 + (1 : Int))) ∧ ∀ v5 : Int, v5 = p1 + (1 : Int) → (-9223372036854775807 ≤ v5 ∧ v5 ≤ 9223372036854775807) ∧ ∀ v6 : Int, v6 = -(v5) → J4 v6) ∧ ((0 : Int) ≤ p1 → J4 p1))) ∧ ∀ (v3 : Int), J4 v3 → (p2 ≠ 0) ∧ ∀ v7 : Int, v7 = (v3).tmod p2 → Q v7
theorem ok13 (p1 : Int) (p2 : Int) (r : Int) (hw : w13 p1 p2 fun r' => r' = r) : sp13 p1 p2 r := by
  refine zf (rs := [.t 4]) (g := zg13) Tryd.func13 hk13 ?_
  unfold w13 at hw
  show SC Tryd.prog Tryd.f13.ntmps 0 hc13 _ [(0, ii p1), (1, ii p2)] []
  unfold hc13
  refine q_reg (st_mv rfl (g_endq [(0, ii p1), (1, ii p2)] rfl ?_))
  obtain ⟨J4, hw, hk⟩ := hw
  refine sc_join (A := Int) (fun x => J4 x) (fun x => ([(0, ii x), (1, ii p2)], [])) ?_ ?_
  · rintro v3 hj
    have hw := hk v3 hj
    clear hk hj
    refine q_reg (st_mv rfl (st_mv rfl (g_rem rfl rfl hw fun v7 hw => st_mv rfl (g_endq [(4, ii v7)] rfl ?_))))
    exact sc_ret (gr1 (g := zg13) (ho := fun _ => []) [ii v7] hw (.inr rfl) ws)
  · clear hk
    refine q_reg (st_mv rfl (g_lss rfl rfl hw (fun hw => g_endq [(0, ii p1), (1, ii p2), (6, .bool true)] rfl ?_) (fun hw => g_endq [(0, ii p1), (1, ii p2), (6, .bool false)] rfl ?_)))
    · refine s_cond_t rfl (s_reg (st_mv rfl (g_add rfl rfl hw fun v5 hw => g_neg rfl hw fun v6 hw => st_mv rfl (g_end [(0, ii v6), (1, ii p2)] rfl ?_))))
      exact jo_n v6 hw ws
    · exact s_cond_f rfl (sc_skip (jo_n p1 hw ws))
def hc25 : C := (.seq (.reg [oo 2 (.mv (.c (.int .i64 0)))] [0]) (.seq (.seq (.reg [mo 6 0, oo 7 (.len false 6), oo 8 (.bin .gtr 7 (.c (.int .i64 8000)))] [0, 8]) (.cond 8 (.seq (.reg [oo 2 (.mv (.c (.int .i64 2)))] [2]) .ret) .skip)) (.seq (.reg [oo 3 (.mv (.c (.int .i64 0)))] [0, 3]) (.seq (.seq (.reg [mo 9 0, oo 10 (.len false 9), oo 11 (.mv (.c (.int .i64 0)))] [3, 9, 10, 11]) (.block 0 (.loop (.seq (.reg [oo 12 (.bin .lss 11 10)] [3, 9, 10, 11, 12]) (.seq (.cond 12 .skip (.exit 0)) (.seq (.block 1 (.seq (.reg [oo 13 (.iaddr 3 9 11), oo 14 (.load (some 3) 13), oo 5 (.alloc none [(.int .i64 0), (.int .i64 0), (.str [])]), os (.store 3 5 14)] [3, 5, 9, 10, 11]) (.seq (.block 2 (.seq (.reg [oo 16 (.faddr 0 1 5), oo 17 (.load none 16), oo 18 (.bin .lss 17 (.c (.int .i64 1))), mo 19 18, og 20 (.faddr 0 1 5) 19 false, og 21 (.load none 20) 19 false, og 22 (.bin .gtr 21 (.c (.int .i64 6))) 19 false, oo 23 (.pick 19 (.c (.bool true)) 22), mo 24 23, og 25 (.faddr 0 1 5) 24 false, og 26 (.load none 25) 24 false, og 27 (.eqv true .int 26 (.c (.int .i64 1))) 24 false, og 28 (.mv 27) 24 false, og 29 (.faddr 2 1 5) 28 true, og 30 (.load none 29) 28 true, og 31 (.eqv true .str 30 (.c (.str []))) 28 true, og 32 (.pick 28 31 (.c (.bool false))) 24 false, oo 33 (.pick 24 (.c (.bool true)) 32), mo 34 33, og 35 (.faddr 0 1 5) 34 false, og 36 (.load none 35) 34 false, og 37 (.eqv true .int 36 (.c (.int .i64 5))) 34 false, og 38 (.mv 37) 34 false, og 39 (.faddr 1 1 5) 38 true, og 40 (.load none 39) 38 true, og 41 (.eqv true .int 40 (.c (.int .i64 0))) 38 true, og 42 (.pick 38 41 (.c (.bool false))) 34 false, oo 43 (.pick 34 (.c (.bool true)) 42), mo 15 43] [3, 5, 9, 10, 11, 15]) (.cond 15 (.seq (.reg [oo 2 (.mv (.c (.int .i64 3)))] [2]) .ret) (.seq (.reg [oo 45 (.faddr 0 1 5), oo 46 (.load none 45), oo 47 (.eqv false .int 46 (.c (.int .i64 1))), mo 48 47, og 49 (.faddr 2 1 5) 48 true, og 50 (.load none 49) 48 true, og 51 (.len true 50) 48 true, og 52 (.bin .gtr 51 (.c (.int .i64 4000))) 48 true, og 53 (.mv 52) 48 true, og 54 (.faddr 2 1 5) 53 false, og 55 (.load none 54) 53 false, cg 56 (.call 47 [55, (.c (.str [10]))]) 53 false, og 57 (.pick 53 (.c (.bool true)) 56) 48 true, oo 58 (.pick 48 57 (.c (.bool false))), mo 44 58] [3, 5, 9, 10, 11, 44]) (.cond 44 (.seq (.reg [oo 2 (.mv (.c (.int .i64 3)))] [2]) .ret) (.seq (.reg [oo 60 (.faddr 0 1 5), oo 61 (.load none 60), oo 62 (.eqv false .int 61 (.c (.int .i64 5))), mo 63 62, og 64 (.faddr 1 1 5) 63 true, og 65 (.load none 64) 63 true, og 66 (.bin .lss 65 (.c (.int .i64 0))) 63 true, og 67 (.mv 66) 63 true, og 68 (.faddr 1 1 5) 67 false, og 69 (.load none 68) 67 false, og 70 (.bin .gtr 69 (.c (.int .i64 200))) 67 false, og 71 (.pick 67 (.c (.bool true)) 70) 63 true, oo 72 (.pick 63 71 (.c (.bool false))), mo 59 72] [3, 5, 9, 10, 11, 59]) (.cond 59 (.seq (.reg [oo 2 (.mv (.c (.int .i64 1)))] [2]) .ret) .skip))))))) (.seq (.seq (.reg [oo 73 (.faddr 0 1 5), oo 74 (.load none 73)] [3, 9, 10, 11, 74]) (.block 3 (.seq (.reg [oo 76 (.eqv false .int 74 (.c (.int .i64 5))), mo 75 76] [3, 9, 10, 11, 74, 75]) (.cond 75 (.reg [mo 77 3, oo 78 (.bin .add 77 (.c (.int .i64 1))), mo 3 78] [3, 9, 10, 11]) (.seq (.reg [oo 80 (.eqv false .int 74 (.c (.int .i64 6))), mo 79 80] [3, 9, 10, 11, 79]) (.cond 79 (.reg [mo 81 3, oo 82 (.bin .sub 81 (.c (.int .i64 1))), mo 3 82] [3, 9, 10, 11]) .skip)))))) (.seq (.reg [mo 83 3, oo 84 (.bin .lss 83 (.c (.int .i64 0))), mo 85 84, og 86 (.mv 3) 85 false, og 87 (.bin .gtr 86 (.c (.int .i64 200))) 85 false, oo 88 (.pick 85 (.c (.bool true)) 87)] [3, 9, 10, 11, 88]) (.cond 88 (.seq (.reg [oo 2 (.mv (.c (.int .i64 3)))] [2]) .ret) .skip)))))) (.reg [oo 89 (.bin .add 11 (.c (.int .i64 1))), mo 11 89] [3, 9, 10, 11]))))))) (.seq (.seq (.reg [mo 90 3, oo 91 (.eqv true .int 90 (.c (.int .i64 0)))] [91]) (.cond 91 (.seq (.reg [oo 2 (.mv (.c (.int .i64 3)))] [2]) .ret) .skip)) (.seq (.reg [oo 2 (.mv (.c (.int .i64 0)))] [2]) .ret))))))
def ha25 : Ann := ⟨[], [], [(0, [0]), (1, [0, 8]), (2, [2]), (3, [0, 3]), (4, [3, 9, 10, 11]), (5, [3, 9, 10, 11, 12]), (6, [3, 5, 9, 10, 11]), (7, [3, 5, 9, 10, 11, 15]), (8, [2]), (9, [3, 5, 9, 10, 11, 44]), (10, [2]), (11, [3, 5, 9, 10, 11, 59]), (12, [2]), (13, [3, 9, 10, 11, 74]), (14, [3, 9, 10, 11, 74, 75]), (15, [3, 9, 10, 11]), (16, [3, 9, 10, 11, 79]), (17, [3, 9, 10, 11]), (18, [3, 9, 10, 11, 88]), (19, [2]), (20, [3, 9, 10, 11]), (21, [91]), (22, [2]), (23, [2])], []⟩
theorem hk25 : comp Tryd.prog ha25 Tryd.f25.ntmps Tryd.f25.code = some hc25 := by kernel_rfl
def w25 (p1 : List (GLayout_Piece)) (Q : Int → Prop) : Prop :=
  (((8000 : Int) < (p1.length : Int) → Q (2 : Int)) ∧ ((p1.length : Int) ≤ (8000 : Int) → ∃ (I24 : Int → Int → Prop) (M25 : Int → Int → Nat), I24 (0 : Int) (0 : Int) ∧ ∀ (v2 : Int) (v3 : Int), I24 v2 v3 → ∀ v26 : Bool, v26 = decide (v3 < (p1.length : Int)) → ((v26 = true → (0 ≤ v3 ∧ v3 < (p1.length : Int)) ∧ ∀ a27 : GLayout_Piece, p1[(v3 : Int).toNat]? = some a27 → ∃ J28 : Prop, (((a27.Kind < (1 : Int) → Q (3 : Int)) ∧ ((1 : Int) ≤ a27.Kind → (((6 : Int) < a27.Kind → Q (3 : Int)) ∧ (a27.Kind ≤ (6 : Int) → ((a27.Kind ≠ (1 : Int) → ((a27.S ≠ [] → Q (3 : Int)) ∧ (a27.S = [] → ((a27.Kind ≠ (5 : Int) → ((a27.N ≠ (0 : Int) → Q (3 : Int)) ∧ (a27.N = (0 : Int) → ∃ J30 : Bool → Prop, (((a27.Kind = (1 : Int) → (((4000 : Int) < (a27.S.length : Int) → J30 true) ∧ ((a27.S.length : Int) ≤ (4000 : Int) → ∃ r31 : Bool, sp47 a27.S [10] r31 ∧ J30 r31))) ∧ (a27.Kind ≠ (1 : Int) → J30 false))) ∧ ∀ (v29 : Bool), J30 v29 → ((v29 = true → Q (3 : Int)) ∧ (v29 = false → ((a27.Kind = (5 : Int) → ((a27.N < (0 : Int) → Q (1 : Int)) ∧ ((0 : Int) ≤ a27.N → (((200 : Int) < a27.N → Q (1 : Int)) ∧ (a27.N ≤ (200 : Int) → J28))))) ∧ (a27.Kind ≠ (5 : Int) → J28))))))) ∧ (a27.Kind = (5 : Int) → ∃ J33 : Bool → Prop, (((a27.Kind = (1 : Int) → (((4000 : Int) < (a27.S.length : Int) → J33 true) ∧ ((a27.S.length : Int) ≤ (4000 : Int) → ∃ r34 : Bool, sp47 a27.S [10] r34 ∧ J33 r34))) ∧ (a27.Kind ≠ (1 : Int) → J33 false))) ∧ ∀ (v32 : Bool), J33 v32 → ((v32 = true → Q (3 : Int)) ∧ (v32 = false → ((a27.Kind = (5 : Int) → ((a27.N < (0 : Int) → Q (1 : Int)) ∧ ((0 : Int) ≤ a27.N → (((200 : Int) < a27.N → Q (1 : Int)) ∧ (a27.N ≤ (200 : Int) → J28))))) ∧ (a27.Kind ≠ (5 : Int) → J28))))))))) ∧ (a27.Kind = (1 : Int) → ((a27.Kind ≠ (5 : Int) → ((a27.N ≠ (0 : Int) → Q (3 : Int)) ∧ (a27.N = (0 : Int) → ∃ J36 : Bool → Prop, (((a27.Kind = (1 : Int) → (((4000 : Int) < (a27.S.length : Int) → J36 true) ∧ ((a27.S.length : Int) ≤ (4000 : Int) → ∃ r37 : Bool, sp47 a27.S [10] r37 ∧ J36 r37))) ∧ (a27.Kind ≠ (1 : Int) → J36 false))) ∧ ∀ (v35 : Bool), J36 v35 → ((v35 = true → Q (3 : Int)) ∧ (v35 = false → ((a27.Kind = (5 : Int) → ((a27.N < (0 : Int) → Q (1 : Int)) ∧ ((0 : Int) ≤ a27.N → (((200 : Int) < a27.N → Q (1 : Int)) ∧ (a27.N ≤ (200 : Int) → J28))))) ∧ (a27.Kind ≠ (5 : Int) → J28))))))) ∧ (a27.Kind = (5 : Int) → ∃ J39 : Bool → Prop, (((a27.Kind = (1 : Int) → (((4000 : Int) < (a27.S.length : Int) → J39 true) ∧ ((a27.S.length : Int) ≤ (4000 : Int) → ∃ r40 : Bool, sp47 a27.S [10] r40 ∧ J39 r40))) ∧ (a27.Kind ≠ (1 : Int) → J39 false))) ∧ ∀ (v38 : Bool), J39 v38 → ((v38 = true → Q (3 : Int)) ∧ (v38 = false → ((a27.Kind = (5 : Int) → ((a27.N < (0 : Int) → Q (1 : Int)) ∧ ((0 : Int) ≤ a27.N → (((200 : Int) < a27.N → Q (1 : Int)) ∧ (a27.N ≤ (200 : Int) → J28))))) ∧ (a27.Kind ≠ (5 : Int) → J28))))))))))))) ∧ (J28 → ∃ J42 : Int → Prop, (((a27.Kind = (5 : Int) → (R64 (v2 + (1 : Int))) ∧ ∀ v43 : Int, v43 = v2 + (1 : Int) → J42 v43) ∧ (a27.Kind ≠ (5 : Int) → ((a27.Kind = (6 : Int) → (R64 (v2 - (1 : Int))) ∧ ∀ v44 : Int, v44 = v2 - (1 : Int) → J42 v44) ∧ (a27.Kind ≠ (6 : Int) → J42 v2))))) ∧ ∀ (v41 : Int), J42 v41 → ((v41 < (0 : Int) → Q (3 : Int)) ∧ ((0 : Int) ≤ v41 → (((200 : Int) < v41 → Q (3 : Int)) ∧ (v41 ≤ (200 : Int) → (R64 (v3 + (1 : Int))) ∧ ∀ v45 : Int, v45 = v3 + (1 : Int) → (I24 v41 v45 ∧ M25 v41 v45 < M25 v2 v3))))))) ∧ (v26 = false → ((v2 ≠ (0 : Int) → Q (3 : Int)) ∧ (v2 = (0 : Int) → Q (0 : Int)))))))
theorem ok25 (p1 : List (GLayout_Piece)) (r : Int) (hw : w25 p1 fun r' => r' = r) : sp25 p1 r := by
  refine zf (rs := [.t 2]) (g := zg25) Tryd.func25 hk25 ?_
  unfold w25 at hw
  show SC Tryd.prog Tryd.f25.ntmps 0 hc25 _ [(0, ln eGLayout_Piece p1)] []
  unfold hc25
  refine q_reg (st_mv rfl (g_endq [(0, ln eGLayout_Piece p1)] rfl ?_))
  refine sc_seq (q_reg (st_mv rfl (g_len rfl (g_gtr rfl rfl hw (fun hw => g_endq [(0, ln eGLayout_Piece p1), (8, .bool true)] rfl ?_) (fun hw => g_endq [(0, ln eGLayout_Piece p1), (8, .bool false)] rfl ?_)))))
  · refine s_cond_t rfl (q_reg (st_mv rfl (g_endq [(2, ii 2)] rfl ?_)))
    exact sc_ret (sq_r (gr1 (g := zg25) (ho := fun _ => []) [ii 2] hw (.inr rfl) ws))
  · refine s_cond_f rfl (sc_skip (sq_n (q_reg (st_mv rfl (g_endq [(0, ln eGLayout_Piece p1), (3, ii 0)] rfl ?_)))))
    refine sc_seq (q_reg (st_mv rfl (g_len rfl (st_mv rfl (g_endq [(3, ii 0), (9, ln eGLayout_Piece p1), (10, ii (p1.length : Int)), (11, ii 0)] rfl ?_)))))
    refine sc_block ?_
    obtain ⟨I24, M25, hi, hw⟩ := hw
    refine sc_loop (X := { x : Int × Int // I24 x.1 x.2 }) (fun x => ([(3, ii x.1.1), (9, ln eGLayout_Piece p1), (10, ii (p1.length : Int)), (11, ii x.1.2)], [])) (fun x => M25 x.1.1 x.1.2) ⟨((0 : Int), (0 : Int)), hi⟩ ws ?_
    rintro ⟨⟨v2, v3⟩, hi2⟩
    have hw := hw v2 v3 hi2
    clear hi
    refine q_reg (gb_cmp rfl rfl trivial rfl hw fun v26 hw => g_endq [(3, ii v2), (9, ln eGLayout_Piece p1), (10, ii (p1.length : Int)), (11, ii v3), (12, .bool v26)] rfl ?_)
    refine sc_seq (s_cond rfl hw (fun hw => ?_) (fun hw => ?_))
    · refine sc_skip (sq_n (sc_seq (sc_block (q_reg (g_iaddr enc_GLayout_Piece rfl rfl hw fun a27 hw => st_load_r (v := eGLayout_Piece a27) rfl rfl (g_alloc (n := 0) rfl rfl (g_sp (v := eGLayout_Piece a27) (h' := [.cells (HV.cells (eGLayout_Piece a27))]) rfl rfl rfl (g_endq [(3, ii v2), (5, .ptr 0 0), (9, ln eGLayout_Piece p1), (10, ii (p1.length : Int)), (11, ii v3)] rfl ?_))))))))
      obtain ⟨J28, hw, hk⟩ := hw
      refine sc_join (A := Unit) (fun x => J28) (fun x => ([(3, ii v2), (5, .ptr 0 0), (9, ln eGLayout_Piece p1), (10, ii (p1.length : Int)), (11, ii v3), (59, .bool false)], [.cells (HV.cells (eGLayout_Piece a27))])) ?_ ?_
      · rintro _ hj
        have hw := hk hj
        clear hk hj
        obtain ⟨J42, hw, hk⟩ := hw
        refine sc_join (A := Int) (fun x => J42 x) (fun x => ([(3, ii x), (9, ln eGLayout_Piece p1), (10, ii (p1.length : Int)), (11, ii v3)], [])) ?_ ?_
        · rintro v41 hj
          have hw := hk v41 hj
          clear hk hj
          refine q_reg (st_mv rfl (g_lss rfl rfl hw (fun hw => st_mv rfl (st_gtf rfl (st_gtf rfl (st_pick_t rfl rfl rfl (g_endq [(3, ii v41), (9, ln eGLayout_Piece p1), (10, ii (p1.length : Int)), (11, ii v3), (88, .bool true)] rfl ?_))))) (fun hw => st_mv rfl (st_g rfl (st_mv rfl (st_g rfl (g_gtr rfl rfl hw (fun hw => st_pick_f rfl rfl rfl (g_endq [(3, ii v41), (9, ln eGLayout_Piece p1), (10, ii (p1.length : Int)), (11, ii v3), (88, .bool true)] rfl ?_)) (fun hw => st_pick_f rfl rfl rfl (g_endq [(3, ii v41), (9, ln eGLayout_Piece p1), (10, ii (p1.length : Int)), (11, ii v3), (88, .bool false)] rfl ?_)))))))))
          · refine s_cond_t rfl (q_reg (st_mv rfl (g_endq [(2, ii 3)] rfl ?_)))
            exact sc_ret (bl_r (sq_r (lo_r (bl_r (sq_r (gr1 (g := zg25) (ho := fun _ => []) [ii 3] hw (.inr rfl) ws))))))
          · refine s_cond_t rfl (q_reg (st_mv rfl (g_endq [(2, ii 3)] rfl ?_)))
            exact sc_ret (bl_r (sq_r (lo_r (bl_r (sq_r (gr1 (g := zg25) (ho := fun _ => []) [ii 3] hw (.inr rfl) ws))))))
          · refine s_cond_f rfl (sc_skip (bl_n (sq_n (s_reg (g_add rfl rfl hw fun v45 hw => st_mv rfl (g_end [(3, ii v41), (9, ln eGLayout_Piece p1), (10, ii (p1.length : Int)), (11, ii v45)] rfl ?_))))))
            exact lo_n ⟨(v41, v45), hw.1⟩ hw.2 ws
        · clear hk
          refine q_reg (g_faddr_p rfl (g_load_p rfl rfl rfl (g_endq [(3, ii v2), (9, ln eGLayout_Piece p1), (10, ii (p1.length : Int)), (11, ii v3), (74, ii a27.Kind)] rfl ?_)))
          refine sc_block (q_reg (g_eqi rfl rfl hw (fun hw => st_mv rfl (g_endq [(3, ii v2), (9, ln eGLayout_Piece p1), (10, ii (p1.length : Int)), (11, ii v3), (74, ii a27.Kind), (75, .bool true)] rfl ?_)) (fun hw => st_mv rfl (g_endq [(3, ii v2), (9, ln eGLayout_Piece p1), (10, ii (p1.length : Int)), (11, ii v3), (74, ii a27.Kind), (75, .bool false)] rfl ?_))))
          · refine s_cond_t rfl (s_reg (st_mv rfl (g_add rfl rfl hw fun v43 hw => st_mv rfl (g_end [(3, ii v43), (9, ln eGLayout_Piece p1), (10, ii (p1.length : Int)), (11, ii v3)] rfl ?_))))
            exact bl_n (jo_n v43 hw (wr []))
          · refine s_cond_f rfl (q_reg (g_eqi rfl rfl hw (fun hw => st_mv rfl (g_endq [(3, ii v2), (9, ln eGLayout_Piece p1), (10, ii (p1.length : Int)), (11, ii v3), (79, .bool true)] rfl ?_)) (fun hw => st_mv rfl (g_endq [(3, ii v2), (9, ln eGLayout_Piece p1), (10, ii (p1.length : Int)), (11, ii v3), (79, .bool false)] rfl ?_))))
            · refine s_cond_t rfl (s_reg (st_mv rfl (g_sub rfl rfl hw fun v44 hw => st_mv rfl (g_end [(3, ii v44), (9, ln eGLayout_Piece p1), (10, ii (p1.length : Int)), (11, ii v3)] rfl ?_))))
              exact bl_n (jo_n v44 hw (wr []))
            · exact s_cond_f rfl (sc_skip (bl_n (jo_n v2 hw (wr []))))
      · clear hk
        refine sc_block (q_reg (g_faddr_p rfl (g_load_p rfl rfl rfl (g_lss rfl rfl hw (fun hw => st_mv rfl (st_gtf rfl (st_gtf rfl (st_gtf rfl (st_pick_t rfl rfl rfl (st_mv rfl (st_gtf rfl (st_gtf rfl (st_gtf rfl (st_gtf rfl (st_gu rfl (st_gu rfl (st_gu rfl (st_gtf rfl (st_pick_t rfl rfl rfl (st_mv rfl (st_gtf rfl (st_gtf rfl (st_gtf rfl (st_gtf rfl (st_gu rfl (st_gu rfl (st_gu rfl (st_gtf rfl (st_pick_t rfl rfl rfl (st_mv rfl (g_endq [(3, ii v2), (5, .ptr 0 0), (9, ln eGLayout_Piece p1), (10, ii (p1.length : Int)), (11, ii v3), (15, .bool true)] rfl ?_))))))))))))))))))))))))))) (fun hw => st_mv rfl (st_g rfl (g_faddr_p rfl (st_g rfl (g_load_p rfl rfl rfl (st_g rfl (g_gtr rfl rfl hw (fun hw => st_pick_f rfl rfl rfl (st_mv rfl (st_gtf rfl (st_gtf rfl (st_gtf rfl (st_gtf rfl (st_gu rfl (st_gu rfl (st_gu rfl (st_gtf rfl (st_pick_t rfl rfl rfl (st_mv rfl (st_gtf rfl (st_gtf rfl (st_gtf rfl (st_gtf rfl (st_gu rfl (st_gu rfl (st_gu rfl (st_gtf rfl (st_pick_t rfl rfl rfl (st_mv rfl (g_endq [(3, ii v2), (5, .ptr 0 0), (9, ln eGLayout_Piece p1), (10, ii (p1.length : Int)), (11, ii v3), (15, .bool true)] rfl ?_))))))))))))))))))))))) (fun hw => st_pick_f rfl rfl rfl (st_mv rfl (st_g rfl (g_faddr_p rfl (st_g rfl (g_load_p rfl rfl rfl (st_g rfl (g_nei rfl rfl hw (fun hw => st_g rfl (st_mv rfl (st_g rfl (g_faddr_p rfl (st_g rfl (g_load_p rfl rfl rfl (st_g rfl (g_nes rfl rfl hw (fun hw => st_g rfl (st_pick_t rfl rfl rfl (st_pick_f rfl rfl rfl (st_mv rfl (st_gtf rfl (st_gtf rfl (st_gtf rfl (st_gtf rfl (st_gu rfl (st_gu rfl (st_gu rfl (st_gtf rfl (st_pick_t rfl rfl rfl (st_mv rfl (g_endq [(3, ii v2), (5, .ptr 0 0), (9, ln eGLayout_Piece p1), (10, ii (p1.length : Int)), (11, ii v3), (15, .bool true)] rfl ?_))))))))))))))) (fun hw => st_g rfl (st_pick_t rfl rfl rfl (st_pick_f rfl rfl rfl (st_mv rfl (st_g rfl (g_faddr_p rfl (st_g rfl (g_load_p rfl rfl rfl (st_g rfl (g_nei rfl rfl hw (fun hw => st_g rfl (st_mv rfl (st_g rfl (g_faddr_p rfl (st_g rfl (g_load_p rfl rfl rfl (st_g rfl (g_nei rfl rfl hw (fun hw => st_g rfl (st_pick_t rfl rfl rfl (st_pick_f rfl rfl rfl (st_mv rfl (g_endq [(3, ii v2), (5, .ptr 0 0), (9, ln eGLayout_Piece p1), (10, ii (p1.length : Int)), (11, ii v3), (15, .bool true)] rfl ?_))))) (fun hw => st_g rfl (st_pick_t rfl rfl rfl (st_pick_f rfl rfl rfl (st_mv rfl (g_endq [(3, ii v2), (5, .ptr 0 0), (9, ln eGLayout_Piece p1), (10, ii (p1.length : Int)), (11, ii v3), (15, .bool false)] rfl ?_))))))))))))) (fun hw => st_g rfl (st_mv rfl (st_gft rfl (st_gft rfl (st_gft rfl (st_g rfl (st_pick_f rfl rfl rfl (st_pick_f rfl rfl rfl (st_mv rfl (g_endq [(3, ii v2), (5, .ptr 0 0), (9, ln eGLayout_Piece p1), (10, ii (p1.length : Int)), (11, ii v3), (15, .bool false)] rfl ?_)))))))))))))))))))))))))))) (fun hw => st_g rfl (st_mv rfl (st_gft rfl (st_gft rfl (st_gft rfl (st_g rfl (st_pick_f rfl rfl rfl (st_pick_f rfl rfl rfl (st_mv rfl (st_g rfl (g_faddr_p rfl (st_g rfl (g_load_p rfl rfl rfl (st_g rfl (g_nei rfl rfl hw (fun hw => st_g rfl (st_mv rfl (st_g rfl (g_faddr_p rfl (st_g rfl (g_load_p rfl rfl rfl (st_g rfl (g_nei rfl rfl hw (fun hw => st_g rfl (st_pick_t rfl rfl rfl (st_pick_f rfl rfl rfl (st_mv rfl (g_endq [(3, ii v2), (5, .ptr 0 0), (9, ln eGLayout_Piece p1), (10, ii (p1.length : Int)), (11, ii v3), (15, .bool true)] rfl ?_))))) (fun hw => st_g rfl (st_pick_t rfl rfl rfl (st_pick_f rfl rfl rfl (st_mv rfl (g_endq [(3, ii v2), (5, .ptr 0 0), (9, ln eGLayout_Piece p1), (10, ii (p1.length : Int)), (11, ii v3), (15, .bool false)] rfl ?_))))))))))))) (fun hw => st_g rfl (st_mv rfl (st_gft rfl (st_gft rfl (st_gft rfl (st_g rfl (st_pick_f rfl rfl rfl (st_pick_f rfl rfl rfl (st_mv rfl (g_endq [(3, ii v2), (5, .ptr 0 0), (9, ln eGLayout_Piece p1), (10, ii (p1.length : Int)), (11, ii v3), (15, .bool false)] rfl ?_))))))))))))))))))))))))))))))))))))))))))))
        · refine s_cond_t rfl (q_reg (st_mv rfl (g_endq [(2, ii 3)] rfl ?_)))
          exact sc_ret (bl_r (jo_r (bl_r (sq_r (lo_r (bl_r (sq_r (gr1 (g := zg25) (ho := fun _ => []) [ii 3] hw (.inr rfl) (wr [])))))))))
        · refine s_cond_t rfl (q_reg (st_mv rfl (g_endq [(2, ii 3)] rfl ?_)))
          exact sc_ret (bl_r (jo_r (bl_r (sq_r (lo_r (bl_r (sq_r (gr1 (g := zg25) (ho := fun _ => []) [ii 3] hw (.inr rfl) (wr [])))))))))
        · refine s_cond_t rfl (q_reg (st_mv rfl (g_endq [(2, ii 3)] rfl ?_)))
          exact sc_ret (bl_r (jo_r (bl_r (sq_r (lo_r (bl_r (sq_r (gr1 (g := zg25) (ho := fun _ => []) [ii 3] hw (.inr rfl) (wr [])))))))))
        · refine s_cond_t rfl (q_reg (st_mv rfl (g_endq [(2, ii 3)] rfl ?_)))
          exact sc_ret (bl_r (jo_r (bl_r (sq_r (lo_r (bl_r (sq_r (gr1 (g := zg25) (ho := fun _ => []) [ii 3] hw (.inr rfl) (wr [])))))))))
        · refine s_cond_f rfl ?_
          obtain ⟨J30, hw, hk⟩ := hw
          refine sc_join (A := Bool) (fun x => J30 x) (fun x => ([(3, ii v2), (5, .ptr 0 0), (9, ln eGLayout_Piece p1), (10, ii (p1.length : Int)), (11, ii v3), (44, .bool x)], [.cells (HV.cells (eGLayout_Piece a27))])) ?_ ?_
          · rintro v29 hj
            have hw := hk v29 hj
            clear hk hj
            refine s_cond rfl hw (fun hw => ?_) (fun hw => ?_)
            · refine q_reg (st_mv rfl (g_endq [(2, ii 3)] rfl ?_))
              exact sc_ret (bl_r (jo_r (bl_r (sq_r (lo_r (bl_r (sq_r (gr1 (g := zg25) (ho := fun _ => []) [ii 3] hw (.inr rfl) (wr [])))))))))
            · refine q_reg (g_faddr_p rfl (g_load_p rfl rfl rfl (g_eqi rfl rfl hw (fun hw => st_mv rfl (st_g rfl (g_faddr_p rfl (st_g rfl (g_load_p rfl rfl rfl (st_g rfl (g_lss rfl rfl hw (fun hw => st_g rfl (st_mv rfl (st_gtf rfl (st_gtf rfl (st_gtf rfl (st_g rfl (st_pick_t rfl rfl rfl (st_pick_t rfl rfl rfl (st_mv rfl (g_endq [(3, ii v2), (5, .ptr 0 0), (9, ln eGLayout_Piece p1), (10, ii (p1.length : Int)), (11, ii v3), (59, .bool true)] rfl ?_)))))))))) (fun hw => st_g rfl (st_mv rfl (st_g rfl (g_faddr_p rfl (st_g rfl (g_load_p rfl rfl rfl (st_g rfl (g_gtr rfl rfl hw (fun hw => st_g rfl (st_pick_f rfl rfl rfl (st_pick_t rfl rfl rfl (st_mv rfl (g_endq [(3, ii v2), (5, .ptr 0 0), (9, ln eGLayout_Piece p1), (10, ii (p1.length : Int)), (11, ii v3), (59, .bool true)] rfl ?_))))) (fun hw => st_g rfl (st_pick_f rfl rfl rfl (st_pick_t rfl rfl rfl (st_mv rfl (g_endq [(3, ii v2), (5, .ptr 0 0), (9, ln eGLayout_Piece p1), (10, ii (p1.length : Int)), (11, ii v3), (59, .bool false)] rfl ?_)))))))))))))))))))) (fun hw => st_mv rfl (st_gft rfl (st_gft rfl (st_gft rfl (st_gft rfl (st_gu rfl (st_gu rfl (st_gu rfl (st_gft rfl (st_pick_f rfl rfl rfl (st_mv rfl (g_endq [(3, ii v2), (5, .ptr 0 0), (9, ln eGLayout_Piece p1), (10, ii (p1.length : Int)), (11, ii v3), (59, .bool false)] rfl ?_)))))))))))))))
              · refine s_cond_t rfl (q_reg (st_mv rfl (g_endq [(2, ii 1)] rfl ?_)))
                exact sc_ret (bl_r (jo_r (bl_r (sq_r (lo_r (bl_r (sq_r (gr1 (g := zg25) (ho := fun _ => []) [ii 1] hw (.inr rfl) (wr [])))))))))
              · refine s_cond_t rfl (q_reg (st_mv rfl (g_endq [(2, ii 1)] rfl ?_)))
                exact sc_ret (bl_r (jo_r (bl_r (sq_r (lo_r (bl_r (sq_r (gr1 (g := zg25) (ho := fun _ => []) [ii 1] hw (.inr rfl) (wr [])))))))))
              · exact s_cond_f rfl (sc_skip (bl_n (jo_n () hw ws)))
              · exact s_cond_f rfl (sc_skip (bl_n (jo_n () hw ws)))
          · clear hk
            refine s_reg (g_faddr_p rfl (g_load_p rfl rfl rfl (g_eqi rfl rfl hw (fun hw => st_mv rfl (st_g rfl (g_faddr_p rfl (st_g rfl (g_load_p rfl rfl rfl (st_g rfl (st_slen rfl (st_g rfl (g_gtr rfl rfl hw (fun hw => st_g rfl (st_mv rfl (st_gtf rfl (st_gtf rfl (st_gtf rfl (st_g rfl (st_pick_t rfl rfl rfl (st_pick_t rfl rfl rfl (st_mv rfl (g_end [(3, ii v2), (5, .ptr 0 0), (9, ln eGLayout_Piece p1), (10, ii (p1.length : Int)), (11, ii v3), (44, .bool true)] rfl ?_)))))))))) (fun hw => st_g rfl (st_mv rfl (st_g rfl (g_faddr_p rfl (st_g rfl (g_load_p rfl rfl rfl (st_g rfl (k_call dh (ec rfl (ec rfl en)) rfl hw fun r31 hw => st_g rfl (st_pick_f rfl rfl rfl (st_pick_t rfl rfl rfl (st_mv rfl (g_end [(3, ii v2), (5, .ptr 0 0), (9, ln eGLayout_Piece p1), (10, ii (p1.length : Int)), (11, ii v3), (44, .bool r31)] rfl ?_))))))))))))))))))))) (fun hw => st_mv rfl (st_gft rfl (st_gft rfl (st_gft rfl (st_gft rfl (st_gft rfl (st_gu rfl (st_gu rfl (st_gu rfl (st_gft rfl (st_pick_f rfl rfl rfl (st_mv rfl (g_end [(3, ii v2), (5, .ptr 0 0), (9, ln eGLayout_Piece p1), (10, ii (p1.length : Int)), (11, ii v3), (44, .bool false)] rfl ?_))))))))))))))))
            · exact jo_n true hw ws
            · exact jo_n r31 hw ws
            · exact jo_n false hw ws
        · refine s_cond_f rfl ?_
          obtain ⟨J33, hw, hk⟩ := hw
          refine sc_join (A := Bool) (fun x => J33 x) (fun x => ([(3, ii v2), (5, .ptr 0 0), (9, ln eGLayout_Piece p1), (10, ii (p1.length : Int)), (11, ii v3), (44, .bool x)], [.cells (HV.cells (eGLayout_Piece a27))])) ?_ ?_
          · rintro v32 hj
            have hw := hk v32 hj
            clear hk hj
            refine s_cond rfl hw (fun hw => ?_) (fun hw => ?_)
            · refine q_reg (st_mv rfl (g_endq [(2, ii 3)] rfl ?_))
              exact sc_ret (bl_r (jo_r (bl_r (sq_r (lo_r (bl_r (sq_r (gr1 (g := zg25) (ho := fun _ => []) [ii 3] hw (.inr rfl) (wr [])))))))))
            · refine q_reg (g_faddr_p rfl (g_load_p rfl rfl rfl (g_eqi rfl rfl hw (fun hw => st_mv rfl (st_g rfl (g_faddr_p rfl (st_g rfl (g_load_p rfl rfl rfl (st_g rfl (g_lss rfl rfl hw (fun hw => st_g rfl (st_mv rfl (st_gtf rfl (st_gtf rfl (st_gtf rfl (st_g rfl (st_pick_t rfl rfl rfl (st_pick_t rfl rfl rfl (st_mv rfl (g_endq [(3, ii v2), (5, .ptr 0 0), (9, ln eGLayout_Piece p1), (10, ii (p1.length : Int)), (11, ii v3), (59, .bool true)] rfl ?_)))))))))) (fun hw => st_g rfl (st_mv rfl (st_g rfl (g_faddr_p rfl (st_g rfl (g_load_p rfl rfl rfl (st_g rfl (g_gtr rfl rfl hw (fun hw => st_g rfl (st_pick_f rfl rfl rfl (st_pick_t rfl rfl rfl (st_mv rfl (g_endq [(3, ii v2), (5, .ptr 0 0), (9, ln eGLayout_Piece p1), (10, ii (p1.length : Int)), (11, ii v3), (59, .bool true)] rfl ?_))))) (fun hw => st_g rfl (st_pick_f rfl rfl rfl (st_pick_t rfl rfl rfl (st_mv rfl (g_endq [(3, ii v2), (5, .ptr 0 0), (9, ln eGLayout_Piece p1), (10, ii (p1.length : Int)), (11, ii v3), (59, .bool false)] rfl ?_)))))))))))))))))))) (fun hw => st_mv rfl (st_gft rfl (st_gft rfl (st_gft rfl (st_gft rfl (st_gu rfl (st_gu rfl (st_gu rfl (st_gft rfl (st_pick_f rfl rfl rfl (st_mv rfl (g_endq [(3, ii v2), (5, .ptr 0 0), (9, ln eGLayout_Piece p1), (10, ii (p1.length : Int)), (11, ii v3), (59, .bool false)] rfl ?_)))))))))))))))
              · refine s_cond_t rfl (q_reg (st_mv rfl (g_endq [(2, ii 1)] rfl ?_)))
                exact sc_ret (bl_r (jo_r (bl_r (sq_r (lo_r (bl_r (sq_r (gr1 (g := zg25) (ho := fun _ => []) [ii 1] hw (.inr rfl) (wr [])))))))))
              · refine s_cond_t rfl (q_reg (st_mv rfl (g_endq [(2, ii 1)] rfl ?_)))
                exact sc_ret (bl_r (jo_r (bl_r (sq_r (lo_r (bl_r (sq_r (gr1 (g := zg25) (ho := fun _ => []) [ii 1] hw (.inr rfl) (wr [])))))))))
              · exact s_cond_f rfl (sc_skip (bl_n (jo_n () hw ws)))
              · exact s_cond_f rfl (sc_skip (bl_n (jo_n () hw ws)))
          · clear hk
            refine s_reg (g_faddr_p rfl (g_load_p rfl rfl rfl (g_eqi rfl rfl hw (fun hw => st_mv rfl (st_g rfl (g_faddr_p rfl (st_g rfl (g_load_p rfl rfl rfl (st_g rfl (st_slen rfl (st_g rfl (g_gtr rfl rfl hw (fun hw => st_g rfl (st_mv rfl (st_gtf rfl (st_gtf rfl (st_gtf rfl (st_g rfl (st_pick_t rfl rfl rfl (st_pick_t rfl rfl rfl (st_mv rfl (g_end [(3, ii v2), (5, .ptr 0 0), (9, ln eGLayout_Piece p1), (10, ii (p1.length : Int)), (11, ii v3), (44, .bool true)] rfl ?_)))))))))) (fun hw => st_g rfl (st_mv rfl (st_g rfl (g_faddr_p rfl (st_g rfl (g_load_p rfl rfl rfl (st_g rfl (k_call dh (ec rfl (ec rfl en)) rfl hw fun r34 hw => st_g rfl (st_pick_f rfl rfl rfl (st_pick_t rfl rfl rfl (st_mv rfl (g_end [(3, ii v2), (5, .ptr 0 0), (9, ln eGLayout_Piece p1), (10, ii (p1.length : Int)), (11, ii v3), (44, .bool r34)] rfl ?_))))))))))))))))))))) (fun hw => st_mv rfl (st_gft rfl (st_gft rfl (st_gft rfl (st_gft rfl (st_gft rfl (st_gu rfl (st_gu rfl (st_gu rfl (st_gft rfl (st_pick_f rfl rfl rfl (st_mv rfl (g_end [(3, ii v2), (5, .ptr 0 0), (9, ln eGLayout_Piece p1), (10, ii (p1.length : Int)), (11, ii v3), (44, .bool false)] rfl ?_))))))))))))))))
            · exact jo_n true hw ws
            · exact jo_n r34 hw ws
            · exact jo_n false hw ws
        · refine s_cond_t rfl (q_reg (st_mv rfl (g_endq [(2, ii 3)] rfl ?_)))
          exact sc_ret (bl_r (jo_r (bl_r (sq_r (lo_r (bl_r (sq_r (gr1 (g := zg25) (ho := fun _ => []) [ii 3] hw (.inr rfl) (wr [])))))))))
        · refine s_cond_f rfl ?_
          obtain ⟨J36, hw, hk⟩ := hw
          refine sc_join (A := Bool) (fun x => J36 x) (fun x => ([(3, ii v2), (5, .ptr 0 0), (9, ln eGLayout_Piece p1), (10, ii (p1.length : Int)), (11, ii v3), (44, .bool x)], [.cells (HV.cells (eGLayout_Piece a27))])) ?_ ?_
          · rintro v35 hj
            have hw := hk v35 hj
            clear hk hj
            refine s_cond rfl hw (fun hw => ?_) (fun hw => ?_)
            · refine q_reg (st_mv rfl (g_endq [(2, ii 3)] rfl ?_))
              exact sc_ret (bl_r (jo_r (bl_r (sq_r (lo_r (bl_r (sq_r (gr1 (g := zg25) (ho := fun _ => []) [ii 3] hw (.inr rfl) (wr [])))))))))
            · refine q_reg (g_faddr_p rfl (g_load_p rfl rfl rfl (g_eqi rfl rfl hw (fun hw => st_mv rfl (st_g rfl (g_faddr_p rfl (st_g rfl (g_load_p rfl rfl rfl (st_g rfl (g_lss rfl rfl hw (fun hw => st_g rfl (st_mv rfl (st_gtf rfl (st_gtf rfl (st_gtf rfl (st_g rfl (st_pick_t rfl rfl rfl (st_pick_t rfl rfl rfl (st_mv rfl (g_endq [(3, ii v2), (5, .ptr 0 0), (9, ln eGLayout_Piece p1), (10, ii (p1.length : Int)), (11, ii v3), (59, .bool true)] rfl ?_)))))))))) (fun hw => st_g rfl (st_mv rfl (st_g rfl (g_faddr_p rfl (st_g rfl (g_load_p rfl rfl rfl (st_g rfl (g_gtr rfl rfl hw (fun hw => st_g rfl (st_pick_f rfl rfl rfl (st_pick_t rfl rfl rfl (st_mv rfl (g_endq [(3, ii v2), (5, .ptr 0 0), (9, ln eGLayout_Piece p1), (10, ii (p1.length : Int)), (11, ii v3), (59, .bool true)] rfl ?_))))) (fun hw => st_g rfl (st_pick_f rfl rfl rfl (st_pick_t rfl rfl rfl (st_mv rfl (g_endq [(3, ii v2), (5, .ptr 0 0), (9, ln eGLayout_Piece p1), (10, ii (p1.length : Int)), (11, ii v3), (59, .bool false)] rfl ?_)))))))))))))))))))) (fun hw => st_mv rfl (st_gft rfl (st_gft rfl (st_gft rfl (st_gft rfl (st_gu rfl (st_gu rfl (st_gu rfl (st_gft rfl (st_pick_f rfl rfl rfl (st_mv rfl (g_endq [(3, ii v2), (5, .ptr 0 0), (9, ln eGLayout_Piece p1), (10, ii (p1.length : Int)), (11, ii v3), (59, .bool false)] rfl ?_)))))))))))))))
              · refine s_cond_t rfl (q_reg (st_mv rfl (g_endq [(2, ii 1)] rfl ?_)))
                exact sc_ret (bl_r (jo_r (bl_r (sq_r (lo_r (bl_r (sq_r (gr1 (g := zg25) (ho := fun _ => []) [ii 1] hw (.inr rfl) (wr [])))))))))
              · refine s_cond_t rfl (q_reg (st_mv rfl (g_endq [(2, ii 1)] rfl ?_)))
                exact sc_ret (bl_r (jo_r (bl_r (sq_r (lo_r (bl_r (sq_r (gr1 (g := zg25) (ho := fun _ => []) [ii 1] hw (.inr rfl) (wr [])))))))))
              · exact s_cond_f rfl (sc_skip (bl_n (jo_n () hw ws)))
              · exact s_cond_f rfl (sc_skip (bl_n (jo_n () hw ws)))
          · clear hk
            refine s_reg (g_faddr_p rfl (g_load_p rfl rfl rfl (g_eqi rfl rfl hw (fun hw => st_mv rfl (st_g rfl (g_faddr_p rfl (st_g rfl (g_load_p rfl rfl rfl (st_g rfl (st_slen rfl (st_g rfl (g_gtr rfl rfl hw (fun hw => st_g rfl (st_mv rfl (st_gtf rfl (st_gtf rfl (st_gtf rfl (st_g rfl (st_pick_t rfl rfl rfl (st_pick_t rfl rfl rfl (st_mv rfl (g_end [(3, ii v2), (5, .ptr 0 0), (9, ln eGLayout_Piece p1), (10, ii (p1.length : Int)), (11, ii v3), (44, .bool true)] rfl ?_)))))))))) (fun hw => st_g rfl (st_mv rfl (st_g rfl (g_faddr_p rfl (st_g rfl (g_load_p rfl rfl rfl (st_g rfl (k_call dh (ec rfl (ec rfl en)) rfl hw fun r37 hw => st_g rfl (st_pick_f rfl rfl rfl (st_pick_t rfl rfl rfl (st_mv rfl (g_end [(3, ii v2), (5, .ptr 0 0), (9, ln eGLayout_Piece p1), (10, ii (p1.length : Int)), (11, ii v3), (44, .bool r37)] rfl ?_))))))))))))))))))))) (fun hw => st_mv rfl (st_gft rfl (st_gft rfl (st_gft rfl (st_gft rfl (st_gft rfl (st_gu rfl (st_gu rfl (st_gu rfl (st_gft rfl (st_pick_f rfl rfl rfl (st_mv rfl (g_end [(3, ii v2), (5, .ptr 0 0), (9, ln eGLayout_Piece p1), (10, ii (p1.length : Int)), (11, ii v3), (44, .bool false)] rfl ?_))))))))))))))))
            · exact jo_n true hw ws
            · exact jo_n r37 hw ws
            · exact jo_n false hw ws
        · refine s_cond_f rfl ?_
          obtain ⟨J39, hw, hk⟩ := hw
          refine sc_join (A := Bool) (fun x => J39 x) (fun x => ([(3, ii v2), (5, .ptr 0 0), (9, ln eGLayout_Piece p1), (10, ii (p1.length : Int)), (11, ii v3), (44, .bool x)], [.cells (HV.cells (eGLayout_Piece a27))])) ?_ ?_
          · rintro v38 hj
            have hw := hk v38 hj
            clear hk hj
            refine s_cond rfl hw (fun hw => ?_) (fun hw => ?_)
            · refine q_reg (st_mv rfl (g_endq [(2, ii 3)] rfl ?_))
              exact sc_ret (bl_r (jo_r (bl_r (sq_r (lo_r (bl_r (sq_r (gr1 (g := zg25) (ho := fun _ => []) [ii 3] hw (.inr rfl) (wr [])))))))))
            · refine q_reg (g_faddr_p rfl (g_load_p rfl rfl rfl (g_eqi rfl rfl hw (fun hw => st_mv rfl (st_g rfl (g_faddr_p rfl (st_g rfl (g_load_p rfl rfl rfl (st_g rfl (g_lss rfl rfl hw (fun hw => st_g rfl (st_mv rfl (st_gtf rfl (st_gtf rfl (st_gtf rfl (st_g rfl (st_pick_t rfl rfl rfl (st_pick_t rfl rfl rfl (st_mv rfl (g_endq [(3, ii v2), (5, .ptr 0 0), (9, ln eGLayout_Piece p1), (10, ii (p1.length : Int)), (11, ii v3), (59, .bool true)] rfl ?_)))))))))) (fun hw => st_g rfl (st_mv rfl (st_g rfl (g_faddr_p rfl (st_g rfl (g_load_p rfl rfl rfl (st_g rfl (g_gtr rfl rfl hw (fun hw => st_g rfl (st_pick_f rfl rfl rfl (st_pick_t rfl rfl rfl (st_mv rfl (g_endq [(3, ii v2), (5, .ptr 0 0), (9, ln eGLayout_Piece p1), (10, ii (p1.length : Int)), (11, ii v3), (59, .bool true)] rfl ?_))))) (fun hw => st_g rfl (st_pick_f rfl rfl rfl (st_pick_t rfl rfl rfl (st_mv rfl (g_endq [(3, ii v2), (5, .ptr 0 0), (9, ln eGLayout_Piece p1), (10, ii (p1.length : Int)), (11, ii v3), (59, .bool false)] rfl ?_)))))))))))))))))))) (fun hw => st_mv rfl (st_gft rfl (st_gft rfl (st_gft rfl (st_gft rfl (st_gu rfl (st_gu rfl (st_gu rfl (st_gft rfl (st_pick_f rfl rfl rfl (st_mv rfl (g_endq [(3, ii v2), (5, .ptr 0 0), (9, ln eGLayout_Piece p1), (10, ii (p1.length : Int)), (11, ii v3), (59, .bool false)] rfl ?_)))))))))))))))
              · refine s_cond_t rfl (q_reg (st_mv rfl (g_endq [(2, ii 1)] rfl ?_)))
                exact sc_ret (bl_r (jo_r (bl_r (sq_r (lo_r (bl_r (sq_r (gr1 (g := zg25) (ho := fun _ => []) [ii 1] hw (.inr rfl) (wr [])))))))))
              · refine s_cond_t rfl (q_reg (st_mv rfl (g_endq [(2, ii 1)] rfl ?_)))
                exact sc_ret (bl_r (jo_r (bl_r (sq_r (lo_r (bl_r (sq_r (gr1 (g := zg25) (ho := fun _ => []) [ii 1] hw (.inr rfl) (wr [])))))))))
              · exact s_cond_f rfl (sc_skip (bl_n (jo_n () hw ws)))
              · exact s_cond_f rfl (sc_skip (bl_n (jo_n () hw ws)))
          · clear hk
            refine s_reg (g_faddr_p rfl (g_load_p rfl rfl rfl (g_eqi rfl rfl hw (fun hw => st_mv rfl (st_g rfl (g_faddr_p rfl (st_g rfl (g_load_p rfl rfl rfl (st_g rfl (st_slen rfl (st_g rfl (g_gtr rfl rfl hw (fun hw => st_g rfl (st_mv rfl (st_gtf rfl (st_gtf rfl (st_gtf rfl (st_g rfl (st_pick_t rfl rfl rfl (st_pick_t rfl rfl rfl (st_mv rfl (g_end [(3, ii v2), (5, .ptr 0 0), (9, ln eGLayout_Piece p1), (10, ii (p1.length : Int)), (11, ii v3), (44, .bool true)] rfl ?_)))))))))) (fun hw => st_g rfl (st_mv rfl (st_g rfl (g_faddr_p rfl (st_g rfl (g_load_p rfl rfl rfl (st_g rfl (k_call dh (ec rfl (ec rfl en)) rfl hw fun r40 hw => st_g rfl (st_pick_f rfl rfl rfl (st_pick_t rfl rfl rfl (st_mv rfl (g_end [(3, ii v2), (5, .ptr 0 0), (9, ln eGLayout_Piece p1), (10, ii (p1.length : Int)), (11, ii v3), (44, .bool r40)] rfl ?_))))))))))))))))))))) (fun hw => st_mv rfl (st_gft rfl (st_gft rfl (st_gft rfl (st_gft rfl (st_gft rfl (st_gu rfl (st_gu rfl (st_gu rfl (st_gft rfl (st_pick_f rfl rfl rfl (st_mv rfl (g_end [(3, ii v2), (5, .ptr 0 0), (9, ln eGLayout_Piece p1), (10, ii (p1.length : Int)), (11, ii v3), (44, .bool false)] rfl ?_))))))))))))))))
            · exact jo_n true hw ws
            · exact jo_n r40 hw ws
            · exact jo_n false hw ws
    · refine sc_exit (sq_x (lo_x (bl_x (sq_n (sc_seq (q_reg (st_mv rfl (g_nei rfl rfl hw (fun hw => g_endq [(91, .bool true)] rfl ?_) (fun hw => g_endq [(91, .bool false)] rfl ?_)))))))))
      · refine s_cond_t rfl (q_reg (st_mv rfl (g_endq [(2, ii 3)] rfl ?_)))
        exact sc_ret (sq_r (gr1 (g := zg25) (ho := fun _ => []) [ii 3] hw (.inr rfl) ws))
      · refine s_cond_f rfl (sc_skip (sq_n (q_reg (st_mv rfl (g_endq [(2, ii 0)] rfl ?_)))))
        exact sc_ret (gr1 (g := zg25) (ho := fun _ => []) [ii 0] hw (.inr rfl) ws)
def hc27 : C := (.seq (.reg [oo 4 (.mv (.c (.int .i64 0)))] [0, 1]) (.seq (.reg [oo 5 (.mv (.c (.int .i64 0)))] [0, 1, 5]) (.seq (.seq (.reg [mo 7 1, mo 6 7] [0, 5, 6]) (.block 0 (.loop (.seq (.seq (.reg [mo 8 6, mo 9 0, oo 10 (.len false 9), oo 11 (.bin .lss 8 10)] [0, 5, 6, 11]) (.cond 11 .skip (.exit 0))) (.seq (.block 1 (.seq (.reg [mo 14 0, mo 15 6, oo 16 (.iaddr 3 14 15), oo 17 (.faddr 0 1 16), oo 18 (.load none 17)] [0, 5, 6, 18]) (.block 2 (.seq (.reg [oo 20 (.eqv false .int 18 (.c (.int .i64 5))), mo 19 20] [0, 5, 6, 18, 19]) (.cond 19 (.reg [mo 21 5, oo 22 (.bin .add 21 (.c (.int .i64 1))), mo 5 22] [0, 5, 6]) (.seq (.reg [oo 24 (.eqv false .int 18 (.c (.int .i64 6))), mo 23 24] [0, 5, 6, 23]) (.cond 23 (.seq (.reg [mo 25 5, oo 26 (.bin .sub 25 (.c (.int .i64 1))), mo 5 26] [0, 5, 6]) (.seq (.reg [mo 27 5, oo 28 (.eqv false .int 27 (.c (.int .i64 0)))] [0, 5, 6, 28]) (.cond 28 (.seq (.reg [mo 29 6, mo 4 29] [4]) .ret) .skip))) .skip))))))) (.reg [mo 12 6, oo 13 (.bin .add 12 (.c (.int .i64 1))), mo 6 13] [0, 5, 6])))))) (.seq (.reg [mo 30 0, oo 31 (.len false 30), mo 4 31] [4]) .ret))))
def ha27 : Ann := ⟨[], [], [(0, [0, 1]), (1, [0, 1, 5]), (2, [0, 5, 6]), (3, [0, 5, 6, 11]), (5, [0, 5, 6, 18]), (6, [0, 5, 6, 18, 19]), (7, [0, 5, 6]), (8, [0, 5, 6, 23]), (9, [0, 5, 6]), (10, [0, 5, 6, 28]), (11, [4]), (4, [0, 5, 6]), (12, [4])], []⟩
theorem hk27 : comp Tryd.prog ha27 Tryd.f27.ntmps Tryd.f27.code = some hc27 := by kernel_rfl
def w27 (p1 : List (GLayout_Piece)) (p2 : Int) (Q : Int → Prop) : Prop :=
  ∃ (I11 : Int → Int → Prop) (M12 : Int → Int → Nat), I11 (0 : Int) p2 ∧ ∀ (v3 : Int) (v4 : Int), I11 v3 v4 → ((v4 < (p1.length : Int) → ∃ J14 : Int → Prop, ((0 ≤ v4 ∧ v4 < (p1.length : Int)) ∧ ∀ a15 : GLayout_Piece, p1[(v4 : Int).toNat]? = some a15 → ((a15.Kind = (5 : Int) → (R64 (v3 + (1 : Int))) ∧ ∀ v16 : Int, v16 = v3 + (1 : Int) → J14 v16) ∧ (a15.Kind ≠ (5 : Int) → ((a15.Kind = (6 : Int) → (R64 (v3 - (1 : Int))) ∧ ∀ v17 : Int, v17 = v3 - (1 : Int) → ((v17 = (0 : Int) → Q v4) ∧ (v17 ≠ (0 : Int) → J14 v17))) ∧ (a15.Kind ≠ (6 : Int) → J14 v3))))) ∧ ∀ (v13 : Int), J14 v13 → (R64 (v4 + (1 : Int))) ∧ ∀ v18 : Int, v18 = v4 + (1 : Int) → (I11 v13 v18 ∧ M12 v13 v18 < M12 v3 v4)) ∧ ((p1.length : Int) ≤ v4 → Q (p1.length : Int)))
theorem ok27 (p1 : List (GLayout_Piece)) (p2 : Int) (r : Int) (hw : w27 p1 p2 fun r' => r' = r) : sp27 p1 p2 r := by
  refine zf (rs := [.t 4]) (g := zg27) Tryd.func27 hk27 ?_
  unfold w27 at hw
  show SC Tryd.prog Tryd.f27.ntmps 0 hc27 _ [(0, ln eGLayout_Piece p1), (1, ii p2)] []
  unfold hc27
  refine q_reg (st_mv rfl (g_endq [(0, ln eGLayout_Piece p1), (1, ii p2)] rfl ?_))
  refine q_reg (st_mv rfl (g_endq [(0, ln eGLayout_Piece p1), (1, ii p2), (5, ii 0)] rfl ?_))
  refine sc_seq (q_reg (st_mv rfl (st_mv rfl (g_endq [(0, ln eGLayout_Piece p1), (5, ii 0), (6, ii p2)] rfl ?_))))
  refine sc_block ?_
  obtain ⟨I11, M12, hi, hw⟩ := hw
  refine sc_loop (X := { x : Int × Int // I11 x.1 x.2 }) (fun x => ([(0, ln eGLayout_Piece p1), (5, ii x.1.1), (6, ii x.1.2)], [])) (fun x => M12 x.1.1 x.1.2) ⟨((0 : Int), p2), hi⟩ ws ?_
  rintro ⟨⟨v3, v4⟩, hi2⟩
  have hw := hw v3 v4 hi2
  clear hi
  refine sc_seq (q_reg (st_mv rfl (st_mv rfl (g_len rfl (g_lss rfl rfl hw (fun hw => g_endq [(0, ln eGLayout_Piece p1), (5, ii v3), (6, ii v4), (11, .bool true)] rfl ?_) (fun hw => g_endq [(0, ln eGLayout_Piece p1), (5, ii v3), (6, ii v4), (11, .bool false)] rfl ?_))))))
  · refine s_cond_t rfl (sc_skip (sq_n ?_))
    obtain ⟨J14, hw, hk⟩ := hw
    refine sc_join (A := Int) (fun x => J14 x) (fun x => ([(0, ln eGLayout_Piece p1), (5, ii x), (6, ii v4)], [])) ?_ ?_
    · rintro v13 hj
      have hw := hk v13 hj
      clear hk hj
      refine s_reg (st_mv rfl (g_add rfl rfl hw fun v18 hw => st_mv rfl (g_end [(0, ln eGLayout_Piece p1), (5, ii v13), (6, ii v18)] rfl ?_)))
      exact lo_n ⟨(v13, v18), hw.1⟩ hw.2 ws
    · clear hk
      refine sc_block (q_reg (st_mv rfl (st_mv rfl (g_iaddr enc_GLayout_Piece rfl rfl hw fun a15 hw => g_faddr_r (cs := [ii a15.Kind, ii a15.N, .str a15.S]) rfl (lt_of_blt rfl) (st_load_r rfl rfl (g_endq [(0, ln eGLayout_Piece p1), (5, ii v3), (6, ii v4), (18, ii a15.Kind)] rfl ?_))))))
      refine sc_block (q_reg (g_eqi rfl rfl hw (fun hw => st_mv rfl (g_endq [(0, ln eGLayout_Piece p1), (5, ii v3), (6, ii v4), (18, ii a15.Kind), (19, .bool true)] rfl ?_)) (fun hw => st_mv rfl (g_endq [(0, ln eGLayout_Piece p1), (5, ii v3), (6, ii v4), (18, ii a15.Kind), (19, .bool false)] rfl ?_))))
      · refine s_cond_t rfl (s_reg (st_mv rfl (g_add rfl rfl hw fun v16 hw => st_mv rfl (g_end [(0, ln eGLayout_Piece p1), (5, ii v16), (6, ii v4)] rfl ?_))))
        exact bl_n (bl_n (jo_n v16 hw ws))
      · refine s_cond_f rfl (q_reg (g_eqi rfl rfl hw (fun hw => st_mv rfl (g_endq [(0, ln eGLayout_Piece p1), (5, ii v3), (6, ii v4), (23, .bool true)] rfl ?_)) (fun hw => st_mv rfl (g_endq [(0, ln eGLayout_Piece p1), (5, ii v3), (6, ii v4), (23, .bool false)] rfl ?_))))
        · refine s_cond_t rfl (q_reg (st_mv rfl (g_sub rfl rfl hw fun v17 hw => st_mv rfl (g_endq [(0, ln eGLayout_Piece p1), (5, ii v17), (6, ii v4)] rfl ?_))))
          refine q_reg (st_mv rfl (g_eqi rfl rfl hw (fun hw => g_endq [(0, ln eGLayout_Piece p1), (5, ii v17), (6, ii v4), (28, .bool true)] rfl ?_) (fun hw => g_endq [(0, ln eGLayout_Piece p1), (5, ii v17), (6, ii v4), (28, .bool false)] rfl ?_)))
          · refine s_cond_t rfl (q_reg (st_mv rfl (st_mv rfl (g_endq [(4, ii v4)] rfl ?_))))
            exact sc_ret (bl_r (bl_r (jo_r (lo_r (bl_r (sq_r (gr1 (g := zg27) (ho := fun _ => []) [ii v4] hw (.inr rfl) ws)))))))
          · exact s_cond_f rfl (sc_skip (bl_n (bl_n (jo_n v17 hw ws))))
        · exact s_cond_f rfl (sc_skip (bl_n (bl_n (jo_n v3 hw ws))))
  · refine s_cond_f rfl (sc_exit (sq_x (lo_x (bl_x (sq_n (q_reg (st_mv rfl (g_len rfl (st_mv rfl (g_endq [(4, ii (p1.length : Int))] rfl ?_))))))))))
    exact sc_ret (gr1 (g := zg27) (ho := fun _ => []) [ii (p1.length : Int)] hw (.inr rfl) ws)
def hc28 : C := (.seq (.reg [oo 2 (.mv (.c (.int .i64 0)))] [0]) (.seq (.reg [oo 3 (.mv (.c (.int .i64 0)))] [0, 3]) (.seq (.seq (.reg [mo 6 0, oo 7 (.len false 6), oo 8 (.mv (.c (.int .i64 0)))] [3, 6, 7, 8]) (.block 0 (.loop (.seq (.reg [oo 9 (.bin .lss 8 7)] [3, 6, 7, 8, 9]) (.seq (.cond 9 .skip (.exit 0)) (.seq (.block 1 (.seq (.reg [oo 10 (.iaddr 3 6 8), oo 11 (.load (some 3) 10), oo 5 (.alloc none [(.int .i64 0), (.int .i64 0), (.str [])]), os (.store 3 5 11)] [3, 5, 6, 7, 8]) (.seq (.reg [oo 12 (.faddr 0 1 5), oo 13 (.load none 12)] [3, 5, 6, 7, 8, 13]) (.block 2 (.seq (.reg [oo 15 (.eqv false .int 13 (.c (.int .i64 1))), mo 14 15] [3, 5, 6, 7, 8, 13, 14]) (.cond 14 (.reg [mo 16 3, oo 17 (.faddr 2 1 5), oo 18 (.load none 17), oo 19 (.len true 18), oo 20 (.bin .add 16 19), mo 3 20] [3, 6, 7, 8]) (.seq (.reg [oo 22 (.eqv false .int 13 (.c (.int .i64 2))), mo 21 22] [3, 6, 7, 8, 13, 21]) (.cond 21 (.reg [mo 23 3, oo 24 (.bin .add 23 (.c (.int .i64 1))), mo 3 24] [3, 6, 7, 8]) (.seq (.reg [oo 26 (.eqv false .int 13 (.c (.int .i64 4))), mo 25 26] [3, 6, 7, 8, 25]) (.cond 25 (.seq (.reg [oo 2 (.mv (.c (.int .i64 (-1))))] [2]) .ret) .skip)))))))))) (.reg [oo 27 (.bin .add 8 (.c (.int .i64 1))), mo 8 27] [3, 6, 7, 8]))))))) (.seq (.reg [mo 28 3, mo 2 28] [2]) .ret))))
def ha28 : Ann := ⟨[], [], [(0, [0]), (1, [0, 3]), (2, [3, 6, 7, 8]), (3, [3, 6, 7, 8, 9]), (4, [3, 5, 6, 7, 8]), (5, [3, 5, 6, 7, 8, 13]), (6, [3, 5, 6, 7, 8, 13, 14]), (7, [3, 6, 7, 8]), (8, [3, 6, 7, 8, 13, 21]), (9, [3, 6, 7, 8]), (10, [3, 6, 7, 8, 25]), (11, [2]), (12, [3, 6, 7, 8]), (13, [2])], []⟩
theorem hk28 : comp Tryd.prog ha28 Tryd.f28.ntmps Tryd.f28.code = some hc28 := by kernel_rfl
def w28 (p1 : List (GLayout_Piece)) (Q : Int → Prop) : Prop :=
  ∃ (I11 : Int → Int → Prop) (M12 : Int → Int → Nat), I11 (0 : Int) (0 : Int) ∧ ∀ (v2 : Int) (v3 : Int), I11 v2 v3 → ∀ v13 : Bool, v13 = decide (v3 < (p1.length : Int)) → ((v13 = true → (0 ≤ v3 ∧ v3 < (p1.length : Int)) ∧ ∀ a14 : GLayout_Piece, p1[(v3 : Int).toNat]? = some a14 → ((a14.Kind = (1 : Int) → (R64 (v2 + (a14.S.length : Int))) ∧ ∀ v15 : Int, v15 = v2 + (a14.S.length : Int) → (R64 (v3 + (1 : Int))) ∧ ∀ v16 : Int, v16 = v3 + (1 : Int) → (I11 v15 v16 ∧ M12 v15 v16 < M12 v2 v3)) ∧ (a14.Kind ≠ (1 : Int) → ((a14.Kind = (2 : Int) → (R64 (v2 + (1 : Int))) ∧ ∀ v17 : Int, v17 = v2 + (1 : Int) → (R64 (v3 + (1 : Int))) ∧ ∀ v18 : Int, v18 = v3 + (1 : Int) → (I11 v17 v18 ∧ M12 v17 v18 < M12 v2 v3)) ∧ (a14.Kind ≠ (2 : Int) → ((a14.Kind = (4 : Int) → Q (-1 : Int)) ∧ (a14.Kind ≠ (4 : Int) → (R64 (v3 + (1 : Int))) ∧ ∀ v19 : Int, v19 = v3 + (1 : Int) → (I11 v2 v19 ∧ M12 v2 v19 < M12 v2 v3)))))))) ∧ (v13 = false → Q v2))
theorem ok28 (p1 : List (GLayout_Piece)) (r : Int) (hw : w28 p1 fun r' => r' = r) : sp28 p1 r := by
  refine zf (rs := [.t 2]) (g := zg28) Tryd.func28 hk28 ?_
  unfold w28 at hw
  show SC Tryd.prog Tryd.f28.ntmps 0 hc28 _ [(0, ln eGLayout_Piece p1)] []
  unfold hc28
  refine q_reg (st_mv rfl (g_endq [(0, ln eGLayout_Piece p1)] rfl ?_))
  refine q_reg (st_mv rfl (g_endq [(0, ln eGLayout_Piece p1), (3, ii 0)] rfl ?_))
  refine sc_seq (q_reg (st_mv rfl (g_len rfl (st_mv rfl (g_endq [(3, ii 0), (6, ln eGLayout_Piece p1), (7, ii (p1.length : Int)), (8, ii 0)] rfl ?_)))))
  refine sc_block ?_
  obtain ⟨I11, M12, hi, hw⟩ := hw
  refine sc_loop (X := { x : Int × Int // I11 x.1 x.2 }) (fun x => ([(3, ii x.1.1), (6, ln eGLayout_Piece p1), (7, ii (p1.length : Int)), (8, ii x.1.2)], [])) (fun x => M12 x.1.1 x.1.2) ⟨((0 : Int), (0 : Int)), hi⟩ ws ?_
  rintro ⟨⟨v2, v3⟩, hi2⟩
  have hw := hw v2 v3 hi2
  clear hi
  refine q_reg (gb_cmp rfl rfl trivial rfl hw fun v13 hw => g_endq [(3, ii v2), (6, ln eGLayout_Piece p1), (7, ii (p1.length : Int)), (8, ii v3), (9, .bool v13)] rfl ?_)
  refine sc_seq (s_cond rfl hw (fun hw => ?_) (fun hw => ?_))
  · refine sc_skip (sq_n (sc_seq (sc_block (q_reg (g_iaddr enc_GLayout_Piece rfl rfl hw fun a14 hw => st_load_r (v := eGLayout_Piece a14) rfl rfl (g_alloc (n := 0) rfl rfl (g_sp (v := eGLayout_Piece a14) (h' := [.cells (HV.cells (eGLayout_Piece a14))]) rfl rfl rfl (g_endq [(3, ii v2), (5, .ptr 0 0), (6, ln eGLayout_Piece p1), (7, ii (p1.length : Int)), (8, ii v3)] rfl ?_))))))))
    refine q_reg (g_faddr_p rfl (g_load_p rfl rfl rfl (g_endq [(3, ii v2), (5, .ptr 0 0), (6, ln eGLayout_Piece p1), (7, ii (p1.length : Int)), (8, ii v3), (13, ii a14.Kind)] rfl ?_)))
    refine sc_block (q_reg (g_eqi rfl rfl hw (fun hw => st_mv rfl (g_endq [(3, ii v2), (5, .ptr 0 0), (6, ln eGLayout_Piece p1), (7, ii (p1.length : Int)), (8, ii v3), (13, ii a14.Kind), (14, .bool true)] rfl ?_)) (fun hw => st_mv rfl (g_endq [(3, ii v2), (5, .ptr 0 0), (6, ln eGLayout_Piece p1), (7, ii (p1.length : Int)), (8, ii v3), (13, ii a14.Kind), (14, .bool false)] rfl ?_))))
    · refine s_cond_t rfl (s_reg (st_mv rfl (g_faddr_p rfl (g_load_p rfl rfl rfl (st_slen rfl (g_add rfl rfl hw fun v15 hw => st_mv rfl (g_end [(3, ii v15), (6, ln eGLayout_Piece p1), (7, ii (p1.length : Int)), (8, ii v3)] rfl ?_)))))))
      refine bl_n (bl_n (sq_n (s_reg (g_add rfl rfl hw fun v16 hw => st_mv rfl (g_end [(3, ii v15), (6, ln eGLayout_Piece p1), (7, ii (p1.length : Int)), (8, ii v16)] rfl ?_)))))
      exact lo_n ⟨(v15, v16), hw.1⟩ hw.2 (wr [])
    · refine s_cond_f rfl (q_reg (g_eqi rfl rfl hw (fun hw => st_mv rfl (g_endq [(3, ii v2), (6, ln eGLayout_Piece p1), (7, ii (p1.length : Int)), (8, ii v3), (13, ii a14.Kind), (21, .bool true)] rfl ?_)) (fun hw => st_mv rfl (g_endq [(3, ii v2), (6, ln eGLayout_Piece p1), (7, ii (p1.length : Int)), (8, ii v3), (13, ii a14.Kind), (21, .bool false)] rfl ?_))))
      · refine s_cond_t rfl (s_reg (st_mv rfl (g_add rfl rfl hw fun v17 hw => st_mv rfl (g_end [(3, ii v17), (6, ln eGLayout_Piece p1), (7, ii (p1.length : Int)), (8, ii v3)] rfl ?_))))
        refine bl_n (bl_n (sq_n (s_reg (g_add rfl rfl hw fun v18 hw => st_mv rfl (g_end [(3, ii v17), (6, ln eGLayout_Piece p1), (7, ii (p1.length : Int)), (8, ii v18)] rfl ?_)))))
        exact lo_n ⟨(v17, v18), hw.1⟩ hw.2 (wr [])
      · refine s_cond_f rfl (q_reg (g_eqi rfl rfl hw (fun hw => st_mv rfl (g_endq [(3, ii v2), (6, ln eGLayout_Piece p1), (7, ii (p1.length : Int)), (8, ii v3), (25, .bool true)] rfl ?_)) (fun hw => st_mv rfl (g_endq [(3, ii v2), (6, ln eGLayout_Piece p1), (7, ii (p1.length : Int)), (8, ii v3), (25, .bool false)] rfl ?_))))
        · refine s_cond_t rfl (q_reg (st_mv rfl (g_endq [(2, ii (-1 : Int))] rfl ?_)))
          exact sc_ret (bl_r (bl_r (sq_r (lo_r (bl_r (sq_r (gr1 (g := zg28) (ho := fun _ => []) [ii (-1 : Int)] hw (.inr rfl) (wr []))))))))
        · refine s_cond_f rfl (sc_skip (bl_n (bl_n (sq_n (s_reg (g_add rfl rfl hw fun v19 hw => st_mv rfl (g_end [(3, ii v2), (6, ln eGLayout_Piece p1), (7, ii (p1.length : Int)), (8, ii v19)] rfl ?_)))))))
          exact lo_n ⟨(v2, v19), hw.1⟩ hw.2 (wr [])
  · refine sc_exit (sq_x (lo_x (bl_x (sq_n (q_reg (st_mv rfl (st_mv rfl (g_endq [(2, ii v2)] rfl ?_))))))))
    exact sc_ret (gr1 (g := zg28) (ho := fun _ => []) [ii v2] hw (.inr rfl) ws)
def hc29 : C := (.seq (.reg [oo 2 (.mv (.c (.int .i64 0)))] [0]) (.seq (.reg [oo 3 (.mv (.c (.int .i64 0)))] [0, 3]) (.seq (.seq (.reg [mo 6 0, oo 7 (.len false 6), oo 8 (.mv (.c (.int .i64 0)))] [3, 6, 7, 8]) (.block 0 (.loop (.seq (.reg [oo 9 (.bin .lss 8 7)] [3, 6, 7, 8, 9]) (.seq (.cond 9 .skip (.exit 0)) (.seq (.block 1 (.seq (.reg [oo 10 (.iaddr 3 6 8), oo 11 (.load (some 3) 10), oo 5 (.alloc none [(.int .i64 0), (.int .i64 0), (.str [])]), os (.store 3 5 11)] [3, 5, 6, 7, 8]) (.seq (.reg [oo 12 (.faddr 0 1 5), oo 13 (.load none 12)] [3, 5, 6, 7, 8, 13]) (.block 2 (.seq (.reg [oo 15 (.eqv false .int 13 (.c (.int .i64 1))), mo 14 15] [3, 5, 6, 7, 8, 13, 14]) (.cond 14 (.reg [mo 16 3, oo 17 (.faddr 2 1 5), oo 18 (.load none 17), oo 19 (.len true 18), oo 20 (.bin .add 16 19), mo 3 20] [3, 6, 7, 8]) (.seq (.seq (.reg [oo 22 (.eqv false .int 13 (.c (.int .i64 2))), mo 21 22] [3, 6, 7, 8, 13, 21]) (.cond 21 .skip (.seq (.reg [oo 23 (.eqv false .int 13 (.c (.int .i64 3))), mo 21 23] [3, 6, 7, 8, 13, 21]) (.cond 21 .skip (.reg [oo 24 (.eqv false .int 13 (.c (.int .i64 4))), mo 21 24] [3, 6, 7, 8, 21]))))) (.cond 21 (.seq (.reg [mo 25 3, mo 2 25] [2]) .ret) .skip)))))))) (.reg [oo 26 (.bin .add 8 (.c (.int .i64 1))), mo 8 26] [3, 6, 7, 8]))))))) (.seq (.reg [mo 27 3, mo 2 27] [2]) .ret))))
def ha29 : Ann := ⟨[], [], [(0, [0]), (1, [0, 3]), (2, [3, 6, 7, 8]), (3, [3, 6, 7, 8, 9]), (4, [3, 5, 6, 7, 8]), (5, [3, 5, 6, 7, 8, 13]), (6, [3, 5, 6, 7, 8, 13, 14]), (7, [3, 6, 7, 8]), (8, [3, 6, 7, 8, 13, 21]), (9, [3, 6, 7, 8, 13, 21]), (10, [3, 6, 7, 8, 21]), (11, [2]), (12, [3, 6, 7, 8]), (13, [2])], []⟩
theorem hk29 : comp Tryd.prog ha29 Tryd.f29.ntmps Tryd.f29.code = some hc29 := by kernel_rfl
def w29 (p1 : List (GLayout_Piece)) (Q : Int → Prop) : Prop :=
  ∃ (I12 : Int → Int → Prop) (M13 : Int → Int → Nat), I12 (0 : Int) (0 : Int) ∧ ∀ (v2 : Int) (v3 : Int), I12 v2 v3 → ∀ v14 : Bool, v14 = decide (v3 < (p1.length : Int)) → ((v14 = true → (0 ≤ v3 ∧ v3 < (p1.length : Int)) ∧ ∀ a15 : GLayout_Piece, p1[(v3 : Int).toNat]? = some a15 → ((a15.Kind = (1 : Int) → (R64 (v2 + (a15.S.length : Int))) ∧ ∀ v16 : Int, v16 = v2 + (a15.S.length : Int) → (R64 (v3 + (1 : Int))) ∧ ∀ v17 : Int, v17 = v3 + (1 : Int) → (I12 v16 v17 ∧ M13 v16 v17 < M13 v2 v3)) ∧ (a15.Kind ≠ (1 : Int) → ∃ J19 : Bool → Prop, (((a15.Kind = (2 : Int) → J19 true) ∧ (a15.Kind ≠ (2 : Int) → ((a15.Kind = (3 : Int) → J19 true) ∧ (a15.Kind ≠ (3 : Int) → ∀ v20 : Bool, v20 = (if false then !(a15.Kind == (4 : Int)) else (a15.Kind == (4 : Int))) → J19 v20))))) ∧ ∀ (v18 : Bool), J19 v18 → ((v18 = true → Q v2) ∧ (v18 = false → (R64 (v3 + (1 : Int))) ∧ ∀ v21 : Int, v21 = v3 + (1 : Int) → (I12 v2 v21 ∧ M13 v2 v21 < M13 v2 v3)))))) ∧ (v14 = false → Q v2))
theorem ok29 (p1 : List (GLayout_Piece)) (r : Int) (hw : w29 p1 fun r' => r' = r) : sp29 p1 r := by
  refine zf (rs := [.t 2]) (g := zg29) Tryd.func29 hk29 ?_
  unfold w29 at hw
  show SC Tryd.prog Tryd.f29.ntmps 0 hc29 _ [(0, ln eGLayout_Piece p1)] []
  unfold hc29
  refine q_reg (st_mv rfl (g_endq [(0, ln eGLayout_Piece p1)] rfl ?_))
  refine q_reg (st_mv rfl (g_endq [(0, ln eGLayout_Piece p1), (3, ii 0)] rfl ?_))
  refine sc_seq (q_reg (st_mv rfl (g_len rfl (st_mv rfl (g_endq [(3, ii 0), (6, ln eGLayout_Piece p1), (7, ii (p1.length : Int)), (8, ii 0)] rfl ?_)))))
  refine sc_block ?_
  obtain ⟨I12, M13, hi, hw⟩ := hw
  refine sc_loop (X := { x : Int × Int // I12 x.1 x.2 }) (fun x => ([(3, ii x.1.1), (6, ln eGLayout_Piece p1), (7, ii (p1.length : Int)), (8, ii x.1.2)], [])) (fun x => M13 x.1.1 x.1.2) ⟨((0 : Int), (0 : Int)), hi⟩ ws ?_
  rintro ⟨⟨v2, v3⟩, hi2⟩
  have hw := hw v2 v3 hi2
  clear hi
  refine q_reg (gb_cmp rfl rfl trivial rfl hw fun v14 hw => g_endq [(3, ii v2), (6, ln eGLayout_Piece p1), (7, ii (p1.length : Int)), (8, ii v3), (9, .bool v14)] rfl ?_)
  refine sc_seq (s_cond rfl hw (fun hw => ?_) (fun hw => ?_))
  · refine sc_skip (sq_n (sc_seq (sc_block (q_reg (g_iaddr enc_GLayout_Piece rfl rfl hw fun a15 hw => st_load_r (v := eGLayout_Piece a15) rfl rfl (g_alloc (n := 0) rfl rfl (g_sp (v := eGLayout_Piece a15) (h' := [.cells (HV.cells (eGLayout_Piece a15))]) rfl rfl rfl (g_endq [(3, ii v2), (5, .ptr 0 0), (6, ln eGLayout_Piece p1), (7, ii (p1.length : Int)), (8, ii v3)] rfl ?_))))))))
    refine q_reg (g_faddr_p rfl (g_load_p rfl rfl rfl (g_endq [(3, ii v2), (5, .ptr 0 0), (6, ln eGLayout_Piece p1), (7, ii (p1.length : Int)), (8, ii v3), (13, ii a15.Kind)] rfl ?_)))
    refine sc_block (q_reg (g_eqi rfl rfl hw (fun hw => st_mv rfl (g_endq [(3, ii v2), (5, .ptr 0 0), (6, ln eGLayout_Piece p1), (7, ii (p1.length : Int)), (8, ii v3), (13, ii a15.Kind), (14, .bool true)] rfl ?_)) (fun hw => st_mv rfl (g_endq [(3, ii v2), (5, .ptr 0 0), (6, ln eGLayout_Piece p1), (7, ii (p1.length : Int)), (8, ii v3), (13, ii a15.Kind), (14, .bool false)] rfl ?_))))
    · refine s_cond_t rfl (s_reg (st_mv rfl (g_faddr_p rfl (g_load_p rfl rfl rfl (st_slen rfl (g_add rfl rfl hw fun v16 hw => st_mv rfl (g_end [(3, ii v16), (6, ln eGLayout_Piece p1), (7, ii (p1.length : Int)), (8, ii v3)] rfl ?_)))))))
      refine bl_n (bl_n (sq_n (s_reg (g_add rfl rfl hw fun v17 hw => st_mv rfl (g_end [(3, ii v16), (6, ln eGLayout_Piece p1), (7, ii (p1.length : Int)), (8, ii v17)] rfl ?_)))))
      exact lo_n ⟨(v16, v17), hw.1⟩ hw.2 (wr [])
    · refine s_cond_f rfl ?_
      obtain ⟨J19, hw, hk⟩ := hw
      refine sc_join (A := Bool) (fun x => J19 x) (fun x => ([(3, ii v2), (6, ln eGLayout_Piece p1), (7, ii (p1.length : Int)), (8, ii v3), (21, .bool x)], [])) ?_ ?_
      · rintro v18 hj
        have hw := hk v18 hj
        clear hk hj
        refine s_cond rfl hw (fun hw => ?_) (fun hw => ?_)
        · refine q_reg (st_mv rfl (st_mv rfl (g_endq [(2, ii v2)] rfl ?_)))
          exact sc_ret (bl_r (bl_r (sq_r (lo_r (bl_r (sq_r (gr1 (g := zg29) (ho := fun _ => []) [ii v2] hw (.inr rfl) ws)))))))
        · refine sc_skip (bl_n (bl_n (sq_n (s_reg (g_add rfl rfl hw fun v21 hw => st_mv rfl (g_end [(3, ii v2), (6, ln eGLayout_Piece p1), (7, ii (p1.length : Int)), (8, ii v21)] rfl ?_))))))
          exact lo_n ⟨(v2, v21), hw.1⟩ hw.2 ws
      · clear hk
        refine q_reg (g_eqi rfl rfl hw (fun hw => st_mv rfl (g_endq [(3, ii v2), (6, ln eGLayout_Piece p1), (7, ii (p1.length : Int)), (8, ii v3), (13, ii a15.Kind), (21, .bool true)] rfl ?_)) (fun hw => st_mv rfl (g_endq [(3, ii v2), (6, ln eGLayout_Piece p1), (7, ii (p1.length : Int)), (8, ii v3), (13, ii a15.Kind), (21, .bool false)] rfl ?_)))
        · exact s_cond_t rfl (sc_skip (jo_n true hw (wr [])))
        · refine s_cond_f rfl (q_reg (g_eqi rfl rfl hw (fun hw => st_mv rfl (g_endq [(3, ii v2), (6, ln eGLayout_Piece p1), (7, ii (p1.length : Int)), (8, ii v3), (13, ii a15.Kind), (21, .bool true)] rfl ?_)) (fun hw => st_mv rfl (g_endq [(3, ii v2), (6, ln eGLayout_Piece p1), (7, ii (p1.length : Int)), (8, ii v3), (13, ii a15.Kind), (21, .bool false)] rfl ?_))))
          · exact s_cond_t rfl (sc_skip (jo_n true hw (wr [])))
          · refine s_cond_f rfl (s_reg (gb_eqi rfl rfl hw fun v20 hw => st_mv rfl (g_end [(3, ii v2), (6, ln eGLayout_Piece p1), (7, ii (p1.length : Int)), (8, ii v3), (21, .bool v20)] rfl ?_)))
            exact jo_n v20 hw (wr [])
  · refine sc_exit (sq_x (lo_x (bl_x (sq_n (q_reg (st_mv rfl (st_mv rfl (g_endq [(2, ii v2)] rfl ?_))))))))
    exact sc_ret (gr1 (g := zg29) (ho := fun _ => []) [ii v2] hw (.inr rfl) ws)
def hc32 : C := (.seq (.reg [oo 2 (.mv (.c (.int .i32 0)))] [0]) (.seq (.seq (.reg [mo 3 0, oo 4 (.eqv false .int 3 (.c (.int .i32 32))), mo 5 4, og 6 (.mv 0) 5 false, og 7 (.eqv false .int 6 (.c (.int .i32 10))) 5 false, oo 8 (.pick 5 (.c (.bool true)) 7)] [0, 8]) (.cond 8 (.seq (.reg [oo 2 (.mv (.c (.int .i32 (-1))))] [2]) .ret) .skip)) (.seq (.reg [mo 9 0, mo 2 9] [2]) .ret)))
def ha32 : Ann := ⟨[], [], [(0, [0]), (1, [0, 8]), (2, [2]), (3, [2])], []⟩
theorem hk32 : comp Tryd.prog ha32 Tryd.f32.ntmps Tryd.f32.code = some hc32 := by kernel_rfl
def w32 (p1 : Int) (Q : Int → Prop) : Prop :=
  ((p1 = (32 : Int) → Q (-1 : Int)) ∧ (p1 ≠ (32 : Int) → ((p1 = (10 : Int) → Q (-1 : Int)) ∧ (p1 ≠ (10 : Int) → Q p1))))
theorem ok32 (p1 : Int) (r : Int) (hw : w32 p1 fun r' => r' = r) : sp32 p1 r := by
  refine zf (rs := [.t 2]) (g := zg32) Tryd.func32 hk32 ?_
  unfold w32 at hw
  show SC Tryd.prog Tryd.f32.ntmps 0 hc32 _ [(0, .int .i32 p1)] []
  unfold hc32
  refine q_reg (st_mv rfl (g_endq [(0, .int .i32 p1)] rfl ?_))
  refine sc_seq (q_reg (st_mv rfl (g_eqi rfl rfl hw (fun hw => st_mv rfl (st_gtf rfl (st_gtf rfl (st_pick_t rfl rfl rfl (g_endq [(0, .int .i32 p1), (8, .bool true)] rfl ?_))))) (fun hw => st_mv rfl (st_g rfl (st_mv rfl (st_g rfl (g_eqi rfl rfl hw (fun hw => st_pick_f rfl rfl rfl (g_endq [(0, .int .i32 p1), (8, .bool true)] rfl ?_)) (fun hw => st_pick_f rfl rfl rfl (g_endq [(0, .int .i32 p1), (8, .bool false)] rfl ?_))))))))))
  · refine s_cond_t rfl (q_reg (st_mv rfl (g_endq [(2, .int .i32 (-1 : Int))] rfl ?_)))
    exact sc_ret (sq_r (gr1 (g := zg32) (ho := fun _ => []) [.int .i32 (-1 : Int)] hw (.inr rfl) ws))
  · refine s_cond_t rfl (q_reg (st_mv rfl (g_endq [(2, .int .i32 (-1 : Int))] rfl ?_)))
    exact sc_ret (sq_r (gr1 (g := zg32) (ho := fun _ => []) [.int .i32 (-1 : Int)] hw (.inr rfl) ws))
  · refine s_cond_f rfl (sc_skip (sq_n (q_reg (st_mv rfl (st_mv rfl (g_endq [(2, .int .i32 p1)] rfl ?_))))))
    exact sc_ret (gr1 (g := zg32) (ho := fun _ => []) [.int .i32 p1] hw (.inr rfl) ws)
end Go.Hw.VL

