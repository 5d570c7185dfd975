import Derived.Test.YtonoaimefgodfaaHwF2
import Derived.Test.YtonoaimefgodfaaProg
set_option linter.unusedVariables false
set_option linter.unusedSimpArgs false
namespace Go.Hw.VC
open Go Go.Proofs
@[reducible] def zg14 (r : List UInt8) : HV := bn r
abbrev sp14 (p3 : List UInt8) (p4 : Int) (r : List UInt8) : Prop := PCall Try.prog 14 [bn p3, ii p4] (zg14 r)
@[reducible] def zg25 (r : List (List UInt8)) : HV := ln eB r
abbrev sp25 (p5 : List UInt8) (r : List (List UInt8)) : Prop := PCall Try.prog 25 [bn p5] (zg25 r)
@[reducible] def zg26 (r : Bool) : HV := .bool r
abbrev sp26 (p6 : List UInt8) (p7 : List UInt8) (r : Bool) : Prop := PCall Try.prog 26 [.str p6, .str p7] (zg26 r)
@[reducible] def zg43 (r : List UInt8) : HV := bn r
abbrev sp43 (p8 : List UInt8) (r : List UInt8) : Prop := PCall Try.prog 43 [bn p8] (zg43 r)
@[reducible] def zg44 (r : List UInt8) : HV := bn r
abbrev sp44 (p9 : List UInt8) (r : List UInt8) : Prop := PCall Try.prog 44 [bn p9] (zg44 r)
@[reducible] def zg51 (r : Int) : HV := ii r
abbrev sp51 (p10 : List UInt8) (p11 : Int) (r : Int) : Prop := PCall Try.prog 51 [bn p10, .int .u8 p11] (zg51 r)
@[reducible] def zg6 (r : Bool) : HV := .bool r
abbrev sp6 (p12 : List UInt8) (r : Bool) : Prop := PCall Try.prog 6 [bn p12] (zg6 r)
def hc6 : C := (.seq (.reg [oo 2 (.mv (.c (.bool false)))] [0]) (.seq (.reg [mo 8 0, co 9 (.call 14 [8, (.c (.int .i64 300))]), mo 0 9] [0]) (.seq (.reg [mo 10 0, co 11 (.call 25 [10]), mo 3 11] [0, 3]) (.seq (.seq (.reg [oo 12 (.mkarr none 1 [(.c (.int .u8 97)), (.c (.int .u8 10)), (.c (.int .u8 98))]), oo 13 (.conv .mark 12), co 14 (.call 25 [13]), mo 4 14] [0, 3, 4]) (.seq (.reg [mo 15 4, oo 16 (.len false 15), oo 17 (.eqv true .int 16 (.c (.int .i64 2))), mo 18 17, og 19 (.mv 4) 18 false, og 20 (.iaddr 1 19 (.c (.int .i64 0))) 18 false, og 21 (.load none 20) 18 false, og 22 (.conv .ofBytes 21) 18 false, og 23 (.eqv true .str 22 (.c (.str [97, 10]))) 18 false, oo 24 (.pick 18 (.c (.bool true)) 23)] [0, 3, 24]) (.cond 24 (.seq (.reg [oo 2 (.mv (.c (.bool false)))] [2]) .ret) .skip))) (.seq (.reg [oo 5 (.mv (.c (.str [])))] [0, 3, 5]) (.seq (.seq (.reg [mo 25 3, oo 26 (.len false 25), oo 27 (.mv (.c (.int .i64 0)))] [0, 3, 5, 25, 26, 27]) (.block 0 (.loop (.seq (.reg [oo 28 (.bin .lss 27 26)] [0, 3, 5, 25, 26, 27, 28]) (.seq (.cond 28 .skip (.exit 0)) (.seq (.block 1 (.seq (.reg [mo 29 27, oo 30 (.iaddr 1 25 27), oo 31 (.load none 30), mo 6 29, mo 7 31] [0, 3, 5, 6, 7, 25, 26, 27]) (.seq (.seq (.reg [mo 32 7, oo 33 (.len false 32), oo 34 (.bin .lss 33 (.c (.int .i64 1))), mo 35 34, og 36 (.mv 7) 35 false, og 37 (.len false 36) 35 false, og 38 (.bin .gtr 37 (.c (.int .i64 32))) 35 false, oo 39 (.pick 35 (.c (.bool true)) 38), mo 40 39, og 41 (.mv 6) 40 false, og 42 (.mv 3) 40 false, og 43 (.len false 42) 40 false, og 44 (.bin .sub 43 (.c (.int .i64 1))) 40 false, og 45 (.bin .lss 41 44) 40 false, og 46 (.mv 45) 40 false, og 47 (.mv 7) 46 true, og 48 (.len false 47) 46 true, og 49 (.bin .lss 48 (.c (.int .i64 32))) 46 true, og 50 (.pick 46 49 (.c (.bool false))) 40 false, og 51 (.mv 50) 40 false, og 52 (.mv 7) 51 true, og 53 (.mv 7) 51 true, og 54 (.len false 53) 51 true, og 55 (.bin .sub 54 (.c (.int .i64 1))) 51 true, og 56 (.iaddr 1 52 55) 51 true, og 57 (.load none 56) 51 true, og 58 (.eqv true .int 57 (.c (.int .u8 10))) 51 true, og 59 (.pick 51 58 (.c (.bool false))) 40 false, oo 60 (.pick 40 (.c (.bool true)) 59), mo 61 60, og 62 (.mv 7) 61 false, og 63 (.mv 7) 61 false, og 64 (.len false 63) 61 false, og 65 (.bin .sub 64 (.c (.int .i64 1))) 61 false, og 66 (.slice 1 62 none (some 65) none) 61 false, og 67 (.conv .ofBytes 66) 61 false, cg 68 (.call 26 [67, (.c (.str [10]))]) 61 false, oo 69 (.pick 61 (.c (.bool true)) 68)] [0, 3, 5, 7, 25, 26, 27, 69]) (.cond 69 (.seq (.reg [oo 2 (.mv (.c (.bool false)))] [2]) .ret) .skip)) (.reg [mo 70 5, mo 71 7, oo 72 (.conv .ofBytes 71), oo 73 (.bin .add 70 72), mo 5 73] [0, 3, 5, 25, 26, 27])))) (.reg [oo 74 (.bin .add 27 (.c (.int .i64 1))), mo 27 74] [0, 3, 5, 25, 26, 27]))))))) (.seq (.reg [mo 75 5, mo 76 0, oo 77 (.conv .ofBytes 76), oo 78 (.eqv false .str 75 77), mo 2 78] [2]) .ret)))))))
def ha6 : Ann := ⟨[(3, 0)], [], [(0, [0]), (1, [0]), (2, [0, 3]), (3, [0, 3, 4]), (4, [0, 3, 24]), (5, [2]), (6, [0, 3, 5]), (7, [0, 3, 5, 25, 26, 27]), (8, [0, 3, 5, 25, 26, 27, 28]), (9, [0, 3, 5, 6, 7, 25, 26, 27]), (10, [0, 3, 5, 7, 25, 26, 27, 69]), (11, [2]), (12, [0, 3, 5, 25, 26, 27]), (13, [0, 3, 5, 25, 26, 27]), (14, [2])], []⟩
theorem hk6 : comp Try.prog ha6 Try.f6.ntmps Try.f6.code = some hc6 := by kernel_rfl
def w6 (p1 : List UInt8) (Q : Bool → Prop) : Prop :=
  ∃ r2 : List UInt8, sp14 p1 (300 : Int) r2 ∧ ∃ r3 : List (List UInt8), sp25 r2 r3 ∧ (0 < ([97, 10, 98] : List UInt8).length ∧ ∃ r4 : List (List UInt8), sp25 ([97, 10, 98] : List UInt8) r4 ∧ (((r4.length : Int) ≠ (2 : Int) → Q false) ∧ ((r4.length : Int) = (2 : Int) → (0 ≤ (0 : Int) ∧ (0 : Int) < (r4.length : Int)) ∧ ∀ a5 : List UInt8, r4[((0 : Int) : Int).toNat]? = some a5 → ((a5 ≠ [97, 10] → Q false) ∧ (a5 = [97, 10] → ∃ (I26 : (List UInt8) → Int → Prop) (M27 : (List UInt8) → Int → Nat), I26 [] (0 : Int) ∧ ∀ (v6 : List UInt8) (v7 : Int), I26 v6 v7 → ∀ v28 : Bool, v28 = decide (v7 < (r3.length : Int)) → ((v28 = true → (0 ≤ v7 ∧ v7 < (r3.length : Int)) ∧ ∀ a29 : List UInt8, r3[(v7 : Int).toNat]? = some a29 → ∃ J31 : Bool → Prop, ((((a29.length : Int) < (1 : Int) → Q false) ∧ ((1 : Int) ≤ (a29.length : Int) → (((32 : Int) < (a29.length : Int) → Q false) ∧ ((a29.length : Int) ≤ (32 : Int) → (R64 ((r3.length : Int) - (1 : Int))) ∧ ∀ v32 : Int, v32 = (r3.length : Int) - (1 : Int) → ((v7 < v32 → (((a29.length : Int) < (32 : Int) → (R64 ((a29.length : Int) - (1 : Int))) ∧ ∀ v33 : Int, v33 = (a29.length : Int) - (1 : Int) → (0 ≤ v33 ∧ v33 < (a29.length : Int)) ∧ ∀ a34 : UInt8, a29[(v33 : Int).toNat]? = some a34 → (((a34.toNat : Int) ≠ (10 : Int) → Q false) ∧ ((a34.toNat : Int) = (10 : Int) → (R64 ((a29.length : Int) - (1 : Int))) ∧ ∀ v35 : Int, v35 = (a29.length : Int) - (1 : Int) → (0 ≤ (0 : Int) ∧ (0 : Int) ≤ v35 ∧ v35 ≤ (a29.length : Int)) ∧ ∀ v36 : List UInt8, v36 = (a29.take (v35 : Int).toNat).drop ((0 : Int) : Int).toNat → ∃ r37 : Bool, sp26 v36 [10] r37 ∧ ((r37 = true → Q false) ∧ (r37 = false → J31 r37))))) ∧ ((32 : Int) ≤ (a29.length : Int) → (R64 ((a29.length : Int) - (1 : Int))) ∧ ∀ v38 : Int, v38 = (a29.length : Int) - (1 : Int) → (0 ≤ (0 : Int) ∧ (0 : Int) ≤ v38 ∧ v38 ≤ (a29.length : Int)) ∧ ∀ v39 : List UInt8, v39 = (a29.take (v38 : Int).toNat).drop ((0 : Int) : Int).toNat → ∃ r40 : Bool, sp26 v39 [10] r40 ∧ ((r40 = true → Q false) ∧ (r40 = false → J31 r40))))) ∧ (v32 ≤ v7 → (R64 ((a29.length : Int) - (1 : Int))) ∧ ∀ v41 : Int, v41 = (a29.length : Int) - (1 : Int) → (0 ≤ (0 : Int) ∧ (0 : Int) ≤ v41 ∧ v41 ≤ (a29.length : Int)) ∧ ∀ v42 : List UInt8, v42 = (a29.take (v41 : Int).toNat).drop ((0 : Int) : Int).toNat → ∃ r43 : Bool, sp26 v42 [10] r43 ∧ ((r43 = true → Q false) ∧ (r43 = false → J31 r43))))))))) ∧ ∀ (v30 : Bool), J31 v30 → (v6.length + a29.length ≤ 9223372036854775807) ∧ ∀ v44 : List UInt8, v44 = v6 ++ a29 → (R64 (v7 + (1 : Int))) ∧ ∀ v45 : Int, v45 = v7 + (1 : Int) → (I26 v44 v45 ∧ M27 v44 v45 < M27 v6 v7)) ∧ (v28 = false → ∀ v46 : Bool, v46 = (if false then !(v6 == r2) else (v6 == r2)) → Q v46)))))))
theorem ok6 (p1 : List UInt8) (r : Bool) (hw : w6 p1 fun r' => r' = r) : sp6 p1 r := by
  refine zf (rs := [.t 2]) (g := zg6) Try.func6 hk6 ?_
  unfold w6 at hw
  show SC Try.prog Try.f6.ntmps 0 hc6 _ [(0, bn p1)] []
  unfold hc6
  refine q_reg (st_mv rfl (g_endq [(0, bn p1)] rfl ?_))
  refine q_reg (st_mv rfl (k_call dh (ec rfl (ec rfl en)) rfl hw fun r2 hw => st_mv rfl (g_endq [(0, bn r2)] rfl ?_)))
  refine q_reg (st_mv rfl (k_call dh (ec rfl en) rfl hw fun r3 hw => st_mv rfl (g_endq [(0, bn r2), (3, ln eB r3)] rfl ?_)))
  refine sc_seq (q_reg (g_mkar (n := 0) enc_byte ([97, 10, 98] : List UInt8) (ec rfl (ec rfl (ec rfl en))) rfl (mz (mz (mz mkn))) rfl (g_mark (f := (fun c : UInt8 => HV.int .u8 c.toNat)) (l := ([97, 10, 98] : List UInt8)) rfl rfl hw fun hw => k_callF (l := ([97, 10, 98] : List UInt8)) (h' := [.dead]) hh 0 enc_byte (ec rfl en) rfl rfl rfl rfl rfl rfl hw fun r4 hw => st_mv rfl (g_endq [(0, bn r2), (3, ln eB r3), (4, ln eB r4)] rfl ?_))))
  refine q_reg (st_mv rfl (g_len rfl (g_nei rfl rfl hw (fun hw => st_mv rfl (st_gtf rfl (st_gtf rfl (st_gtf rfl (st_gtf rfl (st_gtf rfl (st_pick_t rfl rfl rfl (g_endq [(0, bn r2), (3, ln eB r3), (24, .bool true)] rfl ?_)))))))) (fun hw => st_mv rfl (st_g rfl (st_mv rfl (st_g rfl (g_iaddr enc_bytes rfl rfl hw fun a5 hw => st_g rfl (st_load_r rfl rfl (st_g rfl (st_ofbytes rfl (st_g rfl (g_nes rfl rfl hw (fun hw => st_pick_f rfl rfl rfl (g_endq [(0, bn r2), (3, ln eB r3), (24, .bool true)] rfl ?_)) (fun hw => st_pick_f rfl rfl rfl (g_endq [(0, bn r2), (3, ln eB r3), (24, .bool false)] rfl ?_)))))))))))))))
  · refine s_cond_t rfl (q_reg (st_mv rfl (g_endq [(2, .bool false)] rfl ?_)))
    exact sc_ret (sq_r (gr1 (g := zg6) (ho := fun _ => []) [.bool false] hw (.inr rfl) (wr [])))
  · refine s_cond_t rfl (q_reg (st_mv rfl (g_endq [(2, .bool false)] rfl ?_)))
    exact sc_ret (sq_r (gr1 (g := zg6) (ho := fun _ => []) [.bool false] hw (.inr rfl) (wr [])))
  · refine s_cond_f rfl (sc_skip (sq_n (q_reg (st_mv rfl (g_endq [(0, bn r2), (3, ln eB r3), (5, .str [])] rfl ?_)))))
    refine sc_seq (q_reg (st_mv rfl (g_len rfl (st_mv rfl (g_endq [(0, bn r2), (3, ln eB r3), (5, .str []), (25, ln eB r3), (26, ii (r3.length : Int)), (27, ii 0)] rfl ?_)))))
    refine sc_block ?_
    obtain ⟨I26, M27, hi, hw⟩ := hw
    refine sc_loop (X := { x : List UInt8 × Int // I26 x.1 x.2 }) (fun x => ([(0, bn r2), (3, ln eB r3), (5, .str x.1.1), (25, ln eB r3), (26, ii (r3.length : Int)), (27, ii x.1.2)], [])) (fun x => M27 x.1.1 x.1.2) ⟨([], (0 : Int)), hi⟩ (wr []) ?_
    rintro ⟨⟨v6, v7⟩, hi2⟩
    have hw := hw v6 v7 hi2
    clear hi
    refine q_reg (gb_cmp rfl rfl trivial rfl hw fun v28 hw => g_endq [(0, bn r2), (3, ln eB r3), (5, .str v6), (25, ln eB r3), (26, ii (r3.length : Int)), (27, ii v7), (28, .bool v28)] rfl ?_)
    refine sc_seq (s_cond rfl hw (fun hw => ?_) (fun hw => ?_))
    · refine sc_skip (sq_n (sc_seq (sc_block (q_reg (st_mv rfl (g_iaddr enc_bytes rfl rfl hw fun a29 hw => st_load_r rfl rfl (st_mv rfl (st_mv rfl (g_endq [(0, bn r2), (3, ln eB r3), (5, .str v6), (6, ii v7), (7, bn a29), (25, ln eB r3), (26, ii (r3.length : Int)), (27, ii v7)] rfl ?_)))))))))
      obtain ⟨J31, hw, hk⟩ := hw
      refine sc_join (A := Bool) (fun x => J31 x) (fun x => ([(0, bn r2), (3, ln eB r3), (5, .str v6), (7, bn a29), (25, ln eB r3), (26, ii (r3.length : Int)), (27, ii v7), (69, .bool x)], [])) ?_ ?_
      · rintro v30 hj
        have hw := hk v30 hj
        clear hk hj
        refine s_reg (st_mv rfl (st_mv rfl (st_ofbytes rfl (g_sadd rfl rfl hw fun v44 hw => st_mv rfl (g_end [(0, bn r2), (3, ln eB r3), (5, .str v44), (25, ln eB r3), (26, ii (r3.length : Int)), (27, ii v7)] rfl ?_)))))
        refine bl_n (sq_n (s_reg (g_add rfl rfl hw fun v45 hw => st_mv rfl (g_end [(0, bn r2), (3, ln eB r3), (5, .str v44), (25, ln eB r3), (26, ii (r3.length : Int)), (27, ii v45)] rfl ?_))))
        exact lo_n ⟨(v44, v45), hw.1⟩ hw.2 ws
      · clear hk
        refine q_reg (st_mv rfl (g_len rfl (g_lss rfl rfl hw (fun hw => st_mv rfl (st_gtf rfl (st_gtf rfl (st_gtf rfl (st_pick_t rfl rfl rfl (st_mv rfl (st_gtf rfl (st_gtf rfl (st_gtf rfl (st_gtf rfl (st_gtf rfl (st_gtf rfl (st_gu rfl (st_gu rfl (st_gu rfl (st_gtf rfl (st_gtf rfl (st_gu rfl (st_gu rfl (st_gu rfl (st_gu rfl (st_gu rfl (st_gu rfl (st_gu rfl (st_gtf rfl (st_pick_t rfl rfl rfl (st_mv rfl (st_gtf rfl (st_gtf rfl (st_gtf rfl (st_gtf rfl (st_gtf rfl (st_gtf rfl (st_gtf rfl (st_pick_t rfl rfl rfl (g_endq [(0, bn r2), (3, ln eB r3), (5, .str v6), (7, bn a29), (25, ln eB r3), (26, ii (r3.length : Int)), (27, ii v7), (69, .bool true)] rfl ?_)))))))))))))))))))))))))))))))))))) (fun hw => st_mv rfl (st_g rfl (st_mv rfl (st_g rfl (g_len rfl (st_g rfl (g_gtr rfl rfl hw (fun hw => st_pick_f rfl rfl rfl (st_mv rfl (st_gtf rfl (st_gtf rfl (st_gtf rfl (st_gtf rfl (st_gtf rfl (st_gtf rfl (st_gu rfl (st_gu rfl (st_gu rfl (st_gtf rfl (st_gtf rfl (st_gu rfl (st_gu rfl (st_gu rfl (st_gu rfl (st_gu rfl (st_gu rfl (st_gu rfl (st_gtf rfl (st_pick_t rfl rfl rfl (st_mv rfl (st_gtf rfl (st_gtf rfl (st_gtf rfl (st_gtf rfl (st_gtf rfl (st_gtf rfl (st_gtf rfl (st_pick_t rfl rfl rfl (g_endq [(0, bn r2), (3, ln eB r3), (5, .str v6), (7, bn a29), (25, ln eB r3), (26, ii (r3.length : Int)), (27, ii v7), (69, .bool true)] rfl ?_)))))))))))))))))))))))))))))))) (fun hw => st_pick_f rfl rfl rfl (st_mv rfl (st_g rfl (st_mv rfl (st_g rfl (st_mv rfl (st_g rfl (g_len rfl (st_g rfl (g_sub rfl rfl hw fun v32 hw => st_g rfl (g_lss rfl rfl hw (fun hw => st_g rfl (st_mv rfl (st_g rfl (st_mv rfl (st_g rfl (g_len rfl (st_g rfl (g_lss rfl rfl hw (fun hw => st_g rfl (st_pick_t rfl rfl rfl (st_g rfl (st_mv rfl (st_g rfl (st_mv rfl (st_g rfl (st_mv rfl (st_g rfl (g_len rfl (st_g rfl (g_sub rfl rfl hw fun v33 hw => st_g rfl (g_iaddr enc_byte rfl rfl hw fun a34 hw => st_g rfl (st_load_r rfl rfl (st_g rfl (g_nei rfl rfl hw (fun hw => st_g rfl (st_pick_t rfl rfl rfl (st_pick_f rfl rfl rfl (st_mv rfl (st_gtf rfl (st_gtf rfl (st_gtf rfl (st_gtf rfl (st_gtf rfl (st_gtf rfl (st_gtf rfl (st_pick_t rfl rfl rfl (g_endq [(0, bn r2), (3, ln eB r3), (5, .str v6), (7, bn a29), (25, ln eB r3), (26, ii (r3.length : Int)), (27, ii v7), (69, .bool true)] rfl ?_))))))))))))) (fun hw => st_g rfl (st_pick_t rfl rfl rfl (st_pick_f rfl rfl rfl (st_mv rfl (st_g rfl (st_mv rfl (st_g rfl (st_mv rfl (st_g rfl (g_len rfl (st_g rfl (g_sub rfl rfl hw fun v35 hw => st_g rfl (g_slice enc_byte rfl bnd_none (bnd_some rfl) hw fun v36 hw => st_g rfl (st_ofbytes rfl (st_g rfl (k_call dh (ec rfl (ec rfl en)) rfl hw fun r37 hw => st_pick_f rfl rfl rfl (g_endq [(0, bn r2), (3, ln eB r3), (5, .str v6), (7, bn a29), (25, ln eB r3), (26, ii (r3.length : Int)), (27, ii v7), (69, .bool r37)] rfl ?_))))))))))))))))))))))))))))))))) (fun hw => st_g rfl (st_pick_t rfl rfl rfl (st_g rfl (st_mv rfl (st_gft rfl (st_gft rfl (st_gft rfl (st_gft rfl (st_gft rfl (st_gft rfl (st_gft rfl (st_g rfl (st_pick_f rfl rfl rfl (st_pick_f rfl rfl rfl (st_mv rfl (st_g rfl (st_mv rfl (st_g rfl (st_mv rfl (st_g rfl (g_len rfl (st_g rfl (g_sub rfl rfl hw fun v38 hw => st_g rfl (g_slice enc_byte rfl bnd_none (bnd_some rfl) hw fun v39 hw => st_g rfl (st_ofbytes rfl (st_g rfl (k_call dh (ec rfl (ec rfl en)) rfl hw fun r40 hw => st_pick_f rfl rfl rfl (g_endq [(0, bn r2), (3, ln eB r3), (5, .str v6), (7, bn a29), (25, ln eB r3), (26, ii (r3.length : Int)), (27, ii v7), (69, .bool r40)] rfl ?_)))))))))))))))))))))))))))))))))))) (fun hw => st_g rfl (st_mv rfl (st_gft rfl (st_gft rfl (st_gft rfl (st_g rfl (st_pick_f rfl rfl rfl (st_g rfl (st_mv rfl (st_gft rfl (st_gft rfl (st_gft rfl (st_gft rfl (st_gft rfl (st_gft rfl (st_gft rfl (st_g rfl (st_pick_f rfl rfl rfl (st_pick_f rfl rfl rfl (st_mv rfl (st_g rfl (st_mv rfl (st_g rfl (st_mv rfl (st_g rfl (g_len rfl (st_g rfl (g_sub rfl rfl hw fun v41 hw => st_g rfl (g_slice enc_byte rfl bnd_none (bnd_some rfl) hw fun v42 hw => st_g rfl (st_ofbytes rfl (st_g rfl (k_call dh (ec rfl (ec rfl en)) rfl hw fun r43 hw => st_pick_f rfl rfl rfl (g_endq [(0, bn r2), (3, ln eB r3), (5, .str v6), (7, bn a29), (25, ln eB r3), (26, ii (r3.length : Int)), (27, ii v7), (69, .bool r43)] rfl ?_))))))))))))))))))))))))))))))))))))))))))))))))))))))
        · refine s_cond_t rfl (q_reg (st_mv rfl (g_endq [(2, .bool false)] rfl ?_)))
          exact sc_ret (jo_r (bl_r (sq_r (lo_r (bl_r (sq_r (gr1 (g := zg6) (ho := fun _ => []) [.bool false] hw (.inr rfl) ws)))))))
        · refine s_cond_t rfl (q_reg (st_mv rfl (g_endq [(2, .bool false)] rfl ?_)))
          exact sc_ret (jo_r (bl_r (sq_r (lo_r (bl_r (sq_r (gr1 (g := zg6) (ho := fun _ => []) [.bool false] hw (.inr rfl) ws)))))))
        · refine s_cond_t rfl (q_reg (st_mv rfl (g_endq [(2, .bool false)] rfl ?_)))
          exact sc_ret (jo_r (bl_r (sq_r (lo_r (bl_r (sq_r (gr1 (g := zg6) (ho := fun _ => []) [.bool false] hw (.inr rfl) ws)))))))
        · refine s_cond rfl hw (fun hw => ?_) (fun hw => ?_)
          · refine q_reg (st_mv rfl (g_endq [(2, .bool false)] rfl ?_))
            exact sc_ret (jo_r (bl_r (sq_r (lo_r (bl_r (sq_r (gr1 (g := zg6) (ho := fun _ => []) [.bool false] hw (.inr rfl) ws)))))))
          · exact sc_skip (jo_n r37 hw ws)
        · refine s_cond rfl hw (fun hw => ?_) (fun hw => ?_)
          · refine q_reg (st_mv rfl (g_endq [(2, .bool false)] rfl ?_))
            exact sc_ret (jo_r (bl_r (sq_r (lo_r (bl_r (sq_r (gr1 (g := zg6) (ho := fun _ => []) [.bool false] hw (.inr rfl) ws)))))))
          · exact sc_skip (jo_n r40 hw ws)
        · refine s_cond rfl hw (fun hw => ?_) (fun hw => ?_)
          · refine q_reg (st_mv rfl (g_endq [(2, .bool false)] rfl ?_))
            exact sc_ret (jo_r (bl_r (sq_r (lo_r (bl_r (sq_r (gr1 (g := zg6) (ho := fun _ => []) [.bool false] hw (.inr rfl) ws)))))))
          · exact sc_skip (jo_n r43 hw ws)
    · refine sc_exit (sq_x (lo_x (bl_x (sq_n (q_reg (st_mv rfl (st_mv rfl (st_ofbytes rfl (gb_eqs rfl rfl hw fun v46 hw => st_mv rfl (g_endq [(2, .bool v46)] rfl ?_))))))))))
      exact sc_ret (gr1 (g := zg6) (ho := fun _ => []) [.bool v46] hw (.inr rfl) ws)
def hc14 : C := (.seq (.reg [oo 4 (.mv (.c (.list [] .full)))] [0, 1]) (.seq (.reg [mo 5 0, mo 6 0, oo 7 (.len false 6), mo 8 1, oo 9 (.min [7, 8]), oo 10 (.slice 1 5 none (some 9) none), co 11 (.call 43 [10]), mo 4 11] [4]) .ret))
def ha14 : Ann := ⟨[], [], [(0, [0, 1]), (1, [4])], []⟩
theorem hk14 : comp Try.prog ha14 Try.f14.ntmps Try.f14.code = some hc14 := by kernel_rfl
def w14 (p1 : List UInt8) (p2 : Int) (Q : List UInt8 → Prop) : Prop :=
  ∀ v3 : Int, v3 = min (p1.length : Int) p2 → (0 ≤ (0 : Int) ∧ (0 : Int) ≤ v3 ∧ v3 ≤ (p1.length : Int)) ∧ ∀ v4 : List UInt8, v4 = (p1.take (v3 : Int).toNat).drop ((0 : Int) : Int).toNat → ∃ r5 : List UInt8, sp43 v4 r5 ∧ Q r5
theorem ok14 (p1 : List UInt8) (p2 : Int) (r : List UInt8) (hw : w14 p1 p2 fun r' => r' = r) : sp14 p1 p2 r := by
  refine zf (rs := [.t 4]) (g := zg14) Try.func14 hk14 ?_
  unfold w14 at hw
  show SC Try.prog Try.f14.ntmps 0 hc14 _ [(0, bn p1), (1, ii p2)] []
  unfold hc14
  refine q_reg (st_mv rfl (g_endq [(0, bn p1), (1, ii p2)] rfl ?_))
  refine q_reg (st_mv rfl (st_mv rfl (g_len rfl (st_mv rfl (g_min rfl rfl hw fun v3 hw => g_slice enc_byte rfl bnd_none (bnd_some rfl) hw fun v4 hw => k_call dh (ec rfl en) rfl hw fun r5 hw => st_mv rfl (g_endq [(4, bn r5)] rfl ?_))))))
  exact sc_ret (gr1 (g := zg14) (ho := fun _ => []) [bn r5] hw (.inr rfl) ws)
def hc25 : C := (.seq (.reg [oo 2 (.mv (.c (.list [] .full)))] [0]) (.seq (.reg [oo 3 (.mv (.c (.list [] .full)))] [0, 3]) (.seq (.block 0 (.loop (.seq (.seq (.reg [mo 6 0, oo 7 (.len false 6), oo 8 (.bin .gtr 7 (.c (.int .i64 0)))] [0, 3, 8]) (.cond 8 .skip (.exit 0))) (.block 1 (.seq (.reg [mo 9 0, oo 10 (.len false 9), oo 11 (.min [10, (.c (.int .i64 32))]), mo 4 11] [0, 3, 4]) (.seq (.seq (.reg [mo 12 0, mo 13 4, oo 14 (.slice 1 12 none (some 13) none), co 15 (.call 51 [14, (.c (.int .u8 10))]), mo 5 15] [0, 3, 4, 5]) (.seq (.reg [mo 16 5, oo 17 (.bin .geq 16 (.c (.int .i64 0)))] [0, 3, 4, 5, 17]) (.cond 17 (.reg [mo 18 5, oo 19 (.bin .add 18 (.c (.int .i64 1))), mo 4 19] [0, 3, 4]) .skip))) (.seq (.reg [mo 20 3, mo 21 0, mo 22 4, oo 23 (.slice 1 21 none (some 22) none), co 24 (.call 44 [23]), oo 25 (.mklist 1 [24]), oo 26 (.append 1 24 20 25), mo 3 26] [0, 3, 4]) (.reg [mo 27 0, mo 28 4, oo 29 (.slice 1 27 (some 28) none none), mo 0 29] [0, 3])))))))) (.seq (.reg [mo 30 3, mo 2 30] [2]) .ret))))
def ha25 : Ann := ⟨[], [], [(0, [0]), (1, [0, 3]), (2, [0, 3, 8]), (3, [0, 3, 4]), (4, [0, 3, 4, 5]), (5, [0, 3, 4, 5, 17]), (6, [0, 3, 4]), (7, [0, 3, 4]), (8, [0, 3]), (9, [2])], []⟩
theorem hk25 : comp Try.prog ha25 Try.f25.ntmps Try.f25.code = some hc25 := by kernel_rfl
def w25 (p1 : List UInt8) (Q : List (List UInt8) → Prop) : Prop :=
  ∃ (I14 : (List UInt8) → (List (List UInt8)) → Prop) (M15 : (List UInt8) → (List (List UInt8)) → Nat), I14 p1 ([] : List (List UInt8)) ∧ ∀ (v2 : List UInt8) (v3 : List (List UInt8)), I14 v2 v3 → (((0 : Int) < (v2.length : Int) → ∀ v16 : Int, v16 = min (v2.length : Int) (32 : Int) → ∃ J18 : Int → Prop, ((0 ≤ (0 : Int) ∧ (0 : Int) ≤ v16 ∧ v16 ≤ (v2.length : Int)) ∧ ∀ v19 : List UInt8, v19 = (v2.take (v16 : Int).toNat).drop ((0 : Int) : Int).toNat → ∃ r20 : Int, sp51 v19 (10 : Int) r20 ∧ (((0 : Int) ≤ r20 → (R64 (r20 + (1 : Int))) ∧ ∀ v21 : Int, v21 = r20 + (1 : Int) → J18 v21) ∧ (r20 < (0 : Int) → J18 v16))) ∧ ∀ (v17 : Int), J18 v17 → (0 ≤ (0 : Int) ∧ (0 : Int) ≤ v17 ∧ v17 ≤ (v2.length : Int)) ∧ ∀ v22 : List UInt8, v22 = (v2.take (v17 : Int).toNat).drop ((0 : Int) : Int).toNat → ∃ r23 : List UInt8, sp44 v22 r23 ∧ ((v3.length + ([r23] : List (List UInt8)).length) * 24 ≤ 140737488355328) ∧ ∀ v24 : List (List UInt8), v24 = v3 ++ ([r23] : List (List UInt8)) → (0 ≤ v17 ∧ v17 ≤ (v2.length : Int) ∧ (v2.length : Int) ≤ (v2.length : Int)) ∧ ∀ v25 : List UInt8, v25 = (v2.take ((v2.length : Int) : Int).toNat).drop (v17 : Int).toNat → (I14 v25 v24 ∧ M15 v25 v24 < M15 v2 v3)) ∧ ((v2.length : Int) ≤ (0 : Int) → Q v3))
theorem ok25 (p1 : List UInt8) (r : List (List UInt8)) (hw : w25 p1 fun r' => r' = r) : sp25 p1 r := by
  refine zf (rs := [.t 2]) (g := zg25) Try.func25 hk25 ?_
  unfold w25 at hw
  show SC Try.prog Try.f25.ntmps 0 hc25 _ [(0, bn p1)] []
  unfold hc25
  refine q_reg (st_mv rfl (g_endq [(0, bn p1)] rfl ?_))
  refine q_reg (st_mv rfl (g_endq [(0, bn p1), (3, nl eB)] rfl ?_))
  refine sc_seq (sc_block ?_)
  obtain ⟨I14, M15, hi, hw⟩ := hw
  refine sc_loop (X := { x : List UInt8 × List (List UInt8) // I14 x.1 x.2 }) (fun x => ([(0, bn x.1.1), (3, .list (List.map eB x.1.2) (.own 0 1 1))], [.tok (1 + x.1.2.length)])) (fun x => M15 x.1.1 x.1.2) ⟨(p1, ([] : List (List UInt8))), hi⟩ ((w_acc (l := ([] : List (List UInt8))) 3 1 (n := 0) rfl enc_bytes rfl).trans ws) ?_
  rintro ⟨⟨v2, v3⟩, hi2⟩
  have hw := hw v2 v3 hi2
  clear hi
  refine sc_seq (q_reg (st_mv rfl (g_len rfl (g_gtr rfl rfl hw (fun hw => g_endq [(0, bn v2), (3, .list (List.map eB v3) (.own 0 1 1)), (8, .bool true)] rfl ?_) (fun hw => g_endq [(0, bn v2), (3, .list (List.map eB v3) (.own 0 1 1)), (8, .bool false)] rfl ?_)))))
  · refine s_cond_t rfl (sc_skip (sq_n (sc_block (q_reg (st_mv rfl (g_len rfl (g_min rfl rfl hw fun v16 hw => st_mv rfl (g_endq [(0, bn v2), (3, .list (List.map eB v3) (.own 0 1 1)), (4, ii v16)] rfl ?_))))))))
    obtain ⟨J18, hw, hk⟩ := hw
    refine sc_join (A := Int) (fun x => J18 x) (fun x => ([(0, bn v2), (3, .list (List.map eB v3) (.own 0 1 1)), (4, ii x)], [.tok (1 + v3.length)])) ?_ ?_
    · rintro v17 hj
      have hw := hk v17 hj
      clear hk hj
      refine q_reg (st_mv rfl (st_mv rfl (st_mv rfl (g_slice enc_byte rfl bnd_none (bnd_some rfl) hw fun v22 hw => k_call dh (ec rfl en) rfl hw fun r23 hw => g_mkl enc_bytes [r23] (ec rfl en) rfl (mz mkn) (g_appo enc_bytes rfl rfl rfl hw (fun z => [.tok (1 + z.length)]) (fun _ => rfl) fun v24 hw => st_mv rfl (g_endq [(0, bn v2), (3, .list (List.map eB v24) (.own 0 1 1)), (4, ii v17)] rfl ?_))))))
      refine s_reg (st_mv rfl (st_mv rfl (g_slice enc_byte rfl (bnd_some rfl) bnd_none hw fun v25 hw => st_mv rfl (g_end [(0, bn v25), (3, .list (List.map eB v24) (.own 0 1 1))] rfl ?_))))
      exact bl_n (lo_n ⟨(v25, v24), hw.1⟩ hw.2 ws)
    · clear hk
      refine q_reg (st_mv rfl (st_mv rfl (g_slice enc_byte rfl bnd_none (bnd_some rfl) hw fun v19 hw => k_call dh (ec rfl (ec rfl en)) rfl hw fun r20 hw => st_mv rfl (g_endq [(0, bn v2), (3, .list (List.map eB v3) (.own 0 1 1)), (4, ii v16), (5, ii r20)] rfl ?_))))
      refine q_reg (st_mv rfl (g_geq rfl rfl hw (fun hw => g_endq [(0, bn v2), (3, .list (List.map eB v3) (.own 0 1 1)), (4, ii v16), (5, ii r20), (17, .bool true)] rfl ?_) (fun hw => g_endq [(0, bn v2), (3, .list (List.map eB v3) (.own 0 1 1)), (4, ii v16), (5, ii r20), (17, .bool false)] rfl ?_)))
      · refine s_cond_t rfl (s_reg (st_mv rfl (g_add rfl rfl hw fun v21 hw => st_mv rfl (g_end [(0, bn v2), (3, .list (List.map eB v3) (.own 0 1 1)), (4, ii v21)] rfl ?_))))
        exact jo_n v21 hw ws
      · exact s_cond_f rfl (sc_skip (jo_n v16 hw ws))
  · refine s_cond_f rfl (sc_exit (sq_x (lo_x (bl_x (sq_n (q_reg (st_mv rfl (st_mv rfl (g_endq [(2, .list (List.map eB v3) (.own 0 1 1))] rfl ?_)))))))))
    exact sc_ret (gr (g := zg25) (ho := fun _ => []) [.list (List.map eB v3) (.own 0 1 1)] [ln eB v3] hw (.inr rfl) (wr []))
def hc43 : C := (.seq (.reg [oo 2 (.mv (.c (.list [] .full)))] [0]) (.seq (.seq (.reg [mo 3 0, oo 4 (.eqv false .slice 3 (.c .nilslice))] [0, 4]) (.cond 4 (.seq (.reg [oo 2 (.mv (.c (.list [] .full)))] [2]) .ret) .skip)) (.seq (.reg [oo 5 (.mklist 1 []), mo 6 0, oo 7 (.append 1 1 5 6), mo 2 7] [2]) .ret)))
def ha43 : Ann := ⟨[], [], [(0, [0]), (1, [0, 4]), (2, [2]), (3, [2])], []⟩
theorem hk43 : comp Try.prog ha43 Try.f43.ntmps Try.f43.code = some hc43 := by kernel_rfl
def w43 (p1 : List UInt8) (Q : List UInt8 → Prop) : Prop :=
  ((p1.length = 0 → Q ([] : List UInt8)) ∧ (((([] : List UInt8).length + p1.length) * 1 ≤ 140737488355328) ∧ ∀ v2 : List UInt8, v2 = ([] : List UInt8) ++ p1 → Q v2))
theorem ok43 (p1 : List UInt8) (r : List UInt8) (hw : w43 p1 fun r' => r' = r) : sp43 p1 r := by
  refine zf (rs := [.t 2]) (g := zg43) Try.func43 hk43 ?_
  unfold w43 at hw
  show SC Try.prog Try.f43.ntmps 0 hc43 _ [(0, bn p1)] []
  unfold hc43
  refine q_reg (st_mv rfl (g_endq [(0, bn p1)] rfl ?_))
  refine sc_seq (q_reg (st_mv rfl (g_eqn2 rfl rfl hw (fun hw => g_endq [(0, bn p1), (4, .bool true)] rfl ?_) (fun hw => g_endq [(0, bn p1), (4, .bool false)] rfl ?_))))
  · refine s_cond_t rfl (q_reg (st_mv rfl (g_endq [(2, .list (bytesOf ([] : List UInt8)) .full)] rfl ?_)))
    exact sc_ret (sq_r (gr (g := zg43) (ho := fun _ => []) [.list (bytesOf ([] : List UInt8)) .full] [bn ([] : List UInt8)] hw (.inr rfl) ws))
  · refine s_cond_f rfl (sc_skip (sq_n (q_reg (g_mkl enc_byte [] en rfl mkn (st_mv rfl (g_appf enc_byte rfl rfl (n := 0) rfl hw fun v2 hw => st_mv rfl (g_endq [(2, .list (bytesOf v2) (.own 0 1 1))] rfl ?_)))))))
    exact sc_ret (gr (g := zg43) (ho := fun _ => []) [.list (bytesOf v2) (.own 0 1 1)] [bn v2] hw (.inr rfl) (wr []))
def hc44 : C := (.seq (.reg [oo 2 (.mv (.c (.list [] .full)))] [0]) (.seq (.seq (.reg [mo 3 0, oo 4 (.eqv false .slice 3 (.c .nilslice))] [0, 4]) (.cond 4 (.seq (.reg [oo 2 (.mv (.c (.list [] .full)))] [2]) .ret) .skip)) (.seq (.reg [oo 5 (.mklist 1 []), mo 6 0, oo 7 (.append 1 1 5 6), mo 2 7] [2]) .ret)))
def ha44 : Ann := ⟨[], [], [(0, [0]), (1, [0, 4]), (2, [2]), (3, [2])], []⟩
theorem hk44 : comp Try.prog ha44 Try.f44.ntmps Try.f44.code = some hc44 := by kernel_rfl
def w44 (p1 : List UInt8) (Q : List UInt8 → Prop) : Prop :=
  ((p1.length = 0 → Q ([] : List UInt8)) ∧ (((([] : List UInt8).length + p1.length) * 1 ≤ 140737488355328) ∧ ∀ v2 : List UInt8, v2 = ([] : List UInt8) ++ p1 → Q v2))
theorem ok44 (p1 : List UInt8) (r : List UInt8) (hw : w44 p1 fun r' => r' = r) : sp44 p1 r := by
  refine zf (rs := [.t 2]) (g := zg44) Try.func44 hk44 ?_
  unfold w44 at hw
  show SC Try.prog Try.f44.ntmps 0 hc44 _ [(0, bn p1)] []
  unfold hc44
  refine q_reg (st_mv rfl (g_endq [(0, bn p1)] rfl ?_))
  refine sc_seq (q_reg (st_mv rfl (g_eqn2 rfl rfl hw (fun hw => g_endq [(0, bn p1), (4, .bool true)] rfl ?_) (fun hw => g_endq [(0, bn p1), (4, .bool false)] rfl ?_))))
  · refine s_cond_t rfl (q_reg (st_mv rfl (g_endq [(2, .list (bytesOf ([] : List UInt8)) .full)] rfl ?_)))
    exact sc_ret (sq_r (gr (g := zg44) (ho := fun _ => []) [.list (bytesOf ([] : List UInt8)) .full] [bn ([] : List UInt8)] hw (.inr rfl) ws))
  · refine s_cond_f rfl (sc_skip (sq_n (q_reg (g_mkl enc_byte [] en rfl mkn (st_mv rfl (g_appf enc_byte rfl rfl (n := 0) rfl hw fun v2 hw => st_mv rfl (g_endq [(2, .list (bytesOf v2) (.own 0 1 1))] rfl ?_)))))))
    exact sc_ret (gr (g := zg44) (ho := fun _ => []) [.list (bytesOf v2) (.own 0 1 1)] [bn v2] hw (.inr rfl) (wr []))
end Go.Hw.VC

