import Derived.Test.YtphdkcgchcogdaaHwS1a
set_option linter.unusedVariables false
set_option linter.unusedSimpArgs false
namespace Go.Hw.VE
open Go Go.Proofs
def hc57 : C := (.seq (.reg [oo 2 (.mv (.c (.int .i64 0)))] [0, 2]) (.seq (.seq (.reg [mo 3 0, oo 4 (.bin .geq 3 (.c (.int .u64 4294967296)))] [0, 2, 4]) (.cond 4 (.seq (.reg [mo 5 0, oo 6 (.bin .shr 5 (.c (.int .u64 32))), mo 0 6] [0]) (.reg [oo 2 (.mv (.c (.int .i64 32)))] [0, 2])) .skip)) (.seq (.seq (.reg [mo 7 0, oo 8 (.bin .geq 7 (.c (.int .u64 65536)))] [0, 2, 8]) (.cond 8 (.seq (.reg [mo 9 0, oo 10 (.bin .shr 9 (.c (.int .u64 16))), mo 0 10] [0, 2]) (.reg [mo 11 2, oo 12 (.bin .add 11 (.c (.int .i64 16))), mo 2 12] [0, 2])) .skip)) (.seq (.seq (.reg [mo 13 0, oo 14 (.bin .geq 13 (.c (.int .u64 256)))] [0, 2, 14]) (.cond 14 (.seq (.reg [mo 15 0, oo 16 (.bin .shr 15 (.c (.int .u64 8))), mo 0 16] [0, 2]) (.reg [mo 17 2, oo 18 (.bin .add 17 (.c (.int .i64 8))), mo 2 18] [0, 2])) .skip)) (.seq (.reg [mo 19 2, mo 20 0, oo 21 (.conv (.int .u8) 20), oo 22 (.index (.c (.str [0, 1, 2, 2, 3, 3, 3, 3, 4, 4, 4, 4, 4, 4, 4, 4, 5, 5, 5, 5, 5, 5, 5, 5, 5, 5, 5, 5, 5, 5, 5, 5, 6, 6, 6, 6, 6, 6, 6, 6, 6, 6, 6, 6, 6, 6, 6, 6, 6, 6, 6, 6, 6, 6, 6, 6, 6, 6, 6, 6, 6, 6, 6, 6, 7, 7, 7, 7, 7, 7, 7, 7, 7, 7, 7, 7, 7, 7, 7, 7, 7, 7, 7, 7, 7, 7, 7, 7, 7, 7, 7, 7, 7, 7, 7, 7, 7, 7, 7, 7, 7, 7, 7, 7, 7, 7, 7, 7, 7, 7, 7, 7, 7, 7, 7, 7, 7, 7, 7, 7, 7, 7, 7, 7, 7, 7, 7, 7, 8, 8, 8, 8, 8, 8, 8, 8, 8, 8, 8, 8, 8, 8, 8, 8, 8, 8, 8, 8, 8, 8, 8, 8, 8, 8, 8, 8, 8, 8, 8, 8, 8, 8, 8, 8, 8, 8, 8, 8, 8, 8, 8, 8, 8, 8, 8, 8, 8, 8, 8, 8, 8, 8, 8, 8, 8, 8, 8, 8, 8, 8, 8, 8, 8, 8, 8, 8, 8, 8, 8, 8, 8, 8, 8, 8, 8, 8, 8, 8, 8, 8, 8, 8, 8, 8, 8, 8, 8, 8, 8, 8, 8, 8, 8, 8, 8, 8, 8, 8, 8, 8, 8, 8, 8, 8, 8, 8, 8, 8, 8, 8, 8, 8, 8, 8, 8, 8, 8, 8, 8, 8, 8, 8, 8, 8, 8, 8])) 21), oo 23 (.conv (.int .i64) 22), oo 24 (.bin .add 19 23), mo 2 24] [2]) .ret)))))
def ha57 : Ann := ⟨[], [], [(0, [0, 2]), (1, [0, 2, 4]), (2, [0]), (3, [0, 2]), (4, [0, 2, 8]), (5, [0, 2]), (6, [0, 2]), (7, [0, 2, 14]), (8, [0, 2]), (9, [0, 2]), (10, [2])], []⟩
theorem hk57 : comp Try.prog ha57 Try.f57.ntmps Try.f57.code = some hc57 := by kernel_rfl
def w57 (p1 : Int) (Q : Int → Prop) : Prop :=
  ∃ J4 : Int → Int → Prop, ((((4294967296 : Int) ≤ p1 → (ibinOk .shr (32 : Int)) ∧ ∀ v5 : Int, v5 = iop .shr .u64 p1 (32 : Int) → J4 v5 (32 : Int)) ∧ (p1 < (4294967296 : Int) → J4 p1 (0 : Int)))) ∧ ∀ (v2 : Int) (v3 : Int), J4 v2 v3 → ∃ J8 : Int → Int → Prop, ((((65536 : Int) ≤ v2 → (ibinOk .shr (16 : Int)) ∧ ∀ v9 : Int, v9 = iop .shr .u64 v2 (16 : Int) → (R64 (v3 + (16 : Int))) ∧ ∀ v10 : Int, v10 = v3 + (16 : Int) → J8 v9 v10) ∧ (v2 < (65536 : Int) → J8 v2 v3))) ∧ ∀ (v6 : Int) (v7 : Int), J8 v6 v7 → ∃ J13 : Int → Int → Prop, ((((256 : Int) ≤ v6 → (ibinOk .shr (8 : Int)) ∧ ∀ v14 : Int, v14 = iop .shr .u64 v6 (8 : Int) → (R64 (v7 + (8 : Int))) ∧ ∀ v15 : Int, v15 = v7 + (8 : Int) → J13 v14 v15) ∧ (v6 < (256 : Int) → J13 v6 v7))) ∧ ∀ (v11 : Int) (v12 : Int), J13 v11 v12 → ∀ v16 : Int, v16 = IntKind.wrap .u8 v11 → (0 ≤ v16 ∧ v16 < ([0, 1, 2, 2, 3, 3, 3, 3, 4, 4, 4, 4, 4, 4, 4, 4, 5, 5, 5, 5, 5, 5, 5, 5, 5, 5, 5, 5, 5, 5, 5, 5, 6, 6, 6, 6, 6, 6, 6, 6, 6, 6, 6, 6, 6, 6, 6, 6, 6, 6, 6, 6, 6, 6, 6, 6, 6, 6, 6, 6, 6, 6, 6, 6, 7, 7, 7, 7, 7, 7, 7, 7, 7, 7, 7, 7, 7, 7, 7, 7, 7, 7, 7, 7, 7, 7, 7, 7, 7, 7, 7, 7, 7, 7, 7, 7, 7, 7, 7, 7, 7, 7, 7, 7, 7, 7, 7, 7, 7, 7, 7, 7, 7, 7, 7, 7, 7, 7, 7, 7, 7, 7, 7, 7, 7, 7, 7, 7, 8, 8, 8, 8, 8, 8, 8, 8, 8, 8, 8, 8, 8, 8, 8, 8, 8, 8, 8, 8, 8, 8, 8, 8, 8, 8, 8, 8, 8, 8, 8, 8, 8, 8, 8, 8, 8, 8, 8, 8, 8, 8, 8, 8, 8, 8, 8, 8, 8, 8, 8, 8, 8, 8, 8, 8, 8, 8, 8, 8, 8, 8, 8, 8, 8, 8, 8, 8, 8, 8, 8, 8, 8, 8, 8, 8, 8, 8, 8, 8, 8, 8, 8, 8, 8, 8, 8, 8, 8, 8, 8, 8, 8, 8, 8, 8, 8, 8, 8, 8, 8, 8, 8, 8, 8, 8, 8, 8, 8, 8, 8, 8, 8, 8, 8, 8, 8, 8, 8, 8, 8, 8, 8, 8, 8, 8, 8, 8].length : Int)) ∧ ∀ c17 : UInt8, [0, 1, 2, 2, 3, 3, 3, 3, 4, 4, 4, 4, 4, 4, 4, 4, 5, 5, 5, 5, 5, 5, 5, 5, 5, 5, 5, 5, 5, 5, 5, 5, 6, 6, 6, 6, 6, 6, 6, 6, 6, 6, 6, 6, 6, 6, 6, 6, 6, 6, 6, 6, 6, 6, 6, 6, 6, 6, 6, 6, 6, 6, 6, 6, 7, 7, 7, 7, 7, 7, 7, 7, 7, 7, 7, 7, 7, 7, 7, 7, 7, 7, 7, 7, 7, 7, 7, 7, 7, 7, 7, 7, 7, 7, 7, 7, 7, 7, 7, 7, 7, 7, 7, 7, 7, 7, 7, 7, 7, 7, 7, 7, 7, 7, 7, 7, 7, 7, 7, 7, 7, 7, 7, 7, 7, 7, 7, 7, 8, 8, 8, 8, 8, 8, 8, 8, 8, 8, 8, 8, 8, 8, 8, 8, 8, 8, 8, 8, 8, 8, 8, 8, 8, 8, 8, 8, 8, 8, 8, 8, 8, 8, 8, 8, 8, 8, 8, 8, 8, 8, 8, 8, 8, 8, 8, 8, 8, 8, 8, 8, 8, 8, 8, 8, 8, 8, 8, 8, 8, 8, 8, 8, 8, 8, 8, 8, 8, 8, 8, 8, 8, 8, 8, 8, 8, 8, 8, 8, 8, 8, 8, 8, 8, 8, 8, 8, 8, 8, 8, 8, 8, 8, 8, 8, 8, 8, 8, 8, 8, 8, 8, 8, 8, 8, 8, 8, 8, 8, 8, 8, 8, 8, 8, 8, 8, 8, 8, 8, 8, 8, 8, 8, 8, 8, 8, 8][(v16 : Int).toNat]? = some c17 → (R64 (v12 + (c17.toNat : Int))) ∧ ∀ v18 : Int, v18 = v12 + (c17.toNat : Int) → Q v18
set_option maxRecDepth 100000 in
set_option maxHeartbeats 4000000 in
theorem ok57 (p1 : Int) (r : Int) (hw : w57 p1 fun r' => r' = r) : sp57 p1 r := by
  refine zf (rs := [.t 2]) (g := zg57) Try.func57 hk57 ?_
  unfold w57 at hw
  show SC Try.prog Try.f57.ntmps 0 hc57 _ [(0, .int .u64 p1)] []
  unfold hc57
  refine q_reg (st_mv rfl (g_endq [(0, .int .u64 p1), (2, ii 0)] rfl ?_))
  obtain ⟨J4, hw, hk⟩ := hw
  refine sc_join (A := Int × Int) (fun x => J4 x.1 x.2) (fun x => ([(0, .int .u64 x.1), (2, ii x.2)], [])) ?_ ?_
  · rintro ⟨v2, v3⟩ hj
    have hw := hk v2 v3 hj
    clear hk hj
    obtain ⟨J8, hw, hk⟩ := hw
    refine sc_join (A := Int × Int) (fun x => J8 x.1 x.2) (fun x => ([(0, .int .u64 x.1), (2, ii x.2)], [])) ?_ ?_
    · rintro ⟨v6, v7⟩ hj
      have hw := hk v6 v7 hj
      clear hk hj
      obtain ⟨J13, hw, hk⟩ := hw
      refine sc_join (A := Int × Int) (fun x => J13 x.1 x.2) (fun x => ([(0, .int .u64 x.1), (2, ii x.2)], [])) ?_ ?_
      · rintro ⟨v11, v12⟩ hj
        have hw := hk v11 v12 hj
        clear hk hj
        refine q_reg (st_mv rfl (st_mv rfl (g_conv rfl hw fun v16 hw => g_index rfl rfl hw fun c17 hw => g_conv_byte rfl (by decide) (g_add rfl rfl hw fun v18 hw => st_mv rfl (g_endq [(2, ii v18)] rfl ?_)))))
        exact sc_ret (gr1 (g := zg57) (ho := fun _ => []) [ii v18] hw (.inr rfl) ws)
      · clear hk
        refine q_reg (st_mv rfl (g_geq rfl rfl hw (fun hw => g_endq [(0, .int .u64 v6), (2, ii v7), (14, .bool true)] rfl ?_) (fun hw => g_endq [(0, .int .u64 v6), (2, ii v7), (14, .bool false)] rfl ?_)))
        · refine s_cond_t rfl (q_reg (st_mv rfl (g_bin rfl rfl (.inr (.inr rfl)) ⟨_, rfl⟩ hw fun v14 hw => st_mv rfl (g_endq [(0, .int .u64 v14), (2, ii v7)] rfl ?_))))
          refine s_reg (st_mv rfl (g_add rfl rfl hw fun v15 hw => st_mv rfl (g_end [(0, .int .u64 v14), (2, ii v15)] rfl ?_)))
          exact jo_n (v14, v15) hw ws
        · exact s_cond_f rfl (sc_skip (jo_n (v6, v7) hw ws))
    · clear hk
      refine q_reg (st_mv rfl (g_geq rfl rfl hw (fun hw => g_endq [(0, .int .u64 v2), (2, ii v3), (8, .bool true)] rfl ?_) (fun hw => g_endq [(0, .int .u64 v2), (2, ii v3), (8, .bool false)] rfl ?_)))
      · refine s_cond_t rfl (q_reg (st_mv rfl (g_bin rfl rfl (.inr (.inr rfl)) ⟨_, rfl⟩ hw fun v9 hw => st_mv rfl (g_endq [(0, .int .u64 v9), (2, ii v3)] rfl ?_))))
        refine s_reg (st_mv rfl (g_add rfl rfl hw fun v10 hw => st_mv rfl (g_end [(0, .int .u64 v9), (2, ii v10)] rfl ?_)))
        exact jo_n (v9, v10) hw ws
      · exact s_cond_f rfl (sc_skip (jo_n (v2, v3) hw ws))
  · clear hk
    refine q_reg (st_mv rfl (g_geq rfl rfl hw (fun hw => g_endq [(0, .int .u64 p1), (2, ii 0), (4, .bool true)] rfl ?_) (fun hw => g_endq [(0, .int .u64 p1), (2, ii 0), (4, .bool false)] rfl ?_)))
    · refine s_cond_t rfl (q_reg (st_mv rfl (g_bin rfl rfl (.inr (.inr rfl)) ⟨_, rfl⟩ hw fun v5 hw => st_mv rfl (g_endq [(0, .int .u64 v5)] rfl ?_))))
      refine s_reg (st_mv rfl (g_end [(0, .int .u64 v5), (2, ii 32)] rfl ?_))
      exact jo_n (v5, (32 : Int)) hw ws
    · exact s_cond_f rfl (sc_skip (jo_n (p1, (0 : Int)) hw ws))
def hc38 : C := (.seq (.reg [oo 2 (.mv (.c (.str []))), oo 3 (.mv (.c (.bool false)))] [0]) (.seq (.reg [oo 4 (.mv (.c (.str [])))] [0, 4]) (.seq (.seq (.reg [mo 7 0, oo 8 (.nilck 7), oo 9 (.faddr 3 1 8), oo 10 (.load none 9), oo 11 (.len false 10), oo 12 (.mv (.c (.int .i64 0)))] [0, 4, 10, 11, 12]) (.block 0 (.loop (.seq (.reg [oo 13 (.bin .lss 12 11)] [0, 4, 10, 11, 12, 13]) (.seq (.cond 13 .skip (.exit 0)) (.seq (.block 1 (.seq (.reg [oo 14 (.iaddr 3 10 12), oo 15 (.load (some 3) 14), oo 6 (.alloc none [(.str []), (.int .i64 0), (.int .i64 0)]), os (.store 3 6 15)] [0, 4, 6, 10, 11, 12]) (.seq (.reg [mo 16 4, oo 17 (.eqv false .str 16 (.c (.str []))), mo 18 17, og 19 (.faddr 0 1 6) 18 false, og 20 (.load none 19) 18 false, og 21 (.mv 4) 18 false, og 22 (.bin .lss 20 21) 18 false, oo 23 (.pick 18 (.c (.bool true)) 22), mo 24 23, og 25 (.mv 0) 24 true, og 26 (.nilck 25) 24 true, og 27 (.faddr 2 1 26) 24 true, og 28 (.load none 27) 24 true, og 29 (.mkfunc 60 [6]) 24 true, cg 30 (.call 59 [28, 29]) 24 true, og 31 (.un .not 30) 24 true, oo 32 (.pick 24 31 (.c (.bool false)))] [0, 4, 6, 10, 11, 12, 32]) (.cond 32 (.reg [oo 33 (.faddr 0 1 6), oo 34 (.load none 33), mo 4 34] [0, 4, 10, 11, 12]) .skip)))) (.reg [oo 35 (.bin .add 12 (.c (.int .i64 1))), mo 12 35] [0, 4, 10, 11, 12]))))))) (.seq (.reg [mo 36 4, mo 37 4, oo 38 (.eqv true .str 37 (.c (.str []))), mo 2 36, mo 3 38] [2, 3]) .ret))))
def ha38 : Ann := ⟨[], [], [(0, [0]), (1, [0, 4]), (2, [0, 4, 10, 11, 12]), (3, [0, 4, 10, 11, 12, 13]), (4, [0, 4, 6, 10, 11, 12]), (5, [0, 4, 6, 10, 11, 12, 32]), (6, [0, 4, 10, 11, 12]), (7, [0, 4, 10, 11, 12]), (8, [2, 3])], []⟩
theorem hk38 : comp Try.prog ha38 Try.f38.ntmps Try.f38.code = some hc38 := by kernel_rfl
def w38_r (p1 : GSolve_search) (Q : List UInt8 × Bool → Prop) : Prop :=
  ∃ (I16 : (List UInt8) → Int → Prop) (M17 : (List UInt8) → Int → Nat), I16 [] (0 : Int) ∧ ∀ (v2 : List UInt8) (v3 : Int), I16 v2 v3 → ∀ v18 : Bool, v18 = decide (v3 < (p1.wants.length : Int)) → ((v18 = true → (0 ≤ v3 ∧ v3 < (p1.wants.length : Int)) ∧ ∀ a19 : GaUse, p1.wants[(v3 : Int).toNat]? = some a19 → ∃ J24 : (List UInt8) → Int → Int → Bool → Prop, (((v2 = [] → ∃ r25 : Bool × GaUse, sp59_60 p1.picks (GaUse.mk a19.Name a19.Low a19.High) r25 ∧ J24 r25.2.Name r25.2.Low r25.2.High (!r25.1)) ∧ (v2 ≠ [] → ∀ v26 : Bool, v26 = bytesLess a19.Name v2 → ((v26 = true → ∃ r27 : Bool × GaUse, sp59_60 p1.picks (GaUse.mk a19.Name a19.Low a19.High) r27 ∧ J24 r27.2.Name r27.2.Low r27.2.High (!r27.1)) ∧ (v26 = false → J24 a19.Name a19.Low a19.High false))))) ∧ ∀ (v20 : List UInt8) (v21 : Int) (v22 : Int) (v23 : Bool), J24 v20 v21 v22 v23 → ((v23 = true → (R64 (v3 + (1 : Int))) ∧ ∀ v28 : Int, v28 = v3 + (1 : Int) → (I16 v20 v28 ∧ M17 v20 v28 < M17 v2 v3)) ∧ (v23 = false → (R64 (v3 + (1 : Int))) ∧ ∀ v29 : Int, v29 = v3 + (1 : Int) → (I16 v2 v29 ∧ M17 v2 v29 < M17 v2 v3)))) ∧ (v18 = false → ∀ v30 : Bool, v30 = (if true then !(v2 == []) else (v2 == [])) → Q (v2, v30)))
theorem ok38_r (p1 : GSolve_search) (r : List UInt8 × Bool) (hw : w38_r p1 fun r' => r' = r) : sp38_r p1 r := by
  refine zf (rs := [.t 2, .t 3]) (g := zg38_r) Try.func38 hk38 ?_
  unfold w38_r at hw
  show SC Try.prog Try.f38.ntmps 0 hc38 _ [(0, .rptr (HV.cells (eGSolve_search p1)))] []
  unfold hc38
  refine q_reg (st_mv rfl (st_mv rfl (g_endq [(0, .rptr (HV.cells (eGSolve_search p1)))] rfl ?_)))
  refine q_reg (st_mv rfl (g_endq [(0, .rptr (HV.cells (eGSolve_search p1))), (4, .str [])] rfl ?_))
  refine sc_seq (q_reg (st_mv rfl (st_nilck_r rfl (g_faddr_r (cs := [ln eGSolve_Module p1.register, ln eGSolve_Pick p1.first, ln eGSolve_Pick p1.picks, ln eGaUse p1.wants]) rfl (lt_of_blt rfl) (st_load_r rfl rfl (g_len rfl (st_mv rfl (g_endq [(0, .rptr (HV.cells (eGSolve_search p1))), (4, .str []), (10, ln eGaUse p1.wants), (11, ii (p1.wants.length : Int)), (12, ii 0)] rfl ?_))))))))
  refine sc_block ?_
  obtain ⟨I16, M17, hi, hw⟩ := hw
  refine sc_loop (X := { x : List UInt8 × Int // I16 x.1 x.2 }) (fun x => ([(0, .rptr (HV.cells (eGSolve_search p1))), (4, .str x.1.1), (10, ln eGaUse p1.wants), (11, ii (p1.wants.length : Int)), (12, ii x.1.2)], [])) (fun x => M17 x.1.1 x.1.2) ⟨([], (0 : Int)), hi⟩ ws ?_
  rintro ⟨⟨v2, v3⟩, hi2⟩
  have hw := hw v2 v3 hi2
  clear hi
  refine q_reg (gb_cmp rfl rfl trivial rfl hw fun v18 hw => g_endq [(0, .rptr (HV.cells (eGSolve_search p1))), (4, .str v2), (10, ln eGaUse p1.wants), (11, ii (p1.wants.length : Int)), (12, ii v3), (13, .bool v18)] rfl ?_)
  refine sc_seq (s_cond rfl hw (fun hw => ?_) (fun hw => ?_))
  · refine sc_skip (sq_n (sc_seq (sc_block (q_reg (g_iaddr enc_GaUse rfl rfl hw fun a19 hw => st_load_r (v := eGaUse a19) rfl rfl (g_alloc (n := 0) rfl rfl (g_sp (v := eGaUse a19) (h' := [.cells (HV.cells (eGaUse a19))]) rfl rfl rfl (g_endq [(0, .rptr (HV.cells (eGSolve_search p1))), (4, .str v2), (6, .ptr 0 0), (10, ln eGaUse p1.wants), (11, ii (p1.wants.length : Int)), (12, ii v3)] rfl ?_))))))))
    obtain ⟨J24, hw, hk⟩ := hw
    refine sc_join (A := List UInt8 × Int × Int × Bool) (fun x => J24 x.1 x.2.1 x.2.2.1 x.2.2.2) (fun x => ([(0, .rptr (HV.cells (eGSolve_search p1))), (4, .str v2), (6, .ptr 0 0), (10, ln eGaUse p1.wants), (11, ii (p1.wants.length : Int)), (12, ii v3), (32, .bool x.2.2.2)], [.cells [.str x.1, ii x.2.1, ii x.2.2.1]])) ?_ ?_
    · rintro ⟨v20, v21, v22, v23⟩ hj
      have hw := hk v20 v21 v22 v23 hj
      clear hk hj
      refine s_cond rfl hw (fun hw => ?_) (fun hw => ?_)
      · refine s_reg (g_faddr_p rfl (g_load_p rfl rfl rfl (st_mv rfl (g_end [(0, .rptr (HV.cells (eGSolve_search p1))), (4, .str v20), (10, ln eGaUse p1.wants), (11, ii (p1.wants.length : Int)), (12, ii v3)] rfl ?_))))
        refine bl_n (sq_n (s_reg (g_add rfl rfl hw fun v28 hw => st_mv rfl (g_end [(0, .rptr (HV.cells (eGSolve_search p1))), (4, .str v20), (10, ln eGaUse p1.wants), (11, ii (p1.wants.length : Int)), (12, ii v28)] rfl ?_))))
        exact lo_n ⟨(v20, v28), hw.1⟩ hw.2 (wr [])
      · refine sc_skip (bl_n (sq_n (s_reg (g_add rfl rfl hw fun v29 hw => st_mv rfl (g_end [(0, .rptr (HV.cells (eGSolve_search p1))), (4, .str v2), (10, ln eGaUse p1.wants), (11, ii (p1.wants.length : Int)), (12, ii v29)] rfl ?_)))))
        exact lo_n ⟨(v2, v29), hw.1⟩ hw.2 (wr [])
    · clear hk
      refine s_reg (st_mv rfl (g_eqs rfl rfl hw (fun hw => st_mv rfl (st_gtf rfl (st_gtf rfl (st_gtf rfl (st_gtf rfl (st_pick_t rfl rfl rfl (st_mv rfl (st_g rfl (st_mv rfl (st_g rfl (st_nilck_r rfl (st_g rfl (g_faddr_r (cs := [ln eGSolve_Module p1.register, ln eGSolve_Pick p1.first, ln eGSolve_Pick p1.picks, ln eGaUse p1.wants]) rfl (lt_of_blt rfl) (st_g rfl (st_load_r rfl rfl (st_g rfl (g_mkfunc (ec rfl en) rfl (st_g rfl (kh (hargs := (ra_cons (.pv _ (pv_lst enc_GSolve_Pick _ _ (by simp))) (ra_cons (Ren.fn (rf_cons (.ptr _ _ _ rfl) rf_nil)) ra_nil))) hh (g2 := fun r25 : Bool × GaUse => .bool r25.1) (H2 := fun r25 : Bool × GaUse => [.cells (HV.cells (eGaUse r25.2))]) [0] [0] 1 0 (ec rfl (ec rfl en)) hw fun r25 hw => st_g rfl (st_not rfl (st_pick_t rfl rfl rfl (g_end [(0, .rptr (HV.cells (eGSolve_search p1))), (4, .str v2), (6, .ptr 0 0), (10, ln eGaUse p1.wants), (11, ii (p1.wants.length : Int)), (12, ii v3), (32, .bool (!r25.1))] rfl ?_)))))))))))))))))))))) (fun hw => st_mv rfl (st_g rfl (g_faddr_p rfl (st_g rfl (g_load_p rfl rfl rfl (st_g rfl (st_mv rfl (st_g rfl (g_slss rfl rfl hw fun v26 hw => st_pick_f rfl rfl rfl (st_mv rfl (g_split rfl hw ?_ ?_)))))))))))))
      · exact jo_n (r25.2.Name, r25.2.Low, r25.2.High, (!r25.1)) hw ws
      · intro c hw
        rw [c]
        refine st_g rfl (st_mv rfl (st_g rfl (st_nilck_r rfl (st_g rfl (g_faddr_r (cs := [ln eGSolve_Module p1.register, ln eGSolve_Pick p1.first, ln eGSolve_Pick p1.picks, ln eGaUse p1.wants]) rfl (lt_of_blt rfl) (st_g rfl (st_load_r rfl rfl (st_g rfl (g_mkfunc (ec rfl en) rfl (st_g rfl (kh (hargs := (ra_cons (.pv _ (pv_lst enc_GSolve_Pick _ _ (by simp))) (ra_cons (Ren.fn (rf_cons (.ptr _ _ _ rfl) rf_nil)) ra_nil))) hh (g2 := fun r27 : Bool × GaUse => .bool r27.1) (H2 := fun r27 : Bool × GaUse => [.cells (HV.cells (eGaUse r27.2))]) [0] [0] 1 0 (ec rfl (ec rfl en)) hw fun r27 hw => st_g rfl (st_not rfl (st_pick_t rfl rfl rfl (g_end [(0, .rptr (HV.cells (eGSolve_search p1))), (4, .str v2), (6, .ptr 0 0), (10, ln eGaUse p1.wants), (11, ii (p1.wants.length : Int)), (12, ii v3), (32, .bool (!r27.1))] rfl ?_))))))))))))))
        exact jo_n (r27.2.Name, r27.2.Low, r27.2.High, (!r27.1)) hw ws
      · intro c hw
        rw [c]
        refine st_gft rfl (st_gft rfl (st_gft rfl (st_gft rfl (st_gft rfl (st_gft rfl (st_gft rfl (st_pick_f rfl rfl rfl (g_end [(0, .rptr (HV.cells (eGSolve_search p1))), (4, .str v2), (6, .ptr 0 0), (10, ln eGaUse p1.wants), (11, ii (p1.wants.length : Int)), (12, ii v3), (32, .bool false)] rfl ?_))))))))
        exact jo_n (a19.Name, a19.Low, a19.High, false) hw ws
  · refine sc_exit (sq_x (lo_x (bl_x (sq_n (q_reg (st_mv rfl (st_mv rfl (gb_eqs rfl rfl hw fun v30 hw => st_mv rfl (st_mv rfl (g_endq [(2, .str v2), (3, .bool v30)] rfl ?_))))))))))
    exact sc_ret (gr1 (g := zg38_r) (ho := fun _ => []) [.str v2, .bool v30] hw (.inr rfl) ws)
def hc39 : C := (.seq (.reg [oo 2 (.box none 1 0), oo 3 (.box none 1 1), oo 4 (.mv (.c (.list [] .full)))] [2, 3]) (.seq (.reg [oo 5 (.alloc none [(.list [] .full)])] [2, 3, 5]) (.seq (.seq (.reg [oo 8 (.load none 2), oo 9 (.nilck 8), oo 10 (.faddr 0 1 9), oo 11 (.load none 10), co 12 (.call 61 [11])] [2, 3, 5, 12]) (.block 0 (.rfun 12 [13, 14] (.reg [oo 7 (.alloc none [(.str []), (.int .i64 0), (.list [] .full)]), os (.store 3 7 14)] [3, 5, 7]) (.block 1 (.seq (.reg [oo 15 (.faddr 0 1 7), oo 16 (.load none 15), oo 17 (.load none 3), oo 18 (.eqv false .str 16 17)] [5, 7, 18]) (.cond 18 (.reg [oo 19 (.load none 5), oo 20 (.load (some 3) 7), oo 21 (.mklist 3 [20]), oo 22 (.appendarr 3 48 19 21), os (.store 1 5 22)] []) .skip)))))) (.seq (.reg [oo 23 (.load none 5), oo 24 (.mkfunc 63 [2, 3]), co 25 (.call 62 [23, 24])] [5]) (.seq (.reg [oo 26 (.load none 5), mo 4 26] [4]) .ret)))))
def ha39 : Ann := ⟨[(5, 3)], [], [(0, [2, 3]), (1, [2, 3, 5]), (2, [2, 3, 5, 12]), (3, [3, 5, 7]), (4, [5, 7, 18]), (5, []), (6, [5]), (7, [4])], []⟩
theorem hk39 : comp Try.prog ha39 Try.f39.ntmps Try.f39.code = some hc39 := by kernel_rfl
def w39 (p1 : GSolve_search) (p2 : List UInt8) (Q : List (GSolve_Module) × GSolve_search → Prop) : Prop :=
  ∃ r3 : List (GSolve_Module), sp61 p1.register r3 ∧ (r3.length < 9223372036854775807 ∧ ∃ I8 : Nat → (List GSolve_Module) → Prop, I8 0 ([] : List GSolve_Module) ∧ (∀ (i4 : Nat) (a5 : Int × GSolve_Module) (v6 : List GSolve_Module), (bw r3)[i4]? = some a5 → I8 i4 v6 → ((a5.2.Name = p2 → ((v6.length + ([(GSolve_Module.mk a5.2.Name a5.2.Version a5.2.Uses)] : List GSolve_Module).length) * 48 ≤ 140737488355328) ∧ ∀ v9 : List GSolve_Module, v9 = v6 ++ ([(GSolve_Module.mk a5.2.Name a5.2.Version a5.2.Uses)] : List GSolve_Module) → I8 (i4 + 1) v9) ∧ (a5.2.Name ≠ p2 → I8 (i4 + 1) v6))) ∧ (∀ (v6 : List GSolve_Module), I8 (bw r3).length v6 → ∃ r10 : List (GSolve_Module) × GSolve_search × List UInt8, sp62_63 v6 (GSolve_search.mk p1.register p1.first p1.picks p1.wants) p2 r10 ∧ (r10.1.length = v6.length ∧ Q (r10.1, (GSolve_search.mk r10.2.1.register r10.2.1.first r10.2.1.picks r10.2.1.wants)))))
theorem ok39 (p1 : GSolve_search) (p2 : List UInt8) (r : List (GSolve_Module) × GSolve_search) (hw : w39 p1 p2 fun r' => r' = r) : sp39 p1 p2 r := by
  refine zh (rs := [.t 4]) Try.func39 hk39 ?_
  unfold w39 at hw
  show SC Try.prog Try.f39.ntmps 3 hc39 _ [(0, .ptr 0 0), (1, .str p2)] [.cells [ln eGSolve_Module p1.register, ln eGSolve_Pick p1.first, .arr 1 0 p1.picks.length 2, .arr 2 0 p1.wants.length 3], GA eGSolve_Pick p1.picks, GA eGaUse p1.wants]
  unfold hc39
  refine q_reg (g_box (v := .ptr 0 0) rfl rfl rfl (n := 3) rfl rfl (g_box (v := .str p2) rfl rfl rfl (n := 4) rfl rfl (st_mv rfl (g_endq [(2, .ptr 3 0), (3, .ptr 4 0)] rfl ?_))))
  refine q_reg (g_alloc (n := 5) rfl rfl (g_endq [(2, .ptr 3 0), (3, .ptr 4 0), (5, .ptr 5 0)] rfl ?_))
  refine sc_seq (q_reg (g_load_p rfl rfl rfl (st_nilck_p rfl (g_faddr_p rfl (g_load_p rfl rfl rfl (k_call dh (ec rfl en) rfl hw fun r3 hw => g_endq [(2, .ptr 3 0), (3, .ptr 4 0), (5, .ptr 5 0), (12, .func 83 [.rptr [ln eGSolve_Module r3]])] rfl ?_))))))
  refine sc_block ?_
  obtain ⟨hlen_, I8, hi, hb, hk⟩ := hw
  refine s_rfun (E := Int × GSolve_Module) (T := (List GSolve_Module)) (l := bw r3) (en := fun x => [.int .i64 x.1, eGSolve_Module x.2]) rfl (back_seq (fun _ => rfl) (fun _ => rfl) r3 hlen_) (fun _ => rfl) (by decide) (by rw [Try.ntmps39]; decide) 1 6 8 rfl rfl (fun x => [.cells [ln eGSolve_Module p1.register, ln eGSolve_Pick p1.first, .arr 1 0 p1.picks.length 2, .arr 2 0 p1.wants.length 3], GA eGSolve_Pick p1.picks, GA eGaUse p1.wants, .cells [.ptr 0 0], .cells [.str p2], .cells [.arr 6 0 x.length 3], GA eGSolve_Module x]) (fun x => [.cells [ln eGSolve_Module p1.register, ln eGSolve_Pick p1.first, .arr 1 0 p1.picks.length 2, .arr 2 0 p1.wants.length 3], GA eGSolve_Pick p1.picks, GA eGaUse p1.wants, .cells [.ptr 0 0], .cells [.str p2], .cells [.arr 6 0 x.length 3], GA eGSolve_Module x, .dead]) (fun _ => rfl) (fun a5 => [(13, ii a5.1), (14, eGSolve_Module a5.2), (2, .ptr 3 0), (3, .ptr 4 0), (5, .ptr 5 0), (12, .func 83 [.rptr [ln eGSolve_Module r3]])]) (fun _ => rfl) (fun i x => I8 i x) ([] : List GSolve_Module) hi (w_nilarr_cell (A := GSolve_Module) (f := eGSolve_Module) 5 0 3 (n := 6) (h' := [.cells [ln eGSolve_Module p1.register, ln eGSolve_Pick p1.first, .arr 1 0 p1.picks.length 2, .arr 2 0 p1.wants.length 3], GA eGSolve_Pick p1.picks, GA eGaUse p1.wants, .cells [.ptr 0 0], .cells [.str p2], .cells [.arr 6 0 (([] : List GSolve_Module).length) 3], GA eGSolve_Module ([] : List GSolve_Module)]) rfl rfl rfl rfl) (fun _ => rfl) (fun _ => (CellsOnly.cells (CellsOnly.cells (CellsOnly.cells (CellsOnly.cells (CellsOnly.cells (CellsOnly.cells (CellsOnly.cells CellsOnly.nil)))))))) rfl rfl ?_ ?_
  · rintro i4 a5 v6 ha hi2
    have hw := hb i4 a5 v6 ha hi2
    clear hb hk hi
    refine s_reg (g_alloc (n := 8) rfl rfl (g_sp (v := eGSolve_Module a5.2) (h' := [.cells [ln eGSolve_Module p1.register, ln eGSolve_Pick p1.first, .arr 1 0 p1.picks.length 2, .arr 2 0 p1.wants.length 3], GA eGSolve_Pick p1.picks, GA eGaUse p1.wants, .cells [.ptr 0 0], .cells [.str p2], .cells [.arr 6 0 v6.length 3], GA eGSolve_Module v6, .dead, .cells (HV.cells (eGSolve_Module a5.2))]) rfl rfl rfl (g_end [(3, .ptr 4 0), (5, .ptr 5 0), (7, .ptr 8 0)] rfl ?_)))
    refine sq_n (sc_block (q_reg (g_faddr_p rfl (g_load_p rfl rfl rfl (g_load_p rfl rfl rfl (g_eqs rfl rfl hw (fun hw => g_endq [(5, .ptr 5 0), (7, .ptr 8 0), (18, .bool true)] rfl ?_) (fun hw => g_endq [(5, .ptr 5 0), (7, .ptr 8 0), (18, .bool false)] rfl ?_)))))))
    · refine s_cond_t rfl (s_reg (g_load_p rfl rfl rfl (g_load_p (v := .agg [.str a5.2.Name, ii a5.2.Version, ln eGaUse a5.2.Uses]) rfl rfl rfl (g_mkl enc_GSolve_Module [(GSolve_Module.mk a5.2.Name a5.2.Version a5.2.Uses)] (ec rfl en) rfl (mz mkn) (g_apW (n := 9) enc_GSolve_Module rfl rfl rfl rfl (asrc_list enc_GSolve_Module) rfl hw (fun z => [.cells [ln eGSolve_Module p1.register, ln eGSolve_Pick p1.first, .arr 1 0 p1.picks.length 2, .arr 2 0 p1.wants.length 3], GA eGSolve_Pick p1.picks, GA eGaUse p1.wants, .cells [.ptr 0 0], .cells [.str p2], .cells [.arr 6 0 v6.length 3], .dead, .dead, .cells (HV.cells (eGSolve_Module a5.2)), GA eGSolve_Module z]) (fun _ => rfl) fun v9 hw => g_sp (v := .arr 9 0 v9.length 3) (h' := [.cells [ln eGSolve_Module p1.register, ln eGSolve_Pick p1.first, .arr 1 0 p1.picks.length 2, .arr 2 0 p1.wants.length 3], GA eGSolve_Pick p1.picks, GA eGaUse p1.wants, .cells [.ptr 0 0], .cells [.str p2], .cells [.arr 9 0 v9.length 3], .dead, .dead, .cells (HV.cells (eGSolve_Module a5.2)), GA eGSolve_Module v9]) rfl rfl rfl (g_end [] rfl ?_))))))
      exact bl_n (rf_n v9 hw (weak_renm 6 rfl [0, 1, 2, 3, 4, 5, 9] (by decide) (by decide) (ro_cells rfl (rl_cons (.pv _ (pv_lst enc_GSolve_Module _ _ (by simp))) rfl (rl_cons (.pv _ (pv_lst enc_GSolve_Pick _ _ (by simp))) rfl (rl_cons (rn_arr rfl) rfl (rl_cons (rn_arr rfl) rfl rl_nil)))) (ro_arr enc_GSolve_Pick (fun a => (lfc rfl (lfc rfl lfn))) rfl (ro_arr enc_GaUse (fun a => (lfc rfl (lfc rfl (lfc rfl lfn)))) rfl (ro_cells rfl (rl_cons (.ptr _ _ _ rfl) rfl rl_nil) (ro_cells rfl (rl_cons (.pv _ (.str _)) rfl rl_nil) (ro_cells rfl (rl_cons (rn_arr rfl) rfl rl_nil) (ro_arr enc_GSolve_Module (fun a => (lfc rfl (lfc rfl (lfc rfl lfn)))) rfl ro_nil))))))) re_nil))
    · exact s_cond_f rfl (sc_skip (bl_n (rf_n v6 hw (weak_renm 6 rfl [0, 1, 2, 3, 4, 5, 6] (by decide) (by decide) (ro_cells rfl (rl_cons (.pv _ (pv_lst enc_GSolve_Module _ _ (by simp))) rfl (rl_cons (.pv _ (pv_lst enc_GSolve_Pick _ _ (by simp))) rfl (rl_cons (rn_arr rfl) rfl (rl_cons (rn_arr rfl) rfl rl_nil)))) (ro_arr enc_GSolve_Pick (fun a => (lfc rfl (lfc rfl lfn))) rfl (ro_arr enc_GaUse (fun a => (lfc rfl (lfc rfl (lfc rfl lfn)))) rfl (ro_cells rfl (rl_cons (.ptr _ _ _ rfl) rfl rl_nil) (ro_cells rfl (rl_cons (.pv _ (.str _)) rfl rl_nil) (ro_cells rfl (rl_cons (rn_arr rfl) rfl rl_nil) (ro_arr enc_GSolve_Module (fun a => (lfc rfl (lfc rfl (lfc rfl lfn)))) rfl ro_nil))))))) re_nil))))
  · rintro v6 hi2
    have hw := hk v6 hi2
    clear hb hk hi
    refine bl_n (sq_n (q_reg (g_load_p rfl rfl rfl (g_mkfunc (ec rfl (ec rfl en)) rfl (kh (hin := (ro_arr enc_GSolve_Module (fun a => (lfc rfl (lfc rfl (lfc rfl lfn)))) rfl (ro_cells rfl (rl_cons (.ptr _ _ _ rfl) rfl rl_nil) (ro_cells rfl (rl_cons (.pv _ (pv_lst enc_GSolve_Module _ _ (by simp))) rfl (rl_cons (.pv _ (pv_lst enc_GSolve_Pick _ _ (by simp))) rfl (rl_cons (rn_arr rfl) rfl (rl_cons (rn_arr rfl) rfl rl_nil)))) (ro_arr enc_GSolve_Pick (fun a => (lfc rfl (lfc rfl lfn))) rfl (ro_arr enc_GaUse (fun a => (lfc rfl (lfc rfl (lfc rfl lfn)))) rfl (ro_cells rfl (rl_cons (.pv _ (.str _)) rfl rl_nil) ro_nil))))))) (hback := fun _ => (ou_arr enc_GSolve_Module (fun a => (lfc rfl (lfc rfl (lfc rfl lfn)))) rfl (ou_cells rfl (rl_cons (.ptr _ _ _ rfl) rfl rl_nil) (ou_cells rfl (rl_cons (.pv _ (pv_lst enc_GSolve_Module _ _ (by simp))) rfl (rl_cons (.pv _ (pv_lst enc_GSolve_Pick _ _ (by simp))) rfl (rl_cons (rn_arr rfl) rfl (rl_cons (rn_arr rfl) rfl rl_nil)))) (ou_arr enc_GSolve_Pick (fun a => (lfc rfl (lfc rfl lfn))) rfl (ou_arr enc_GaUse (fun a => (lfc rfl (lfc rfl (lfc rfl lfn)))) rfl (ou_cells rfl (rl_cons (.pv _ (.str _)) rfl rl_nil) ou_nil))))))) (hargs := (ra_cons (rn_arr rfl) (ra_cons (Ren.fn (rf_cons (.ptr _ _ _ rfl) (rf_cons (.ptr _ _ _ rfl) rf_nil))) ra_nil))) hh (g2 := fun r10 : List (GSolve_Module) × GSolve_search × List UInt8 => .tuple []) (H2 := fun r10 : List (GSolve_Module) × GSolve_search × List UInt8 => [.cells [ln eGSolve_Module r10.2.1.register, ln eGSolve_Pick r10.2.1.first, .arr 1 0 r10.2.1.picks.length 2, .arr 2 0 r10.2.1.wants.length 3], GA eGSolve_Pick r10.2.1.picks, GA eGaUse r10.2.1.wants, .cells [.ptr 0 0], .cells [.str r10.2.2], .cells [.arr 6 0 v6.length 3], GA eGSolve_Module r10.1]) [6, 3, 0, 1, 2, 4] [6, 3, 0, 1, 2, 4] 7 0 (ec rfl (ec rfl en)) hw fun r10 hw => g_endq [(5, .ptr 5 0)] rfl ?_)))))
    refine q_reg (g_load_p rfl rfl rfl (st_mv rfl (g_endq [(4, .arr 6 0 v6.length 3)] rfl ?_)))
    exact sc_ret (gr (g := zg39) (ho := zo39) [.arr 6 0 v6.length 3] [ln eGSolve_Module r10.1] hw.2 (.inr rfl) ((w_freeze (l := r10.1) (h' := [.cells [ln eGSolve_Module r10.2.1.register, ln eGSolve_Pick r10.2.1.first, .arr 1 0 r10.2.1.picks.length 2, .arr 2 0 r10.2.1.wants.length 3], GA eGSolve_Pick r10.2.1.picks, GA eGaUse r10.2.1.wants, .cells [.ptr 0 0], .cells [.str r10.2.2], .cells [.arr 6 0 v6.length 3], .dead]) 0 enc_GSolve_Module rfl hw.1 rfl rfl).trans (weak_renm 3 rfl [0, 1, 2] (by decide) (by decide) (ro_cells rfl (rl_cons (.pv _ (pv_lst enc_GSolve_Module _ _ (by simp))) rfl (rl_cons (.pv _ (pv_lst enc_GSolve_Pick _ _ (by simp))) rfl (rl_cons (rn_arr rfl) rfl (rl_cons (rn_arr rfl) rfl rl_nil)))) (ro_arr enc_GSolve_Pick (fun a => (lfc rfl (lfc rfl lfn))) rfl (ro_arr enc_GaUse (fun a => (lfc rfl (lfc rfl (lfc rfl lfn)))) rfl ro_nil))) (re_cons rfl (.pv _ (pv_lst enc_GSolve_Module _ _ (by simp))) re_nil))))
def hc40 : C := (.seq (.reg [oo 1 (.box none 1 0), oo 2 (.mv (.c (.bool false)))] [1]) (.seq (.reg [oo 3 (.load none 1), oo 4 (.nilck 3), oo 5 (.faddr 3 1 4), oo 6 (.load none 5), oo 7 (.mkfunc 66 [1]), co 8 (.call 65 [6, 7]), oo 9 (.un .not 8), mo 2 9] [2]) .ret))
def ha40 : Ann := ⟨[], [], [(0, [1]), (1, [2])], []⟩
theorem hk40 : comp Try.prog ha40 Try.f40.ntmps Try.f40.code = some hc40 := by kernel_rfl
def w40_r (p1 : GSolve_search) (Q : Bool → Prop) : Prop :=
  ∃ r2 : Bool × GSolve_search, sp65_66_q p1.wants p1 r2 ∧ Q (!r2.1)
theorem ok40_r (p1 : GSolve_search) (r : Bool) (hw : w40_r p1 fun r' => r' = r) : sp40_r p1 r := by
  refine zf (rs := [.t 2]) (g := zg40_r) Try.func40 hk40 ?_
  unfold w40_r at hw
  show SC Try.prog Try.f40.ntmps 0 hc40 _ [(0, .rptr (HV.cells (eGSolve_search p1)))] []
  unfold hc40
  refine q_reg (g_box (v := .rptr (HV.cells (eGSolve_search p1))) rfl rfl rfl (n := 0) rfl rfl (st_mv rfl (g_endq [(1, .ptr 0 0)] rfl ?_)))
  refine q_reg (g_load_p rfl rfl rfl (st_nilck_r rfl (g_faddr_r (cs := [ln eGSolve_Module p1.register, ln eGSolve_Pick p1.first, ln eGSolve_Pick p1.picks, ln eGaUse p1.wants]) rfl (lt_of_blt rfl) (st_load_r rfl rfl (g_mkfunc (ec rfl en) rfl (kh (hargs := (ra_cons (.pv _ (pv_lst enc_GaUse _ _ (by simp))) (ra_cons (Ren.fn (rf_cons (.ptr _ _ _ rfl) rf_nil)) ra_nil))) hh (g2 := fun r2 : Bool × GSolve_search => .bool r2.1) (H2 := fun r2 : Bool × GSolve_search => [.cells [.rptr (HV.cells (eGSolve_search r2.2))]]) [0] [0] 1 0 (ec rfl (ec rfl en)) hw fun r2 hw => st_not rfl (st_mv rfl (g_endq [(2, .bool (!r2.1))] rfl ?_))))))))
  exact sc_ret (gr1 (g := zg40_r) (ho := fun _ => []) [.bool (!r2.1)] hw (.inr rfl) (wr []))
def hc43 : C := (.seq (.reg [oo 2 (.mv (.c (.int .i64 0)))] [0]) (.seq (.reg [oo 3 (.mv (.c (.int .i64 0)))] [0, 3]) (.seq (.seq (.reg [mo 6 0, oo 7 (.len false 6), oo 8 (.mv (.c (.int .i64 0)))] [3, 6, 7, 8]) (.block 0 (.loop (.seq (.reg [oo 9 (.bin .lss 8 7)] [3, 6, 7, 8, 9]) (.seq (.cond 9 .skip (.exit 0)) (.seq (.block 1 (.seq (.reg [oo 10 (.iaddr 1 6 8), oo 11 (.load none 10), mo 5 11] [3, 5, 6, 7, 8]) (.seq (.reg [mo 12 5, mo 13 3, oo 14 (.eqv true .int 12 13)] [3, 5, 6, 7, 8, 14]) (.cond 14 (.seq (.reg [mo 15 5, mo 2 15] [2]) .ret) .skip)))) (.reg [oo 16 (.bin .add 8 (.c (.int .i64 1))), mo 8 16] [3, 6, 7, 8]))))))) (.seq (.reg [mo 17 3, mo 2 17] [2]) .ret))))
def ha43 : Ann := ⟨[], [], [(0, [0]), (1, [0, 3]), (2, [3, 6, 7, 8]), (3, [3, 6, 7, 8, 9]), (4, [3, 5, 6, 7, 8]), (5, [3, 5, 6, 7, 8, 14]), (6, [2]), (7, [3, 6, 7, 8]), (8, [2])], []⟩
theorem hk43 : comp Try.prog ha43 Try.f43.ntmps Try.f43.code = some hc43 := by kernel_rfl
def w43 (p1 : List (Int)) (Q : Int → Prop) : Prop :=
  ∃ (I6 : Int → Prop) (M7 : Int → Nat), I6 (0 : Int) ∧ ∀ (v2 : Int), I6 v2 → ∀ v8 : Bool, v8 = decide (v2 < (p1.length : Int)) → ((v8 = true → (0 ≤ v2 ∧ v2 < (p1.length : Int)) ∧ ∀ a9 : Int, p1[(v2 : Int).toNat]? = some a9 → ((a9 ≠ (0 : Int) → Q a9) ∧ (a9 = (0 : Int) → (R64 (v2 + (1 : Int))) ∧ ∀ v10 : Int, v10 = v2 + (1 : Int) → (I6 v10 ∧ M7 v10 < M7 v2)))) ∧ (v8 = false → Q (0 : Int)))
theorem ok43 (p1 : List (Int)) (r : Int) (hw : w43 p1 fun r' => r' = r) : sp43 p1 r := by
  refine zf (rs := [.t 2]) (g := zg43) Try.func43 hk43 ?_
  unfold w43 at hw
  show SC Try.prog Try.f43.ntmps 0 hc43 _ [(0, ln (eInt .i64) p1)] []
  unfold hc43
  refine q_reg (st_mv rfl (g_endq [(0, ln (eInt .i64) p1)] rfl ?_))
  refine q_reg (st_mv rfl (g_endq [(0, ln (eInt .i64) p1), (3, ii 0)] rfl ?_))
  refine sc_seq (q_reg (st_mv rfl (g_len rfl (st_mv rfl (g_endq [(3, ii 0), (6, ln (eInt .i64) p1), (7, ii (p1.length : Int)), (8, ii 0)] rfl ?_)))))
  refine sc_block ?_
  obtain ⟨I6, M7, hi, hw⟩ := hw
  refine sc_loop (X := { x : Int // I6 x }) (fun x => ([(3, ii 0), (6, ln (eInt .i64) p1), (7, ii (p1.length : Int)), (8, ii x.1)], [])) (fun x => M7 x.1) ⟨(0 : Int), hi⟩ ws ?_
  rintro ⟨v2, hi2⟩
  have hw := hw v2 hi2
  clear hi
  refine q_reg (gb_cmp rfl rfl trivial rfl hw fun v8 hw => g_endq [(3, ii 0), (6, ln (eInt .i64) p1), (7, ii (p1.length : Int)), (8, ii v2), (9, .bool v8)] rfl ?_)
  refine sc_seq (s_cond rfl hw (fun hw => ?_) (fun hw => ?_))
  · refine sc_skip (sq_n (sc_seq (sc_block (q_reg (g_iaddr (enc_int .i64) rfl rfl hw fun a9 hw => st_load_r rfl rfl (st_mv rfl (g_endq [(3, ii 0), (5, ii a9), (6, ln (eInt .i64) p1), (7, ii (p1.length : Int)), (8, ii v2)] rfl ?_)))))))
    refine q_reg (st_mv rfl (st_mv rfl (g_nei rfl rfl hw (fun hw => g_endq [(3, ii 0), (5, ii a9), (6, ln (eInt .i64) p1), (7, ii (p1.length : Int)), (8, ii v2), (14, .bool true)] rfl ?_) (fun hw => g_endq [(3, ii 0), (5, ii a9), (6, ln (eInt .i64) p1), (7, ii (p1.length : Int)), (8, ii v2), (14, .bool false)] rfl ?_))))
    · refine s_cond_t rfl (q_reg (st_mv rfl (st_mv rfl (g_endq [(2, ii a9)] rfl ?_))))
      exact sc_ret (bl_r (sq_r (lo_r (bl_r (sq_r (gr1 (g := zg43) (ho := fun _ => []) [ii a9] hw (.inr rfl) ws))))))
    · refine s_cond_f rfl (sc_skip (bl_n (sq_n (s_reg (g_add rfl rfl hw fun v10 hw => st_mv rfl (g_end [(3, ii 0), (6, ln (eInt .i64) p1), (7, ii (p1.length : Int)), (8, ii v10)] rfl ?_))))))
      exact lo_n ⟨v10, hw.1⟩ hw.2 ws
  · refine sc_exit (sq_x (lo_x (bl_x (sq_n (q_reg (st_mv rfl (st_mv rfl (g_endq [(2, ii 0)] rfl ?_))))))))
    exact sc_ret (gr1 (g := zg43) (ho := fun _ => []) [ii 0] hw (.inr rfl) ws)
def hc44 : C := (.seq (.reg [oo 4 (.mv (.c (.int .i64 0)))] [0, 1]) (.seq (.reg [mo 7 0, co 8 (.call 77 [7]), mo 5 8] [0, 1, 5]) (.seq (.reg [mo 9 1, co 10 (.call 77 [9]), mo 6 10] [0, 1, 5, 6]) (.seq (.seq (.reg [mo 11 5] [0, 1, 6, 11]) (.cond 11 (.seq (.seq (.reg [mo 12 6] [12]) (.cond 12 (.seq (.reg [oo 4 (.mv (.c (.int .i64 0)))] [4]) .ret) .skip)) (.seq (.reg [oo 4 (.mv (.c (.int .i64 (-1))))] [4]) .ret)) .skip)) (.seq (.seq (.reg [mo 13 6] [0, 1, 13]) (.cond 13 (.seq (.reg [oo 4 (.mv (.c (.int .i64 1)))] [4]) .ret) .skip)) (.seq (.seq (.reg [mo 14 0, mo 15 1, oo 16 (.bin .lss 14 15)] [0, 1, 16]) (.cond 16 (.seq (.reg [oo 4 (.mv (.c (.int .i64 (-1))))] [4]) .ret) .skip)) (.seq (.seq (.reg [mo 17 0, mo 18 1, oo 19 (.bin .gtr 17 18)] [19]) (.cond 19 (.seq (.reg [oo 4 (.mv (.c (.int .i64 1)))] [4]) .ret) .skip)) (.seq (.reg [oo 4 (.mv (.c (.int .i64 0)))] [4]) .ret))))))))
def ha44 : Ann := ⟨[], [], [(0, [0, 1]), (1, [0, 1, 5]), (2, [0, 1, 5, 6]), (3, [0, 1, 6, 11]), (4, [12]), (5, [4]), (6, [4]), (7, [0, 1, 13]), (8, [4]), (9, [0, 1, 16]), (10, [4]), (11, [19]), (12, [4]), (13, [4])], []⟩
theorem hk44 : comp Try.prog ha44 Try.f44.ntmps Try.f44.code = some hc44 := by kernel_rfl
def w44 (p1 : Int) (p2 : Int) (Q : Int → Prop) : Prop :=
  ∃ r3 : Bool, sp77 p1 r3 ∧ ∃ r4 : Bool, sp77 p2 r4 ∧ ((r3 = true → ((r4 = true → Q (0 : Int)) ∧ (r4 = false → Q (-1 : Int)))) ∧ (r3 = false → ((r4 = true → Q (1 : Int)) ∧ (r4 = false → ((p1 < p2 → Q (-1 : Int)) ∧ (p2 ≤ p1 → ((p2 < p1 → Q (1 : Int)) ∧ (p1 ≤ p2 → Q (0 : Int)))))))))
theorem ok44 (p1 : Int) (p2 : Int) (r : Int) (hw : w44 p1 p2 fun r' => r' = r) : sp44 p1 p2 r := by
  refine zf (rs := [.t 4]) (g := zg44) Try.func44 hk44 ?_
  unfold w44 at hw
  show SC Try.prog Try.f44.ntmps 0 hc44 _ [(0, ii p1), (1, ii p2)] []
  unfold hc44
  refine q_reg (st_mv rfl (g_endq [(0, ii p1), (1, ii p2)] rfl ?_))
  refine q_reg (st_mv rfl (k_call dh (ec rfl en) rfl hw fun r3 hw => st_mv rfl (g_endq [(0, ii p1), (1, ii p2), (5, .bool r3)] rfl ?_)))
  refine q_reg (st_mv rfl (k_call dh (ec rfl en) rfl hw fun r4 hw => st_mv rfl (g_endq [(0, ii p1), (1, ii p2), (5, .bool r3), (6, .bool r4)] rfl ?_)))
  refine sc_seq (q_reg (st_mv rfl (g_endq [(0, ii p1), (1, ii p2), (6, .bool r4), (11, .bool r3)] rfl ?_)))
  refine s_cond rfl hw (fun hw => ?_) (fun hw => ?_)
  · refine sc_seq (q_reg (st_mv rfl (g_endq [(12, .bool r4)] rfl ?_)))
    refine s_cond rfl hw (fun hw => ?_) (fun hw => ?_)
    · refine q_reg (st_mv rfl (g_endq [(4, ii 0)] rfl ?_))
      exact sc_ret (sq_r (sq_r (gr1 (g := zg44) (ho := fun _ => []) [ii 0] hw (.inr rfl) ws)))
    · refine sc_skip (sq_n (q_reg (st_mv rfl (g_endq [(4, ii (-1 : Int))] rfl ?_))))
      exact sc_ret (sq_r (gr1 (g := zg44) (ho := fun _ => []) [ii (-1 : Int)] hw (.inr rfl) ws))
  · refine sc_skip (sq_n (sc_seq (q_reg (st_mv rfl (g_endq [(0, ii p1), (1, ii p2), (13, .bool r4)] rfl ?_)))))
    refine s_cond rfl hw (fun hw => ?_) (fun hw => ?_)
    · refine q_reg (st_mv rfl (g_endq [(4, ii 1)] rfl ?_))
      exact sc_ret (sq_r (gr1 (g := zg44) (ho := fun _ => []) [ii 1] hw (.inr rfl) ws))
    · refine sc_skip (sq_n (sc_seq (q_reg (st_mv rfl (st_mv rfl (g_lss rfl rfl hw (fun hw => g_endq [(0, ii p1), (1, ii p2), (16, .bool true)] rfl ?_) (fun hw => g_endq [(0, ii p1), (1, ii p2), (16, .bool false)] rfl ?_)))))))
      · refine s_cond_t rfl (q_reg (st_mv rfl (g_endq [(4, ii (-1 : Int))] rfl ?_)))
        exact sc_ret (sq_r (gr1 (g := zg44) (ho := fun _ => []) [ii (-1 : Int)] hw (.inr rfl) ws))
      · refine s_cond_f rfl (sc_skip (sq_n (sc_seq (q_reg (st_mv rfl (st_mv rfl (g_gtr rfl rfl hw (fun hw => g_endq [(19, .bool true)] rfl ?_) (fun hw => g_endq [(19, .bool false)] rfl ?_))))))))
        · refine s_cond_t rfl (q_reg (st_mv rfl (g_endq [(4, ii 1)] rfl ?_)))
          exact sc_ret (sq_r (gr1 (g := zg44) (ho := fun _ => []) [ii 1] hw (.inr rfl) ws))
        · refine s_cond_f rfl (sc_skip (sq_n (q_reg (st_mv rfl (g_endq [(4, ii 0)] rfl ?_)))))
          exact sc_ret (gr1 (g := zg44) (ho := fun _ => []) [ii 0] hw (.inr rfl) ws)
def hc60 : C := (.seq (.reg [oo 2 (.box none 2 0), oo 3 (.mv (.c (.bool false)))] [1, 2]) (.seq (.reg [oo 4 (.faddr 0 1 2), oo 5 (.load none 4), oo 6 (.faddr 0 1 1), oo 7 (.load none 6), oo 8 (.eqv false .str 5 7), mo 3 8] [3]) .ret))
def ha60 : Ann := ⟨[], [], [(0, [1, 2]), (1, [3])], []⟩
theorem hk60 : comp Try.prog ha60 Try.f60.ntmps Try.f60.code = some hc60 := by kernel_rfl
def w60 (p1 : GSolve_Pick) (p2 : GaUse) (Q : Bool × GaUse → Prop) : Prop :=
  ∀ v3 : Bool, v3 = (if false then !(p1.Name == p2.Name) else (p1.Name == p2.Name)) → Q (v3, (GaUse.mk p2.Name p2.Low p2.High))
theorem ok60 (p1 : GSolve_Pick) (p2 : GaUse) (r : Bool × GaUse) (hw : w60 p1 p2 fun r' => r' = r) : sp60 p1 p2 r := by
  refine zh (rs := [.t 3]) Try.func60 hk60 ?_
  unfold w60 at hw
  show SC Try.prog Try.f60.ntmps 1 hc60 _ [(0, eGSolve_Pick p1), (1, .ptr 0 0)] [.cells [.str p2.Name, ii p2.Low, ii p2.High]]
  unfold hc60
  refine q_reg (g_box (v := eGSolve_Pick p1) rfl rfl rfl (n := 1) rfl rfl (st_mv rfl (g_endq [(1, .ptr 0 0), (2, .ptr 1 0)] rfl ?_)))
  refine q_reg (g_faddr_p rfl (g_load_p rfl rfl rfl (g_faddr_p rfl (g_load_p rfl rfl rfl (gb_eqs rfl rfl hw fun v3 hw => st_mv rfl (g_endq [(3, .bool v3)] rfl ?_))))))
  exact sc_ret (gr1 (g := zg60) (ho := zo60) [.bool v3] hw (.inr rfl) (wrm 1 [0]))
def hc61 : C := (.seq (.reg [oo 1 (.box none 1 0), oo 2 (.mv (.c .nilfunc))] [1]) (.seq (.reg [oo 3 (.mkfunc 83 [1]), mo 2 3] [2]) .ret))
def ha61 : Ann := ⟨[], [], [(0, [1]), (1, [2])], []⟩
theorem hk61 : comp Try.prog ha61 Try.f61.ntmps Try.f61.code = some hc61 := by kernel_rfl
def w61 (p1 : List (GSolve_Module)) (Q : List (GSolve_Module) → Prop) : Prop :=
  Q p1
theorem ok61 (p1 : List (GSolve_Module)) (r : List (GSolve_Module)) (hw : w61 p1 fun r' => r' = r) : sp61 p1 r := by
  refine zf (rs := [.t 2]) (g := zg61) Try.func61 hk61 ?_
  unfold w61 at hw
  show SC Try.prog Try.f61.ntmps 0 hc61 _ [(0, ln eGSolve_Module p1)] []
  unfold hc61
  refine q_reg (g_box (v := ln eGSolve_Module p1) rfl rfl rfl (n := 0) rfl rfl (st_mv rfl (g_endq [(1, .ptr 0 0)] rfl ?_)))
  refine q_reg (g_mkfunc (ec rfl en) rfl (st_mv rfl (g_endq [(2, .func 83 [.ptr 0 0])] rfl ?_)))
  exact sc_ret (gr (g := zg61) (ho := fun _ => []) [.func 83 [.ptr 0 0]] [.func 83 [.rptr [ln eGSolve_Module p1]]] hw (.inr rfl) ((w_boxfn (h' := [.dead]) 0 rfl rfl rfl).trans (wr [])))
def hc63 : C := (.seq (.reg [oo 4 (.box none 3 0), oo 5 (.box none 3 1), oo 6 (.mv (.c (.int .i64 0)))] [2, 3, 4, 5]) (.seq (.dreg [oo 9 (.load none 2), oo 10 (.nilck 9), oo 11 (.faddr 1 1 10), oo 12 (.load none 11), oo 13 (.load none 3), oo 14 (.faddr 1 1 4), oo 15 (.load none 14), oo 16 (.build [(.str []), (.int .i64 0)] [(0, 1, 13), (1, 1, 15)]), co 17 (.call 64 [12, 16]), oo 18 (.load none 2), oo 19 (.nilck 18), oo 20 (.faddr 1 1 19), oo 21 (.load none 20), oo 22 (.load none 3), oo 23 (.faddr 1 1 5), oo 24 (.load none 23), oo 25 (.build [(.str []), (.int .i64 0)] [(0, 1, 22), (1, 1, 24)]), co 26 (.call 64 [21, 25]), mo 7 17, mo 8 26] [] 0 [7, 8]) (.seq (.block 0 (.seq (.reg [mo 28 7, mo 29 8, oo 30 (.eqv false .bool 28 29), mo 27 30] [7, 27]) (.cond 27 (.seq (.reg [oo 6 (.mv (.c (.int .i64 0)))] [6]) .ret) (.seq (.reg [mo 32 7, mo 31 32] [31]) (.cond 31 (.seq (.reg [oo 6 (.mv (.c (.int .i64 (-1))))] [6]) .ret) .skip))))) (.seq (.reg [oo 6 (.mv (.c (.int .i64 1)))] [6]) .ret))))
def ha63 : Ann := ⟨[], [], [(0, [2, 3, 4, 5]), (1, [7, 8]), (2, [7, 27]), (3, [6]), (4, [31]), (5, [6]), (6, [6])], []⟩
theorem hk63 : comp Try.prog ha63 Try.f63.ntmps Try.f63.code = some hc63 := by kernel_rfl
def w63 (p1 : GSolve_Module) (p2 : GSolve_Module) (p3 : GSolve_search) (p4 : List UInt8) (Q : Int × GSolve_search × List UInt8 → Prop) : Prop :=
  ∃ r5 : Bool, sp64 p3.first (GSolve_Pick.mk p4 p1.Version) r5 ∧ ∃ r6 : Bool, sp64 p3.first (GSolve_Pick.mk p4 p2.Version) r6 ∧ ∀ v7 : Bool, v7 = (if false then !(r5 == r6) else (r5 == r6)) → ((v7 = true → Q ((0 : Int), (GSolve_search.mk p3.register p3.first p3.picks p3.wants), p4)) ∧ (v7 = false → ((r5 = true → Q ((-1 : Int), (GSolve_search.mk p3.register p3.first p3.picks p3.wants), p4)) ∧ (r5 = false → Q ((1 : Int), (GSolve_search.mk p3.register p3.first p3.picks p3.wants), p4)))))
theorem ok63 (p1 : GSolve_Module) (p2 : GSolve_Module) (p3 : GSolve_search) (p4 : List UInt8) (r : Int × GSolve_search × List UInt8) (hw : w63 p1 p2 p3 p4 fun r' => r' = r) : sp63 p1 p2 p3 p4 r := by
  refine zh (rs := [.t 6]) Try.func63 hk63 ?_
  unfold w63 at hw
  show SC Try.prog Try.f63.ntmps 5 hc63 _ [(0, eGSolve_Module p1), (1, eGSolve_Module p2), (2, .ptr 0 0), (3, .ptr 4 0)] [.cells [.ptr 1 0], .cells [ln eGSolve_Module p3.register, ln eGSolve_Pick p3.first, .arr 2 0 p3.picks.length 2, .arr 3 0 p3.wants.length 3], GA eGSolve_Pick p3.picks, GA eGaUse p3.wants, .cells [.str p4]]
  unfold hc63
  refine q_reg (g_box (v := eGSolve_Module p1) rfl rfl rfl (n := 5) rfl rfl (g_box (v := eGSolve_Module p2) rfl rfl rfl (n := 6) rfl rfl (st_mv rfl (g_endq [(2, .ptr 0 0), (3, .ptr 4 0), (4, .ptr 5 0), (5, .ptr 6 0)] rfl ?_))))
  refine sc_seq (s_dreg Try.mixed rfl (g_load_p rfl rfl rfl (st_nilck_p rfl (g_faddr_p rfl (g_load_p rfl rfl rfl (g_load_p rfl rfl rfl (g_faddr_p rfl (g_load_p rfl rfl rfl (g_build (cs := [.str p4, ii p1.Version]) (ep_cons rfl (ep_cons rfl ep_nil)) rfl (k_call dd (ec rfl (ec rfl en)) rfl hw fun r5 hw => g_load_p rfl rfl rfl (st_nilck_p rfl (g_faddr_p rfl (g_load_p rfl rfl rfl (g_load_p rfl rfl rfl (g_faddr_p rfl (g_load_p rfl rfl rfl (g_build (cs := [.str p4, ii p2.Version]) (ep_cons rfl (ep_cons rfl ep_nil)) rfl (k_call dd (ec rfl (ec rfl en)) rfl hw fun r6 hw => st_mv rfl (st_mv rfl (st_mid (g_end [(7, .bool r5), (8, .bool r6)] rfl ?_)))))))))))))))))))))
  refine sq_n (sc_seq (sc_block (q_reg (st_mv rfl (st_mv rfl (gb_eqb rfl rfl hw fun v7 hw => st_mv rfl (g_endq [(7, .bool r5), (27, .bool v7)] rfl ?_)))))))
  refine s_cond rfl hw (fun hw => ?_) (fun hw => ?_)
  · refine q_reg (st_mv rfl (g_endq [(6, ii 0)] rfl ?_))
    exact sc_ret (bl_r (sq_r (gr1 (g := zg63) (ho := zo63) [ii 0] hw (.inr rfl) (weak_renm 5 rfl [0, 1, 2, 3, 4] (by decide) (by decide) (ro_cells rfl (rl_cons (.ptr _ _ _ rfl) rfl rl_nil) (ro_cells rfl (rl_cons (.pv _ (pv_lst enc_GSolve_Module _ _ (by simp))) rfl (rl_cons (.pv _ (pv_lst enc_GSolve_Pick _ _ (by simp))) rfl (rl_cons (rn_arr rfl) rfl (rl_cons (rn_arr rfl) rfl rl_nil)))) (ro_arr enc_GSolve_Pick (fun a => (lfc rfl (lfc rfl lfn))) rfl (ro_arr enc_GaUse (fun a => (lfc rfl (lfc rfl (lfc rfl lfn)))) rfl (ro_cells rfl (rl_cons (.pv _ (.str _)) rfl rl_nil) ro_nil))))) (re_cons rfl (.pv _ (.int _ _)) re_nil)))))
  · refine q_reg (st_mv rfl (st_mv rfl (g_endq [(31, .bool r5)] rfl ?_)))
    refine s_cond rfl hw (fun hw => ?_) (fun hw => ?_)
    · refine q_reg (st_mv rfl (g_endq [(6, ii (-1 : Int))] rfl ?_))
      exact sc_ret (bl_r (sq_r (gr1 (g := zg63) (ho := zo63) [ii (-1 : Int)] hw (.inr rfl) (weak_renm 5 rfl [0, 1, 2, 3, 4] (by decide) (by decide) (ro_cells rfl (rl_cons (.ptr _ _ _ rfl) rfl rl_nil) (ro_cells rfl (rl_cons (.pv _ (pv_lst enc_GSolve_Module _ _ (by simp))) rfl (rl_cons (.pv _ (pv_lst enc_GSolve_Pick _ _ (by simp))) rfl (rl_cons (rn_arr rfl) rfl (rl_cons (rn_arr rfl) rfl rl_nil)))) (ro_arr enc_GSolve_Pick (fun a => (lfc rfl (lfc rfl lfn))) rfl (ro_arr enc_GaUse (fun a => (lfc rfl (lfc rfl (lfc rfl lfn)))) rfl (ro_cells rfl (rl_cons (.pv _ (.str _)) rfl rl_nil) ro_nil))))) (re_cons rfl (.pv _ (.int _ _)) re_nil)))))
    · refine sc_skip (bl_n (sq_n (q_reg (st_mv rfl (g_endq [(6, ii 1)] rfl ?_)))))
      exact sc_ret (gr1 (g := zg63) (ho := zo63) [ii 1] hw (.inr rfl) (weak_renm 5 rfl [0, 1, 2, 3, 4] (by decide) (by decide) (ro_cells rfl (rl_cons (.ptr _ _ _ rfl) rfl rl_nil) (ro_cells rfl (rl_cons (.pv _ (pv_lst enc_GSolve_Module _ _ (by simp))) rfl (rl_cons (.pv _ (pv_lst enc_GSolve_Pick _ _ (by simp))) rfl (rl_cons (rn_arr rfl) rfl (rl_cons (rn_arr rfl) rfl rl_nil)))) (ro_arr enc_GSolve_Pick (fun a => (lfc rfl (lfc rfl lfn))) rfl (ro_arr enc_GaUse (fun a => (lfc rfl (lfc rfl (lfc rfl lfn)))) rfl (ro_cells rfl (rl_cons (.pv _ (.str _)) rfl rl_nil) ro_nil))))) (re_cons rfl (.pv _ (.int _ _)) re_nil)))
def hc64 : C := (.seq (.reg [oo 3 (.box none 2 1), oo 4 (.mv (.c (.bool false)))] [0, 3]) (.seq (.reg [mo 5 0, oo 6 (.load (some 2) 3), co 7 (.call 85 [5, 6]), oo 8 (.bin .geq 7 (.c (.int .i64 0))), mo 4 8] [4]) .ret))
def ha64 : Ann := ⟨[], [], [(0, [0, 3]), (1, [4])], []⟩
theorem hk64 : comp Try.prog ha64 Try.f64.ntmps Try.f64.code = some hc64 := by kernel_rfl
def w64 (p1 : List (GSolve_Pick)) (p2 : GSolve_Pick) (Q : Bool → Prop) : Prop :=
  ∃ r3 : Int, sp85 p1 (GSolve_Pick.mk p2.Name p2.Version) r3 ∧ ∀ v4 : Bool, v4 = decide (r3 ≥ (0 : Int)) → Q v4
theorem ok64 (p1 : List (GSolve_Pick)) (p2 : GSolve_Pick) (r : Bool) (hw : w64 p1 p2 fun r' => r' = r) : sp64 p1 p2 r := by
  refine zf (rs := [.t 4]) (g := zg64) Try.func64 hk64 ?_
  unfold w64 at hw
  show SC Try.prog Try.f64.ntmps 0 hc64 _ [(0, ln eGSolve_Pick p1), (1, eGSolve_Pick p2)] []
  unfold hc64
  refine q_reg (g_box (v := eGSolve_Pick p2) rfl rfl rfl (n := 0) rfl rfl (st_mv rfl (g_endq [(0, ln eGSolve_Pick p1), (3, .ptr 0 0)] rfl ?_)))
  refine q_reg (st_mv rfl (g_load_p (v := .agg [.str p2.Name, ii p2.Version]) rfl rfl rfl (k_call dh (ec rfl (ec rfl en)) rfl hw fun r3 hw => gb_cmp rfl rfl trivial rfl hw fun v4 hw => st_mv rfl (g_endq [(4, .bool v4)] rfl ?_))))
  exact sc_ret (gr1 (g := zg64) (ho := fun _ => []) [.bool v4] hw (.inr rfl) (wr []))
def hc67 : C := (.seq (.reg [oo 2 (.box none 2 0), oo 3 (.mv (.c (.bool false)))] [1, 2]) (.seq (.reg [oo 4 (.faddr 0 1 2), oo 5 (.load none 4), oo 6 (.faddr 0 1 1), oo 7 (.load none 6), oo 8 (.eqv false .str 5 7), mo 9 8, og 10 (.faddr 1 1 2) 9 true, og 11 (.load none 10) 9 true, og 12 (.faddr 1 1 1) 9 true, og 13 (.load none 12) 9 true, og 14 (.bin .lss 11 13) 9 true, og 15 (.mv 14) 9 true, og 16 (.faddr 1 1 2) 15 false, og 17 (.load none 16) 15 false, og 18 (.faddr 2 1 1) 15 false, og 19 (.load none 18) 15 false, og 20 (.bin .gtr 17 19) 15 false, og 21 (.pick 15 (.c (.bool true)) 20) 9 true, oo 22 (.pick 9 21 (.c (.bool false))), mo 3 22] [3]) .ret))
def ha67 : Ann := ⟨[], [], [(0, [1, 2]), (1, [3])], []⟩
theorem hk67 : comp Try.prog ha67 Try.f67.ntmps Try.f67.code = some hc67 := by kernel_rfl
def w67 (p1 : GSolve_Pick) (p2 : GaUse) (Q : Bool × GaUse → Prop) : Prop :=
  ((p1.Name = p2.Name → ((p1.Version < p2.Low → Q (true, (GaUse.mk p2.Name p2.Low p2.High))) ∧ (p2.Low ≤ p1.Version → ∀ v3 : Bool, v3 = decide (p1.Version > p2.High) → Q (v3, (GaUse.mk p2.Name p2.Low p2.High))))) ∧ (p1.Name ≠ p2.Name → Q (false, (GaUse.mk p2.Name p2.Low p2.High))))
theorem ok67 (p1 : GSolve_Pick) (p2 : GaUse) (r : Bool × GaUse) (hw : w67 p1 p2 fun r' => r' = r) : sp67 p1 p2 r := by
  refine zh (rs := [.t 3]) Try.func67 hk67 ?_
  unfold w67 at hw
  show SC Try.prog Try.f67.ntmps 1 hc67 _ [(0, eGSolve_Pick p1), (1, .ptr 0 0)] [.cells [.str p2.Name, ii p2.Low, ii p2.High]]
  unfold hc67
  refine q_reg (g_box (v := eGSolve_Pick p1) rfl rfl rfl (n := 1) rfl rfl (st_mv rfl (g_endq [(1, .ptr 0 0), (2, .ptr 1 0)] rfl ?_)))
  refine q_reg (g_faddr_p rfl (g_load_p rfl rfl rfl (g_faddr_p rfl (g_load_p rfl rfl rfl (g_eqs rfl rfl hw (fun hw => st_mv rfl (st_g rfl (g_faddr_p rfl (st_g rfl (g_load_p rfl rfl rfl (st_g rfl (g_faddr_p rfl (st_g rfl (g_load_p rfl rfl rfl (st_g rfl (g_lss rfl rfl hw (fun hw => st_g rfl (st_mv rfl (st_gtf rfl (st_gtf rfl (st_gtf rfl (st_gtf rfl (st_gtf rfl (st_g rfl (st_pick_t rfl rfl rfl (st_pick_t rfl rfl rfl (st_mv rfl (g_endq [(3, .bool true)] rfl ?_)))))))))))) (fun hw => st_g rfl (st_mv rfl (st_g rfl (g_faddr_p rfl (st_g rfl (g_load_p rfl rfl rfl (st_g rfl (g_faddr_p rfl (st_g rfl (g_load_p rfl rfl rfl (st_g rfl (gb_cmp rfl rfl trivial rfl hw fun v3 hw => st_g rfl (st_pick_f rfl rfl rfl (st_pick_t rfl rfl rfl (st_mv rfl (g_endq [(3, .bool v3)] rfl ?_))))))))))))))))))))))))))) (fun hw => st_mv rfl (st_gft rfl (st_gft rfl (st_gft rfl (st_gft rfl (st_gft rfl (st_gft rfl (st_gu rfl (st_gu rfl (st_gu rfl (st_gu rfl (st_gu rfl (st_gft rfl (st_pick_f rfl rfl rfl (st_mv rfl (g_endq [(3, .bool false)] rfl ?_)))))))))))))))))))))
  · exact sc_ret (gr1 (g := zg67) (ho := zo67) [.bool true] hw (.inr rfl) (wrm 1 [0]))
  · exact sc_ret (gr1 (g := zg67) (ho := zo67) [.bool v3] hw (.inr rfl) (wrm 1 [0]))
  · exact sc_ret (gr1 (g := zg67) (ho := zo67) [.bool false] hw (.inr rfl) (wrm 1 [0]))
def hc77 : C := (.seq (.reg [oo 2 (.mv (.c (.bool false)))] [0]) (.seq (.reg [mo 3 0, mo 4 0, oo 5 (.eqv true .int 3 4), mo 2 5] [2]) .ret))
def ha77 : Ann := ⟨[], [], [(0, [0]), (1, [2])], []⟩
theorem hk77 : comp Try.prog ha77 Try.f77.ntmps Try.f77.code = some hc77 := by kernel_rfl
def w77 (p1 : Int) (Q : Bool → Prop) : Prop :=
  ∀ v2 : Bool, v2 = (if true then !(p1 == p1) else (p1 == p1)) → Q v2
theorem ok77 (p1 : Int) (r : Bool) (hw : w77 p1 fun r' => r' = r) : sp77 p1 r := by
  refine zf (rs := [.t 2]) (g := zg77) Try.func77 hk77 ?_
  unfold w77 at hw
  show SC Try.prog Try.f77.ntmps 0 hc77 _ [(0, ii p1)] []
  unfold hc77
  refine q_reg (st_mv rfl (g_endq [(0, ii p1)] rfl ?_))
  refine q_reg (st_mv rfl (st_mv rfl (gb_eqi rfl rfl hw fun v2 hw => st_mv rfl (g_endq [(2, .bool v2)] rfl ?_))))
  exact sc_ret (gr1 (g := zg77) (ho := fun _ => []) [.bool v2] hw (.inr rfl) ws)
def hc85 : C := (.seq (.reg [oo 3 (.box none 2 1), oo 4 (.mv (.c (.int .i64 0)))] [0, 3]) (.seq (.seq (.reg [mo 6 0, oo 7 (.len false 6), oo 8 (.mv (.c (.int .i64 0)))] [0, 3, 7, 8]) (.block 0 (.loop (.seq (.reg [oo 9 (.bin .lss 8 7)] [0, 3, 7, 8, 9]) (.seq (.cond 9 .skip (.exit 0)) (.seq (.block 1 (.seq (.reg [mo 10 8, mo 5 10] [0, 3, 5, 7, 8]) (.seq (.dreg [oo 11 (.load (some 2) 3), mo 12 0, mo 13 5, oo 14 (.iaddr 2 12 13), oo 15 (.load (some 2) 14), oo 16 (.eqv false (.agg [.s, .i]) 11 15)] [] 0 [0, 3, 5, 7, 8, 16]) (.cond 16 (.seq (.reg [mo 17 5, mo 4 17] [4]) .ret) .skip)))) (.reg [oo 18 (.bin .add 8 (.c (.int .i64 1))), mo 8 18] [0, 3, 7, 8]))))))) (.seq (.reg [oo 4 (.mv (.c (.int .i64 (-1))))] [4]) .ret)))
def ha85 : Ann := ⟨[], [], [(0, [0, 3]), (1, [0, 3, 7, 8]), (2, [0, 3, 7, 8, 9]), (3, [0, 3, 5, 7, 8]), (4, [0, 3, 5, 7, 8, 16]), (5, [4]), (6, [0, 3, 7, 8]), (7, [4])], []⟩
theorem hk85 : comp Try.prog ha85 Try.f85.ntmps Try.f85.code = some hc85 := by kernel_rfl
def w85 (p1 : List (GSolve_Pick)) (p2 : GSolve_Pick) (Q : Int → Prop) : Prop :=
  ∃ (I7 : Int → Prop) (M8 : Int → Nat), I7 (0 : Int) ∧ ∀ (v3 : Int), I7 v3 → ∀ v9 : Bool, v9 = decide (v3 < (p1.length : Int)) → ((v9 = true → (0 ≤ v3 ∧ v3 < (p1.length : Int)) ∧ ∀ a10 : GSolve_Pick, p1[(v3 : Int).toNat]? = some a10 → (((GSolve_Pick.mk p2.Name p2.Version) = a10 → Q v3) ∧ ((GSolve_Pick.mk p2.Name p2.Version) ≠ a10 → (R64 (v3 + (1 : Int))) ∧ ∀ v11 : Int, v11 = v3 + (1 : Int) → (I7 v11 ∧ M8 v11 < M8 v3)))) ∧ (v9 = false → Q (-1 : Int)))
theorem ok85 (p1 : List (GSolve_Pick)) (p2 : GSolve_Pick) (r : Int) (hw : w85 p1 p2 fun r' => r' = r) : sp85 p1 p2 r := by
  refine zf (rs := [.t 4]) (g := zg85) Try.func85 hk85 ?_
  unfold w85 at hw
  show SC Try.prog Try.f85.ntmps 0 hc85 _ [(0, ln eGSolve_Pick p1), (1, eGSolve_Pick p2)] []
  unfold hc85
  refine q_reg (g_box (v := eGSolve_Pick p2) rfl rfl rfl (n := 0) rfl rfl (st_mv rfl (g_endq [(0, ln eGSolve_Pick p1), (3, .ptr 0 0)] rfl ?_)))
  refine sc_seq (q_reg (st_mv rfl (g_len rfl (st_mv rfl (g_endq [(0, ln eGSolve_Pick p1), (3, .ptr 0 0), (7, ii (p1.length : Int)), (8, ii 0)] rfl ?_)))))
  refine sc_block ?_
  obtain ⟨I7, M8, hi, hw⟩ := hw
  refine sc_loop (X := { x : Int // I7 x }) (fun x => ([(0, ln eGSolve_Pick p1), (3, .ptr 0 0), (7, ii (p1.length : Int)), (8, ii x.1)], [.cells [.str p2.Name, ii p2.Version]])) (fun x => M8 x.1) ⟨(0 : Int), hi⟩ ws ?_
  rintro ⟨v3, hi2⟩
  have hw := hw v3 hi2
  clear hi
  refine q_reg (gb_cmp rfl rfl trivial rfl hw fun v9 hw => g_endq [(0, ln eGSolve_Pick p1), (3, .ptr 0 0), (7, ii (p1.length : Int)), (8, ii v3), (9, .bool v9)] rfl ?_)
  refine sc_seq (s_cond rfl hw (fun hw => ?_) (fun hw => ?_))
  · refine sc_skip (sq_n (sc_seq (sc_block (q_reg (st_mv rfl (st_mv rfl (g_endq [(0, ln eGSolve_Pick p1), (3, .ptr 0 0), (5, ii v3), (7, ii (p1.length : Int)), (8, ii v3)] rfl ?_)))))))
    refine sc_seq (s_dreg Try.mixed rfl (g_load_p (v := .agg [.str p2.Name, ii p2.Version]) rfl rfl rfl (st_mv rfl (st_mv rfl (g_iaddr enc_GSolve_Pick rfl rfl hw fun a10 hw => st_load_r (v := eGSolve_Pick a10) rfl rfl (g_eqa (fk := eGSolve_Pick) enck_GSolve_Pick (fun a => ⟨_, rfl⟩) (GSolve_Pick.mk p2.Name p2.Version) a10 rfl rfl hw (fun hw => st_mid (g_end [(0, ln eGSolve_Pick p1), (3, .ptr 0 0), (5, ii v3), (7, ii (p1.length : Int)), (8, ii v3), (16, .bool true)] rfl ?_)) (fun hw => st_mid (g_end [(0, ln eGSolve_Pick p1), (3, .ptr 0 0), (5, ii v3), (7, ii (p1.length : Int)), (8, ii v3), (16, .bool false)] rfl ?_))))))))
    · refine sq_n (s_cond_t rfl (q_reg (st_mv rfl (st_mv rfl (g_endq [(4, ii v3)] rfl ?_)))))
      exact sc_ret (bl_r (sq_r (lo_r (bl_r (sq_r (gr1 (g := zg85) (ho := fun _ => []) [ii v3] hw (.inr rfl) (wr [])))))))
    · refine sq_n (s_cond_f rfl (sc_skip (bl_n (sq_n (s_reg (g_add rfl rfl hw fun v11 hw => st_mv rfl (g_end [(0, ln eGSolve_Pick p1), (3, .ptr 0 0), (7, ii (p1.length : Int)), (8, ii v11)] rfl ?_)))))))
      exact lo_n ⟨v11, hw.1⟩ hw.2 ws
  · refine sc_exit (sq_x (lo_x (bl_x (sq_n (q_reg (st_mv rfl (g_endq [(4, ii (-1 : Int))] rfl ?_)))))))
    exact sc_ret (gr1 (g := zg85) (ho := fun _ => []) [ii (-1 : Int)] hw (.inr rfl) (wr []))
def hc23 : C := (.seq (.reg [mo 5 0, oo 6 (.len false 5), mo 4 6] [0, 1, 4]) (.reg [mo 7 0, mo 8 4, mo 9 4, oo 10 (.conv (.int .u64) 9), co 11 (.call 35 [10]), mo 12 1, co 13 (.call 41 [7, (.c (.int .i64 0)), 8, 11, 12])] []))
def ha23 : Ann := ⟨[], [], [(0, [0, 1, 4]), (1, [])], []⟩
theorem hk23 : comp Try.prog ha23 Try.f23.ntmps Try.f23.code = some hc23 := by kernel_rfl
def w23_24 (p1 : List (GSolve_Pick)) (Q : List (GSolve_Pick) → Prop) : Prop :=
  ∀ v2 : Int, v2 = IntKind.wrap .u64 (p1.length : Int) → ∃ r3 : Int, sp35 v2 r3 ∧ ∃ r4 : List (GSolve_Pick), sp41_24 p1 (0 : Int) (p1.length : Int) r3 r4 ∧ Q r4
theorem ok23_24 (p1 : List (GSolve_Pick)) (r : List (GSolve_Pick)) (hw : w23_24 p1 fun r' => r' = r) : sp23_24 p1 r := by
  refine zh (rs := []) Try.func23 hk23 ?_
  unfold w23_24 at hw
  show SC Try.prog Try.f23.ntmps 1 hc23 _ [(0, .arr 0 0 p1.length 2), (1, .func 24 [])] [GA eGSolve_Pick p1]
  unfold hc23
  refine q_reg (st_mv rfl (g_lenA rfl (st_mv rfl (g_endq [(0, .arr 0 0 p1.length 2), (1, .func 24 []), (4, ii (p1.length : Int))] rfl ?_))))
  refine s_reg (st_mv rfl (st_mv rfl (st_mv rfl (g_conv rfl hw fun v2 hw => k_call dh (ec rfl en) rfl hw fun r3 hw => st_mv rfl (kh (hin := (ro_arr enc_GSolve_Pick (fun a => (lfc rfl (lfc rfl lfn))) rfl ro_nil)) (hback := fun _ => (ou_arr enc_GSolve_Pick (fun a => (lfc rfl (lfc rfl lfn))) rfl ou_nil)) hh (g2 := fun r4 : List (GSolve_Pick) => .tuple []) (H2 := fun r4 : List (GSolve_Pick) => [GA eGSolve_Pick r4]) [0] [0] 1 0 (ec rfl (ec rfl (ec rfl (ec rfl (ec rfl en))))) hw fun r4 hw => g_end [] rfl ?_)))))
  exact gr1 (g := zg23_24) (ho := zo23_24) [] hw (.inl rfl) ws
def hc59 : C := (.seq (.reg [oo 4 (.mv (.c (.bool false)))] [0, 1]) (.seq (.reg [mo 5 0, mo 6 1, co 7 (.call 29 [5, 6]), oo 8 (.bin .geq 7 (.c (.int .i64 0))), mo 4 8] [4]) .ret))
def ha59 : Ann := ⟨[], [], [(0, [0, 1]), (1, [4])], []⟩
theorem hk59 : comp Try.prog ha59 Try.f59.ntmps Try.f59.code = some hc59 := by kernel_rfl
def w59_60 (p1 : List (GSolve_Pick)) (p2 : GaUse) (Q : Bool × GaUse → Prop) : Prop :=
  ∃ r3 : Int × GaUse, sp29_60 p1 (GaUse.mk p2.Name p2.Low p2.High) r3 ∧ ∀ v4 : Bool, v4 = decide (r3.1 ≥ (0 : Int)) → Q (v4, (GaUse.mk r3.2.Name r3.2.Low r3.2.High))
theorem ok59_60 (p1 : List (GSolve_Pick)) (p2 : GaUse) (r : Bool × GaUse) (hw : w59_60 p1 p2 fun r' => r' = r) : sp59_60 p1 p2 r := by
  refine zh (rs := [.t 4]) Try.func59 hk59 ?_
  unfold w59_60 at hw
  show SC Try.prog Try.f59.ntmps 1 hc59 _ [(0, ln eGSolve_Pick p1), (1, .func 60 [.ptr 0 0])] [.cells [.str p2.Name, ii p2.Low, ii p2.High]]
  unfold hc59
  refine q_reg (st_mv rfl (g_endq [(0, ln eGSolve_Pick p1), (1, .func 60 [.ptr 0 0])] rfl ?_))
  refine q_reg (st_mv rfl (st_mv rfl (kh (hargs := (ra_cons (.pv _ (pv_lst enc_GSolve_Pick _ _ (by simp))) (ra_cons (Ren.fn (rf_cons (.ptr _ _ _ rfl) rf_nil)) ra_nil))) hh (g2 := fun r3 : Int × GaUse => ii r3.1) (H2 := fun r3 : Int × GaUse => [.cells [.str r3.2.Name, ii r3.2.Low, ii r3.2.High]]) [0] [0] 1 0 (ec rfl (ec rfl en)) hw fun r3 hw => gb_cmp rfl rfl trivial rfl hw fun v4 hw => st_mv rfl (g_endq [(4, .bool v4)] rfl ?_))))
  exact sc_ret (gr1 (g := zg59_60) (ho := zo59_60) [.bool v4] hw (.inr rfl) ws)
def hc62 : C := (.reg [mo 4 0, mo 5 0, oo 6 (.len false 5), mo 7 1, co 8 (.call 84 [4, 6, 7])] [])
def ha62 : Ann := ⟨[], [], [(0, [])], []⟩
theorem hk62 : comp Try.prog ha62 Try.f62.ntmps Try.f62.code = some hc62 := by kernel_rfl
def w62_63 (p1 : List (GSolve_Module)) (p2 : GSolve_search) (p3 : List UInt8) (Q : List (GSolve_Module) × GSolve_search × List UInt8 → Prop) : Prop :=
  ∃ r4 : List (GSolve_Module) × GSolve_search × List UInt8, sp84_63 p1 (p1.length : Int) (GSolve_search.mk p2.register p2.first p2.picks p2.wants) p3 r4 ∧ Q (r4.1, (GSolve_search.mk r4.2.1.register r4.2.1.first r4.2.1.picks r4.2.1.wants), r4.2.2)
theorem ok62_63 (p1 : List (GSolve_Module)) (p2 : GSolve_search) (p3 : List UInt8) (r : List (GSolve_Module) × GSolve_search × List UInt8) (hw : w62_63 p1 p2 p3 fun r' => r' = r) : sp62_63 p1 p2 p3 r := by
  refine zh (rs := []) Try.func62 hk62 ?_
  unfold w62_63 at hw
  show SC Try.prog Try.f62.ntmps 6 hc62 _ [(0, .arr 0 0 p1.length 3), (1, .func 63 [.ptr 1 0, .ptr 5 0])] [GA eGSolve_Module p1, .cells [.ptr 2 0], .cells [ln eGSolve_Module p2.register, ln eGSolve_Pick p2.first, .arr 3 0 p2.picks.length 2, .arr 4 0 p2.wants.length 3], GA eGSolve_Pick p2.picks, GA eGaUse p2.wants, .cells [.str p3]]
  unfold hc62
  refine s_reg (st_mv rfl (st_mv rfl (g_lenA rfl (st_mv rfl (kh (hin := (ro_arr enc_GSolve_Module (fun a => (lfc rfl (lfc rfl (lfc rfl lfn)))) rfl (ro_cells rfl (rl_cons (.ptr _ _ _ rfl) rfl rl_nil) (ro_cells rfl (rl_cons (.pv _ (pv_lst enc_GSolve_Module _ _ (by simp))) rfl (rl_cons (.pv _ (pv_lst enc_GSolve_Pick _ _ (by simp))) rfl (rl_cons (rn_arr rfl) rfl (rl_cons (rn_arr rfl) rfl rl_nil)))) (ro_arr enc_GSolve_Pick (fun a => (lfc rfl (lfc rfl lfn))) rfl (ro_arr enc_GaUse (fun a => (lfc rfl (lfc rfl (lfc rfl lfn)))) rfl (ro_cells rfl (rl_cons (.pv _ (.str _)) rfl rl_nil) ro_nil))))))) (hback := fun _ => (ou_arr enc_GSolve_Module (fun a => (lfc rfl (lfc rfl (lfc rfl lfn)))) rfl (ou_cells rfl (rl_cons (.ptr _ _ _ rfl) rfl rl_nil) (ou_cells rfl (rl_cons (.pv _ (pv_lst enc_GSolve_Module _ _ (by simp))) rfl (rl_cons (.pv _ (pv_lst enc_GSolve_Pick _ _ (by simp))) rfl (rl_cons (rn_arr rfl) rfl (rl_cons (rn_arr rfl) rfl rl_nil)))) (ou_arr enc_GSolve_Pick (fun a => (lfc rfl (lfc rfl lfn))) rfl (ou_arr enc_GaUse (fun a => (lfc rfl (lfc rfl (lfc rfl lfn)))) rfl (ou_cells rfl (rl_cons (.pv _ (.str _)) rfl rl_nil) ou_nil))))))) (hargs := (ra_cons (rn_arr rfl) (ra_cons (.pv _ (.int _ _)) (ra_cons (Ren.fn (rf_cons (.ptr _ _ _ rfl) (rf_cons (.ptr _ _ _ rfl) rf_nil))) ra_nil)))) hh (g2 := fun r4 : List (GSolve_Module) × GSolve_search × List UInt8 => .tuple []) (H2 := fun r4 : List (GSolve_Module) × GSolve_search × List UInt8 => [GA eGSolve_Module r4.1, .cells [.ptr 2 0], .cells [ln eGSolve_Module r4.2.1.register, ln eGSolve_Pick r4.2.1.first, .arr 3 0 r4.2.1.picks.length 2, .arr 4 0 r4.2.1.wants.length 3], GA eGSolve_Pick r4.2.1.picks, GA eGaUse r4.2.1.wants, .cells [.str r4.2.2]]) [0, 1, 2, 3, 4, 5] [0, 1, 2, 3, 4, 5] 6 0 (ec rfl (ec rfl (ec rfl en))) hw fun r4 hw => g_end [] rfl ?_)))))
  exact gr1 (g := zg62_63) (ho := zo62_63) [] hw (.inl rfl) ws
def hc65 : C := (.seq (.reg [oo 4 (.mv (.c (.bool false)))] [0, 1]) (.seq (.reg [mo 5 0, mo 6 1, co 7 (.call 86 [5, 6]), oo 8 (.bin .geq 7 (.c (.int .i64 0))), mo 4 8] [4]) .ret))
def ha65 : Ann := ⟨[], [], [(0, [0, 1]), (1, [4])], []⟩
theorem hk65 : comp Try.prog ha65 Try.f65.ntmps Try.f65.code = some hc65 := by kernel_rfl
def w65_66_q (p1 : List (GaUse)) (p2 : GSolve_search) (Q : Bool × GSolve_search → Prop) : Prop :=
  ∃ r3 : Int × GSolve_search, sp86_66_q p1 p2 r3 ∧ ∀ v4 : Bool, v4 = decide (r3.1 ≥ (0 : Int)) → Q (v4, r3.2)
theorem ok65_66_q (p1 : List (GaUse)) (p2 : GSolve_search) (r : Bool × GSolve_search) (hw : w65_66_q p1 p2 fun r' => r' = r) : sp65_66_q p1 p2 r := by
  refine zh (rs := [.t 4]) Try.func65 hk65 ?_
  unfold w65_66_q at hw
  show SC Try.prog Try.f65.ntmps 1 hc65 _ [(0, ln eGaUse p1), (1, .func 66 [.ptr 0 0])] [.cells [.rptr (HV.cells (eGSolve_search p2))]]
  unfold hc65
  refine q_reg (st_mv rfl (g_endq [(0, ln eGaUse p1), (1, .func 66 [.ptr 0 0])] rfl ?_))
  refine q_reg (st_mv rfl (st_mv rfl (kh (hargs := (ra_cons (.pv _ (pv_lst enc_GaUse _ _ (by simp))) (ra_cons (Ren.fn (rf_cons (.ptr _ _ _ rfl) rf_nil)) ra_nil))) hh (g2 := fun r3 : Int × GSolve_search => ii r3.1) (H2 := fun r3 : Int × GSolve_search => [.cells [.rptr (HV.cells (eGSolve_search r3.2))]]) [0] [0] 1 0 (ec rfl (ec rfl en)) hw fun r3 hw => gb_cmp rfl rfl trivial rfl hw fun v4 hw => st_mv rfl (g_endq [(4, .bool v4)] rfl ?_))))
  exact sc_ret (gr1 (g := zg65_66_q) (ho := zo65_66_q) [.bool v4] hw (.inr rfl) ws)
def hc41 : C := (.seq (.reg [oo 10 (.mv (.c (.bool true)))] [0, 1, 2, 3, 4, 10]) (.seq (.reg [oo 11 (.mv (.c (.bool true)))] [0, 1, 2, 3, 4, 10, 11]) (.block 0 (.loop (.block 1 (.seq (.reg [mo 21 2, mo 22 1, oo 23 (.bin .sub 21 22), mo 12 23] [0, 1, 2, 3, 4, 10, 11, 12]) (.seq (.seq (.reg [mo 24 12, oo 25 (.bin .leq 24 (.c (.int .i64 12)))] [0, 1, 2, 3, 4, 10, 11, 12, 25]) (.cond 25 (.seq (.reg [mo 26 0, mo 27 1, mo 28 2, mo 29 4, co 30 (.call 68 [26, 27, 28, 29])] []) .ret) .skip)) (.seq (.seq (.reg [mo 31 3, oo 32 (.eqv false .int 31 (.c (.int .i64 0)))] [0, 1, 2, 3, 4, 10, 11, 12, 32]) (.cond 32 (.seq (.reg [mo 33 0, mo 34 1, mo 35 2, mo 36 4, co 37 (.call 69 [33, 34, 35, 36])] []) .ret) .skip)) (.seq (.seq (.reg [mo 38 10, oo 39 (.un .not 38)] [0, 1, 2, 3, 4, 10, 11, 12, 39]) (.cond 39 (.seq (.reg [mo 40 0, mo 41 1, mo 42 2, mo 43 4, co 44 (.call 70 [40, 41, 42, 43])] [0, 1, 2, 3, 4, 10, 11, 12]) (.reg [mo 45 3, oo 46 (.bin .sub 45 (.c (.int .i64 1))), mo 3 46] [0, 1, 2, 3, 4, 10, 11, 12])) .skip)) (.seq (.reg [mo 48 0, mo 49 1, mo 50 2, mo 51 4, co 52 (.call 71 [48, 49, 50, 51]), mo 47 52, oo 53 (.extract 47 0), oo 54 (.extract 47 1), mo 13 53, mo 14 54] [0, 1, 2, 3, 4, 10, 11, 12, 13, 14]) (.seq (.seq (.reg [mo 55 14, oo 56 (.eqv false .int 55 (.c (.int .i64 2)))] [0, 1, 2, 3, 4, 10, 11, 12, 13, 14, 56]) (.cond 56 (.seq (.reg [mo 57 0, mo 58 1, mo 59 2, mo 60 4, co 61 (.call 72 [57, 58, 59, 60])] [0, 1, 2, 3, 4, 10, 11, 12, 13]) (.seq (.reg [mo 62 2, oo 63 (.bin .sub 62 (.c (.int .i64 1))), mo 64 13, mo 65 1, oo 66 (.bin .sub 64 65), oo 67 (.bin .sub 63 66), mo 13 67] [0, 1, 2, 3, 4, 10, 11, 12, 13]) (.reg [oo 14 (.mv (.c (.int .i64 1)))] [0, 1, 2, 3, 4, 10, 11, 12, 13, 14]))) .skip)) (.seq (.seq (.reg [mo 68 10, mo 69 68, og 70 (.mv 11) 69 true, oo 71 (.pick 69 70 (.c (.bool false))), mo 72 71, og 73 (.mv 14) 72 true, og 74 (.eqv false .int 73 (.c (.int .i64 1))) 72 true, oo 75 (.pick 72 74 (.c (.bool false)))] [0, 1, 2, 3, 4, 10, 11, 12, 13, 75]) (.cond 75 (.seq (.reg [mo 76 0, mo 77 1, mo 78 2, mo 79 4, co 80 (.call 73 [76, 77, 78, 79])] [0, 1, 2, 3, 4, 10, 11, 12, 13, 80]) (.cond 80 .ret .skip)) .skip)) (.seq (.seq (.dreg [mo 81 1, oo 82 (.bin .gtr 81 (.c (.int .i64 0))), mo 83 82, og 84 (.mv 4) 83 true, og 85 (.mv 0) 83 true, og 86 (.mv 1) 83 true, og 87 (.bin .sub 86 (.c (.int .i64 1))) 83 true, og 88 (.iaddr 2 85 87) 83 true, og 89 (.load (some 2) 88) 83 true, og 90 (.mv 0) 83 true, og 91 (.mv 13) 83 true, og 92 (.iaddr 2 90 91) 83 true, og 93 (.load (some 2) 92) 83 true] [cg 94 (.callv 84 [89, 93]) 83 true, og 95 (.bin .lss 94 (.c (.int .i64 0))) 83 true, og 96 (.un .not 95) 83 true, oo 97 (.pick 83 96 (.c (.bool false)))] 0 [0, 1, 2, 3, 4, 10, 11, 12, 13, 97]) (.cond 97 (.seq (.reg [mo 98 0, mo 99 1, mo 100 2, mo 101 13, mo 102 4, co 103 (.call 74 [98, 99, 100, 101, 102]), mo 15 103] [0, 2, 3, 4, 10, 11, 15]) (.seq (.reg [mo 104 15, mo 1 104] [0, 1, 2, 3, 4, 10, 11]) (.exit 1))) .skip)) (.seq (.reg [mo 106 0, mo 107 1, mo 108 2, mo 109 13, mo 110 4, co 111 (.call 75 [106, 107, 108, 109, 110]), mo 105 111, oo 112 (.extract 105 0), oo 113 (.extract 105 1), mo 16 112, mo 17 113] [0, 1, 2, 3, 4, 12, 16, 17]) (.seq (.reg [mo 114 17, mo 11 114] [0, 1, 2, 3, 4, 11, 12, 16]) (.seq (.reg [mo 115 16, mo 116 1, oo 117 (.bin .sub 115 116), mo 118 2, mo 119 16, oo 120 (.bin .sub 118 119), mo 18 117, mo 19 120] [0, 1, 2, 3, 4, 11, 12, 16, 18, 19]) (.seq (.reg [mo 121 12, oo 122 (.bin .quo 121 (.c (.int .i64 8))), mo 20 122] [0, 1, 2, 3, 4, 11, 16, 18, 19, 20]) (.seq (.reg [mo 123 18, mo 124 19, oo 125 (.bin .lss 123 124)] [0, 1, 2, 3, 4, 11, 16, 18, 19, 20, 125]) (.cond 125 (.seq (.reg [mo 126 18, mo 127 20, oo 128 (.bin .geq 126 127), mo 10 128] [0, 1, 2, 3, 4, 10, 11, 16]) (.seq (.reg [mo 129 0, mo 130 1, mo 131 16, mo 132 3, mo 133 4, co 134 (.call 41 [129, 130, 131, 132, 133])] [0, 2, 3, 4, 10, 11, 16]) (.reg [mo 135 16, oo 136 (.bin .add 135 (.c (.int .i64 1))), mo 1 136] [0, 1, 2, 3, 4, 10, 11]))) (.seq (.reg [mo 137 19, mo 138 20, oo 139 (.bin .geq 137 138), mo 10 139] [0, 1, 2, 3, 4, 10, 11, 16]) (.seq (.reg [mo 140 0, mo 141 16, oo 142 (.bin .add 141 (.c (.int .i64 1))), mo 143 2, mo 144 3, mo 145 4, co 146 (.call 41 [140, 142, 143, 144, 145])] [0, 1, 3, 4, 10, 11, 16]) (.reg [mo 147 16, mo 2 147] [0, 1, 2, 3, 4, 10, 11]))))))))))))))))))))))
def ha41 : Ann := ⟨[], [30, 46, 60, 63, 66, 67, 83, 999999], [(0, [0, 1, 2, 3, 4, 10]), (1, [0, 1, 2, 3, 4, 10, 11]), (2, [0, 1, 2, 3, 4, 10, 11, 12]), (3, [0, 1, 2, 3, 4, 10, 11, 12, 25]), (4, []), (5, [0, 1, 2, 3, 4, 10, 11, 12, 32]), (6, []), (7, [0, 1, 2, 3, 4, 10, 11, 12, 39]), (8, [0, 1, 2, 3, 4, 10, 11, 12]), (9, [0, 1, 2, 3, 4, 10, 11, 12]), (10, [0, 1, 2, 3, 4, 10, 11, 12, 13, 14]), (11, [0, 1, 2, 3, 4, 10, 11, 12, 13, 14, 56]), (12, [0, 1, 2, 3, 4, 10, 11, 12, 13]), (13, [0, 1, 2, 3, 4, 10, 11, 12, 13]), (14, [0, 1, 2, 3, 4, 10, 11, 12, 13, 14]), (15, [0, 1, 2, 3, 4, 10, 11, 12, 13, 75]), (16, [0, 1, 2, 3, 4, 10, 11, 12, 13, 80]), (17, [0, 1, 2, 3, 4, 10, 11, 12, 13, 97]), (18, [0, 2, 3, 4, 10, 11, 15]), (19, [0, 1, 2, 3, 4, 10, 11]), (20, [0, 1, 2, 3, 4, 12, 16, 17]), (21, [0, 1, 2, 3, 4, 11, 12, 16]), (22, [0, 1, 2, 3, 4, 11, 12, 16, 18, 19]), (23, [0, 1, 2, 3, 4, 11, 16, 18, 19, 20]), (24, [0, 1, 2, 3, 4, 11, 16, 18, 19, 20, 125]), (25, [0, 1, 2, 3, 4, 10, 11, 16]), (26, [0, 2, 3, 4, 10, 11, 16]), (27, [0, 1, 2, 3, 4, 10, 11]), (28, [0, 1, 2, 3, 4, 10, 11, 16]), (29, [0, 1, 3, 4, 10, 11, 16]), (30, [0, 1, 2, 3, 4, 10, 11])], []⟩
theorem hk41 : comp Try.prog ha41 Try.f41.ntmps Try.f41.code = some hc41 := by kernel_rfl
def w41_24 (p1 : List (GSolve_Pick)) (p2 : Int) (p3 : Int) (p4 : Int) (Q : List (GSolve_Pick) → Prop) : Prop :=
  ∃ (I12 : Int → Int → Int → Bool → Bool → Prop) (M13 : Int → Int → Int → Bool → Bool → Nat), I12 p2 p3 p4 true true ∧ ∀ (v5 : Int) (v6 : Int) (v7 : Int) (v8 : Bool) (v9 : Bool), I12 v5 v6 v7 v8 v9 → (R64 (v6 - v5)) ∧ ∀ v14 : Int, v14 = v6 - v5 → ((v14 ≤ (12 : Int) → ∃ r15 : List (GSolve_Pick), sp68_24 p1 v5 v6 r15 ∧ Q r15) ∧ ((12 : Int) < v14 → ((v7 = (0 : Int) → False) ∧ (v7 ≠ (0 : Int) → (((!v8) = true → False) ∧ ((!v8) = false → False))))))
theorem ok41_24 (p1 : List (GSolve_Pick)) (p2 : Int) (p3 : Int) (p4 : Int) (r : List (GSolve_Pick)) (hw : w41_24 p1 p2 p3 p4 fun r' => r' = r) : sp41_24 p1 p2 p3 p4 r := by
  refine zh (rs := []) Try.func41 hk41 ?_
  unfold w41_24 at hw
  show SC Try.prog Try.f41.ntmps 1 hc41 _ [(0, .arr 0 0 p1.length 2), (1, ii p2), (2, ii p3), (3, ii p4), (4, .func 24 [])] [GA eGSolve_Pick p1]
  unfold hc41
  refine q_reg (st_mv rfl (g_endq [(0, .arr 0 0 p1.length 2), (1, ii p2), (2, ii p3), (3, ii p4), (4, .func 24 []), (10, .bool true)] rfl ?_))
  refine q_reg (st_mv rfl (g_endq [(0, .arr 0 0 p1.length 2), (1, ii p2), (2, ii p3), (3, ii p4), (4, .func 24 []), (10, .bool true), (11, .bool true)] rfl ?_))
  refine sc_block ?_
  obtain ⟨I12, M13, hi, hw⟩ := hw
  refine sc_loop (X := { x : Int × Int × Int × Bool × Bool // I12 x.1 x.2.1 x.2.2.1 x.2.2.2.1 x.2.2.2.2 }) (fun x => ([(0, .arr 0 0 p1.length 2), (1, ii x.1.1), (2, ii x.1.2.1), (3, ii x.1.2.2.1), (4, .func 24 []), (10, .bool x.1.2.2.2.1), (11, .bool x.1.2.2.2.2)], [GA eGSolve_Pick p1])) (fun x => M13 x.1.1 x.1.2.1 x.1.2.2.1 x.1.2.2.2.1 x.1.2.2.2.2) ⟨(p2, p3, p4, true, true), hi⟩ ws ?_
  rintro ⟨⟨v5, v6, v7, v8, v9⟩, hi2⟩
  have hw := hw v5 v6 v7 v8 v9 hi2
  clear hi
  refine sc_block (q_reg (st_mv rfl (st_mv rfl (g_sub rfl rfl hw fun v14 hw => st_mv rfl (g_endq [(0, .arr 0 0 p1.length 2), (1, ii v5), (2, ii v6), (3, ii v7), (4, .func 24 []), (10, .bool v8), (11, .bool v9), (12, ii v14)] rfl ?_)))))
  refine sc_seq (q_reg (st_mv rfl (g_leq rfl rfl hw (fun hw => g_endq [(0, .arr 0 0 p1.length 2), (1, ii v5), (2, ii v6), (3, ii v7), (4, .func 24 []), (10, .bool v8), (11, .bool v9), (12, ii v14), (25, .bool true)] rfl ?_) (fun hw => g_endq [(0, .arr 0 0 p1.length 2), (1, ii v5), (2, ii v6), (3, ii v7), (4, .func 24 []), (10, .bool v8), (11, .bool v9), (12, ii v14), (25, .bool false)] rfl ?_))))
  · refine s_cond_t rfl (q_reg (st_mv rfl (st_mv rfl (st_mv rfl (st_mv rfl (kh (hin := (ro_arr enc_GSolve_Pick (fun a => (lfc rfl (lfc rfl lfn))) rfl ro_nil)) (hback := fun _ => (ou_arr enc_GSolve_Pick (fun a => (lfc rfl (lfc rfl lfn))) rfl ou_nil)) hh (g2 := fun r15 : List (GSolve_Pick) => .tuple []) (H2 := fun r15 : List (GSolve_Pick) => [GA eGSolve_Pick r15]) [0] [0] 1 0 (ec rfl (ec rfl (ec rfl (ec rfl en)))) hw fun r15 hw => g_endq [] rfl ?_))))))
    exact sc_ret (sq_r (bl_r (lo_r (bl_r (gr1 (g := zg41_24) (ho := zo41_24) [] hw (.inr rfl) ws)))))
  · refine s_cond_f rfl (sc_skip (sq_n (sc_seq (q_reg (st_mv rfl (g_eqi rfl rfl hw (fun hw => g_endq [(0, .arr 0 0 p1.length 2), (1, ii v5), (2, ii v6), (3, ii v7), (4, .func 24 []), (10, .bool v8), (11, .bool v9), (12, ii v14), (32, .bool true)] rfl ?_) (fun hw => g_endq [(0, .arr 0 0 p1.length 2), (1, ii v5), (2, ii v6), (3, ii v7), (4, .func 24 []), (10, .bool v8), (11, .bool v9), (12, ii v14), (32, .bool false)] rfl ?_)))))))
    · refine s_cond_t rfl (SC.weak (w_freeze (l := p1) (h' := [.dead]) 0 enc_GSolve_Pick rfl rfl rfl rfl) ?_)
      refine q_reg (st_mv rfl (st_mv rfl (st_mv rfl (st_mv rfl (hw.elim)))))
    · refine s_cond_f rfl (sc_skip (sq_n (sc_seq (q_reg (st_mv rfl (st_not rfl (g_endq [(0, .arr 0 0 p1.length 2), (1, ii v5), (2, ii v6), (3, ii v7), (4, .func 24 []), (10, .bool v8), (11, .bool v9), (12, ii v14), (39, .bool (!v8))] rfl ?_)))))))
      refine s_cond rfl hw (fun hw => ?_) (fun hw => ?_)
      · refine SC.weak (w_freeze (l := p1) (h' := [.dead]) 0 enc_GSolve_Pick rfl rfl rfl rfl) ?_
        refine q_reg (st_mv rfl (st_mv rfl (st_mv rfl (st_mv rfl (hw.elim)))))
      · refine sc_skip (sq_n (SC.weak (w_freeze (l := p1) (h' := [.dead]) 0 enc_GSolve_Pick rfl rfl rfl rfl) ?_))
        refine q_reg (st_mv rfl (st_mv rfl (st_mv rfl (st_mv rfl (hw.elim)))))
def hc29 : C := (.seq (.reg [oo 4 (.mv (.c (.int .i64 0)))] [0, 1]) (.seq (.seq (.reg [mo 6 0, oo 7 (.len false 6), oo 8 (.mv (.c (.int .i64 0)))] [0, 1, 7, 8]) (.block 0 (.loop (.seq (.reg [oo 9 (.bin .lss 8 7)] [0, 1, 7, 8, 9]) (.seq (.cond 9 .skip (.exit 0)) (.seq (.block 1 (.seq (.reg [mo 10 8, mo 5 10] [0, 1, 5, 7, 8]) (.seq (.reg [mo 11 1, mo 12 0, mo 13 5, oo 14 (.iaddr 2 12 13), oo 15 (.load (some 2) 14), co 16 (.callv 11 [15])] [0, 1, 5, 7, 8, 16]) (.cond 16 (.seq (.reg [mo 17 5, mo 4 17] [4]) .ret) .skip)))) (.reg [oo 18 (.bin .add 8 (.c (.int .i64 1))), mo 8 18] [0, 1, 7, 8]))))))) (.seq (.reg [oo 4 (.mv (.c (.int .i64 (-1))))] [4]) .ret)))
def ha29 : Ann := ⟨[], [30, 46, 60, 63, 66, 67, 83, 999999], [(0, [0, 1]), (1, [0, 1, 7, 8]), (2, [0, 1, 7, 8, 9]), (3, [0, 1, 5, 7, 8]), (4, [0, 1, 5, 7, 8, 16]), (5, [4]), (6, [0, 1, 7, 8]), (7, [4])], []⟩
theorem hk29 : comp Try.prog ha29 Try.f29.ntmps Try.f29.code = some hc29 := by kernel_rfl
def w29_60 (p1 : List (GSolve_Pick)) (p2 : GaUse) (Q : Int × GaUse → Prop) : Prop :=
  ∃ (I11 : (List UInt8) → Int → Int → Int → Prop) (M12 : (List UInt8) → Int → Int → Int → Nat), I11 p2.Name p2.Low p2.High (0 : Int) ∧ ∀ (v3 : List UInt8) (v4 : Int) (v5 : Int) (v6 : Int), I11 v3 v4 v5 v6 → ∀ v13 : Bool, v13 = decide (v6 < (p1.length : Int)) → ((v13 = true → (0 ≤ v6 ∧ v6 < (p1.length : Int)) ∧ ∀ a14 : GSolve_Pick, p1[(v6 : Int).toNat]? = some a14 → ∃ r15 : Bool × GaUse, sp60 a14 (GaUse.mk v3 v4 v5) r15 ∧ ((r15.1 = true → Q (v6, (GaUse.mk r15.2.Name r15.2.Low r15.2.High))) ∧ (r15.1 = false → (R64 (v6 + (1 : Int))) ∧ ∀ v16 : Int, v16 = v6 + (1 : Int) → (I11 r15.2.Name r15.2.Low r15.2.High v16 ∧ M12 r15.2.Name r15.2.Low r15.2.High v16 < M12 v3 v4 v5 v6)))) ∧ (v13 = false → Q ((-1 : Int), (GaUse.mk v3 v4 v5))))
theorem ok29_60 (p1 : List (GSolve_Pick)) (p2 : GaUse) (r : Int × GaUse) (hw : w29_60 p1 p2 fun r' => r' = r) : sp29_60 p1 p2 r := by
  refine zh (rs := [.t 4]) Try.func29 hk29 ?_
  unfold w29_60 at hw
  show SC Try.prog Try.f29.ntmps 1 hc29 _ [(0, ln eGSolve_Pick p1), (1, .func 60 [.ptr 0 0])] [.cells [.str p2.Name, ii p2.Low, ii p2.High]]
  unfold hc29
  refine q_reg (st_mv rfl (g_endq [(0, ln eGSolve_Pick p1), (1, .func 60 [.ptr 0 0])] rfl ?_))
  refine sc_seq (q_reg (st_mv rfl (g_len rfl (st_mv rfl (g_endq [(0, ln eGSolve_Pick p1), (1, .func 60 [.ptr 0 0]), (7, ii (p1.length : Int)), (8, ii 0)] rfl ?_)))))
  refine sc_block ?_
  obtain ⟨I11, M12, hi, hw⟩ := hw
  refine sc_loop (X := { x : List UInt8 × Int × Int × Int // I11 x.1 x.2.1 x.2.2.1 x.2.2.2 }) (fun x => ([(0, ln eGSolve_Pick p1), (1, .func 60 [.ptr 0 0]), (7, ii (p1.length : Int)), (8, ii x.1.2.2.2)], [.cells [.str x.1.1, ii x.1.2.1, ii x.1.2.2.1]])) (fun x => M12 x.1.1 x.1.2.1 x.1.2.2.1 x.1.2.2.2) ⟨(p2.Name, p2.Low, p2.High, (0 : Int)), hi⟩ ws ?_
  rintro ⟨⟨v3, v4, v5, v6⟩, hi2⟩
  have hw := hw v3 v4 v5 v6 hi2
  clear hi
  refine q_reg (gb_cmp rfl rfl trivial rfl hw fun v13 hw => g_endq [(0, ln eGSolve_Pick p1), (1, .func 60 [.ptr 0 0]), (7, ii (p1.length : Int)), (8, ii v6), (9, .bool v13)] rfl ?_)
  refine sc_seq (s_cond rfl hw (fun hw => ?_) (fun hw => ?_))
  · refine sc_skip (sq_n (sc_seq (sc_block (q_reg (st_mv rfl (st_mv rfl (g_endq [(0, ln eGSolve_Pick p1), (1, .func 60 [.ptr 0 0]), (5, ii v6), (7, ii (p1.length : Int)), (8, ii v6)] rfl ?_)))))))
    refine q_reg (st_mv rfl (st_mv rfl (st_mv rfl (g_iaddr enc_GSolve_Pick rfl rfl hw fun a14 hw => st_load_r (v := eGSolve_Pick a14) rfl rfl (khv hh rfl (g2 := fun r15 : Bool × GaUse => .bool r15.1) (H2 := fun r15 : Bool × GaUse => [.cells [.str r15.2.Name, ii r15.2.Low, ii r15.2.High]]) [0] [0] 1 0 (ec rfl en) hw fun r15 hw => g_endq [(0, ln eGSolve_Pick p1), (1, .func 60 [.ptr 0 0]), (5, ii v6), (7, ii (p1.length : Int)), (8, ii v6), (16, .bool r15.1)] rfl ?_)))))
    refine s_cond rfl hw (fun hw => ?_) (fun hw => ?_)
    · refine q_reg (st_mv rfl (st_mv rfl (g_endq [(4, ii v6)] rfl ?_)))
      exact sc_ret (bl_r (sq_r (lo_r (bl_r (sq_r (gr1 (g := zg29_60) (ho := zo29_60) [ii v6] hw (.inr rfl) ws))))))
    · refine sc_skip (bl_n (sq_n (s_reg (g_add rfl rfl hw fun v16 hw => st_mv rfl (g_end [(0, ln eGSolve_Pick p1), (1, .func 60 [.ptr 0 0]), (7, ii (p1.length : Int)), (8, ii v16)] rfl ?_)))))
      exact lo_n ⟨(r15.2.Name, r15.2.Low, r15.2.High, v16), hw.1⟩ hw.2 ws
  · refine sc_exit (sq_x (lo_x (bl_x (sq_n (q_reg (st_mv rfl (g_endq [(4, ii (-1 : Int))] rfl ?_)))))))
    exact sc_ret (gr1 (g := zg29_60) (ho := zo29_60) [ii (-1 : Int)] hw (.inr rfl) ws)
def hc84 : C := (.seq (.reg [oo 6 (.mv (.c (.int .i64 20)))] [0, 1, 2, 6]) (.seq (.reg [mo 10 6, oo 7 (.mv (.c (.int .i64 0))), mo 8 10] [0, 1, 2, 6, 7, 8]) (.seq (.block 0 (.loop (.seq (.seq (.reg [mo 11 8, mo 12 1, oo 13 (.bin .leq 11 12)] [0, 1, 2, 6, 7, 8, 13]) (.cond 13 .skip (.exit 0))) (.block 1 (.seq (.reg [mo 14 0, mo 15 7, mo 16 8, mo 17 2, co 18 (.call 91 [14, 15, 16, 17])] [0, 1, 2, 6, 8]) (.seq (.reg [mo 19 8, mo 7 19] [0, 1, 2, 6, 7, 8]) (.reg [mo 20 8, mo 21 6, oo 22 (.bin .add 20 21), mo 8 22] [0, 1, 2, 6, 7, 8]))))))) (.seq (.reg [mo 23 0, mo 24 7, mo 25 1, mo 26 2, co 27 (.call 91 [23, 24, 25, 26])] [0, 1, 2, 6]) (.block 2 (.loop (.seq (.seq (.reg [mo 28 6, mo 29 1, oo 30 (.bin .lss 28 29)] [0, 1, 2, 6, 30]) (.cond 30 .skip (.exit 2))) (.block 3 (.seq (.reg [mo 31 6, oo 32 (.bin .mul (.c (.int .i64 2)) 31), oo 7 (.mv (.c (.int .i64 0))), mo 8 32] [0, 1, 2, 6, 7, 8]) (.seq (.block 4 (.loop (.seq (.seq (.reg [mo 33 8, mo 34 1, oo 35 (.bin .leq 33 34)] [0, 1, 2, 6, 7, 8, 35]) (.cond 35 .skip (.exit 4))) (.block 5 (.seq (.reg [mo 36 0, mo 37 7, mo 38 7, mo 39 6, oo 40 (.bin .add 38 39), mo 41 8, mo 42 2, co 43 (.call 92 [36, 37, 40, 41, 42])] [0, 1, 2, 6, 8]) (.seq (.reg [mo 44 8, mo 7 44] [0, 1, 2, 6, 7, 8]) (.reg [mo 45 8, mo 46 6, oo 47 (.bin .mul (.c (.int .i64 2)) 46), oo 48 (.bin .add 45 47), mo 8 48] [0, 1, 2, 6, 7, 8]))))))) (.seq (.seq (.reg [mo 49 7, mo 50 6, oo 51 (.bin .add 49 50), mo 9 51] [0, 1, 2, 6, 7, 9]) (.seq (.reg [mo 52 9, mo 53 1, oo 54 (.bin .lss 52 53)] [0, 1, 2, 6, 7, 9, 54]) (.cond 54 (.reg [mo 55 0, mo 56 7, mo 57 9, mo 58 1, mo 59 2, co 60 (.call 92 [55, 56, 57, 58, 59])] [0, 1, 2, 6]) .skip))) (.reg [mo 61 6, oo 62 (.bin .mul 61 (.c (.int .i64 2))), mo 6 62] [0, 1, 2, 6]))))))))))))
def ha84 : Ann := ⟨[], [], [(0, [0, 1, 2, 6]), (1, [0, 1, 2, 6, 7, 8]), (2, [0, 1, 2, 6, 7, 8, 13]), (3, [0, 1, 2, 6, 8]), (4, [0, 1, 2, 6, 7, 8]), (5, [0, 1, 2, 6, 7, 8]), (6, [0, 1, 2, 6]), (7, [0, 1, 2, 6, 30]), (8, [0, 1, 2, 6, 7, 8]), (9, [0, 1, 2, 6, 7, 8, 35]), (10, [0, 1, 2, 6, 8]), (11, [0, 1, 2, 6, 7, 8]), (12, [0, 1, 2, 6, 7, 8]), (13, [0, 1, 2, 6, 7, 9]), (14, [0, 1, 2, 6, 7, 9, 54]), (15, [0, 1, 2, 6]), (16, [0, 1, 2, 6])], []⟩
theorem hk84 : comp Try.prog ha84 Try.f84.ntmps Try.f84.code = some hc84 := by kernel_rfl
def w84_63 (p1 : List (GSolve_Module)) (p2 : Int) (p3 : GSolve_search) (p4 : List UInt8) (Q : List (GSolve_Module) × GSolve_search × List UInt8 → Prop) : Prop :=
  ∃ (I15 : (List GSolve_Module) → (List GSolve_Pick) → (List GaUse) → (List GSolve_Module) → (List GSolve_Pick) → (List UInt8) → Int → Int → Prop) (M16 : (List GSolve_Module) → (List GSolve_Pick) → (List GaUse) → (List GSolve_Module) → (List GSolve_Pick) → (List UInt8) → Int → Int → Nat), I15 p1 p3.picks p3.wants p3.register p3.first p4 (0 : Int) (20 : Int) ∧ ∀ (v5 : List GSolve_Module) (v6 : List GSolve_Pick) (v7 : List GaUse) (v8 : List GSolve_Module) (v9 : List GSolve_Pick) (v10 : List UInt8) (v11 : Int) (v12 : Int), I15 v5 v6 v7 v8 v9 v10 v11 v12 → ((v12 ≤ p2 → (v5.length = p1.length ∧ ∃ r17 : List (GSolve_Module) × GSolve_search × List UInt8, sp91_63 v5 v11 v12 (GSolve_search.mk v8 v9 v6 v7) v10 r17 ∧ (R64 (v12 + (20 : Int))) ∧ ∀ v18 : Int, v18 = v12 + (20 : Int) → (I15 r17.1 r17.2.1.picks r17.2.1.wants r17.2.1.register r17.2.1.first r17.2.2 v12 v18 ∧ M16 r17.1 r17.2.1.picks r17.2.1.wants r17.2.1.register r17.2.1.first r17.2.2 v12 v18 < M16 v5 v6 v7 v8 v9 v10 v11 v12))) ∧ (p2 < v12 → (v5.length = p1.length ∧ ∃ r19 : List (GSolve_Module) × GSolve_search × List UInt8, sp91_63 v5 v11 p2 (GSolve_search.mk v8 v9 v6 v7) v10 r19 ∧ ∃ (I30 : Int → Prop) (M31 : Int → Nat), I30 (20 : Int) ∧ ∀ (v20 : Int), I30 v20 → ((v20 < p2 → (R64 ((2 : Int) * v20)) ∧ ∀ v32 : Int, v32 = (2 : Int) * v20 → ∃ (I36 : Int → Int → Prop) (M37 : Int → Int → Nat), I36 (0 : Int) v32 ∧ ∀ (v33 : Int) (v34 : Int), I36 v33 v34 → ((v34 ≤ p2 → (r19.1.length = p1.length ∧ (R64 (v33 + v20)) ∧ ∀ v38 : Int, v38 = v33 + v20 → False)) ∧ (p2 < v34 → (R64 (v33 + v20)) ∧ ∀ v39 : Int, v39 = v33 + v20 → ((v39 < p2 → (r19.1.length = p1.length ∧ False)) ∧ (p2 ≤ v39 → (R64 (v20 * (2 : Int))) ∧ ∀ v40 : Int, v40 = v20 * (2 : Int) → (I30 v40 ∧ M31 v40 < M31 v20)))))) ∧ (p2 ≤ v20 → Q (r19.1, (GSolve_search.mk r19.2.1.register r19.2.1.first r19.2.1.picks r19.2.1.wants), r19.2.2))))))
theorem ok84_63 (p1 : List (GSolve_Module)) (p2 : Int) (p3 : GSolve_search) (p4 : List UInt8) (r : List (GSolve_Module) × GSolve_search × List UInt8) (hw : w84_63 p1 p2 p3 p4 fun r' => r' = r) : sp84_63 p1 p2 p3 p4 r := by
  refine zh (rs := []) Try.func84 hk84 ?_
  unfold w84_63 at hw
  show SC Try.prog Try.f84.ntmps 6 hc84 _ [(0, .arr 0 0 p1.length 3), (1, ii p2), (2, .func 63 [.ptr 1 0, .ptr 5 0])] [GA eGSolve_Module p1, .cells [.ptr 2 0], .cells [ln eGSolve_Module p3.register, ln eGSolve_Pick p3.first, .arr 3 0 p3.picks.length 2, .arr 4 0 p3.wants.length 3], GA eGSolve_Pick p3.picks, GA eGaUse p3.wants, .cells [.str p4]]
  unfold hc84
  refine q_reg (st_mv rfl (g_endq [(0, .arr 0 0 p1.length 3), (1, ii p2), (2, .func 63 [.ptr 1 0, .ptr 5 0]), (6, ii 20)] rfl ?_))
  refine q_reg (st_mv rfl (st_mv rfl (st_mv rfl (g_endq [(0, .arr 0 0 p1.length 3), (1, ii p2), (2, .func 63 [.ptr 1 0, .ptr 5 0]), (6, ii 20), (7, ii 0), (8, ii 20)] rfl ?_))))
  refine sc_seq (sc_block ?_)
  obtain ⟨I15, M16, hi, hw⟩ := hw
  refine sc_loop (X := { x : List GSolve_Module × List GSolve_Pick × List GaUse × List GSolve_Module × List GSolve_Pick × List UInt8 × Int × Int // I15 x.1 x.2.1 x.2.2.1 x.2.2.2.1 x.2.2.2.2.1 x.2.2.2.2.2.1 x.2.2.2.2.2.2.1 x.2.2.2.2.2.2.2 }) (fun x => ([(0, .arr 0 0 p1.length 3), (1, ii p2), (2, .func 63 [.ptr 1 0, .ptr 5 0]), (6, ii 20), (7, ii x.1.2.2.2.2.2.2.1), (8, ii x.1.2.2.2.2.2.2.2)], [GA eGSolve_Module x.1.1, .cells [.ptr 2 0], .cells [ln eGSolve_Module x.1.2.2.2.1, ln eGSolve_Pick x.1.2.2.2.2.1, .arr 3 0 x.1.2.1.length 2, .arr 4 0 x.1.2.2.1.length 3], GA eGSolve_Pick x.1.2.1, GA eGaUse x.1.2.2.1, .cells [.str x.1.2.2.2.2.2.1]])) (fun x => M16 x.1.1 x.1.2.1 x.1.2.2.1 x.1.2.2.2.1 x.1.2.2.2.2.1 x.1.2.2.2.2.2.1 x.1.2.2.2.2.2.2.1 x.1.2.2.2.2.2.2.2) ⟨(p1, p3.picks, p3.wants, p3.register, p3.first, p4, (0 : Int), (20 : Int)), hi⟩ ws ?_
  rintro ⟨⟨v5, v6, v7, v8, v9, v10, v11, v12⟩, hi2⟩
  have hw := hw v5 v6 v7 v8 v9 v10 v11 v12 hi2
  clear hi
  refine sc_seq (q_reg (st_mv rfl (st_mv rfl (g_leq rfl rfl hw (fun hw => g_endq [(0, .arr 0 0 p1.length 3), (1, ii p2), (2, .func 63 [.ptr 1 0, .ptr 5 0]), (6, ii 20), (7, ii v11), (8, ii v12), (13, .bool true)] rfl ?_) (fun hw => g_endq [(0, .arr 0 0 p1.length 3), (1, ii p2), (2, .func 63 [.ptr 1 0, .ptr 5 0]), (6, ii 20), (7, ii v11), (8, ii v12), (13, .bool false)] rfl ?_)))))
  · refine s_cond_t rfl (sc_skip (sq_n (sc_block (q_reg (st_mv rfl (st_mv rfl (st_mv rfl (st_mv rfl (kh (hin := (ro_arr enc_GSolve_Module (fun a => (lfc rfl (lfc rfl (lfc rfl lfn)))) rfl (ro_cells rfl (rl_cons (.ptr _ _ _ rfl) rfl rl_nil) (ro_cells rfl (rl_cons (.pv _ (pv_lst enc_GSolve_Module _ _ (by simp))) rfl (rl_cons (.pv _ (pv_lst enc_GSolve_Pick _ _ (by simp))) rfl (rl_cons (rn_arr rfl) rfl (rl_cons (rn_arr rfl) rfl rl_nil)))) (ro_arr enc_GSolve_Pick (fun a => (lfc rfl (lfc rfl lfn))) rfl (ro_arr enc_GaUse (fun a => (lfc rfl (lfc rfl (lfc rfl lfn)))) rfl (ro_cells rfl (rl_cons (.pv _ (.str _)) rfl rl_nil) ro_nil))))))) (hback := fun _ => (ou_arr enc_GSolve_Module (fun a => (lfc rfl (lfc rfl (lfc rfl lfn)))) rfl (ou_cells rfl (rl_cons (.ptr _ _ _ rfl) rfl rl_nil) (ou_cells rfl (rl_cons (.pv _ (pv_lst enc_GSolve_Module _ _ (by simp))) rfl (rl_cons (.pv _ (pv_lst enc_GSolve_Pick _ _ (by simp))) rfl (rl_cons (rn_arr rfl) rfl (rl_cons (rn_arr rfl) rfl rl_nil)))) (ou_arr enc_GSolve_Pick (fun a => (lfc rfl (lfc rfl lfn))) rfl (ou_arr enc_GaUse (fun a => (lfc rfl (lfc rfl (lfc rfl lfn)))) rfl (ou_cells rfl (rl_cons (.pv _ (.str _)) rfl rl_nil) ou_nil))))))) (hargs := (ra_cons (rn_arrL hw.1 rfl) (ra_cons (.pv _ (.int _ _)) (ra_cons (.pv _ (.int _ _)) (ra_cons (Ren.fn (rf_cons (.ptr _ _ _ rfl) (rf_cons (.ptr _ _ _ rfl) rf_nil))) ra_nil))))) hh (g2 := fun r17 : List (GSolve_Module) × GSolve_search × List UInt8 => .tuple []) (H2 := fun r17 : List (GSolve_Module) × GSolve_search × List UInt8 => [GA eGSolve_Module r17.1, .cells [.ptr 2 0], .cells [ln eGSolve_Module r17.2.1.register, ln eGSolve_Pick r17.2.1.first, .arr 3 0 r17.2.1.picks.length 2, .arr 4 0 r17.2.1.wants.length 3], GA eGSolve_Pick r17.2.1.picks, GA eGaUse r17.2.1.wants, .cells [.str r17.2.2]]) [0, 1, 2, 3, 4, 5] [0, 1, 2, 3, 4, 5] 6 0 (ec rfl (ec rfl (ec rfl (ec rfl en)))) hw.2 fun r17 hw => g_endq [(0, .arr 0 0 p1.length 3), (1, ii p2), (2, .func 63 [.ptr 1 0, .ptr 5 0]), (6, ii 20), (8, ii v12)] rfl ?_)))))))))
    refine q_reg (st_mv rfl (st_mv rfl (g_endq [(0, .arr 0 0 p1.length 3), (1, ii p2), (2, .func 63 [.ptr 1 0, .ptr 5 0]), (6, ii 20), (7, ii v12), (8, ii v12)] rfl ?_)))
    refine s_reg (st_mv rfl (st_mv rfl (g_add rfl rfl hw fun v18 hw => st_mv rfl (g_end [(0, .arr 0 0 p1.length 3), (1, ii p2), (2, .func 63 [.ptr 1 0, .ptr 5 0]), (6, ii 20), (7, ii v12), (8, ii v18)] rfl ?_))))
    exact bl_n (lo_n ⟨(r17.1, r17.2.1.picks, r17.2.1.wants, r17.2.1.register, r17.2.1.first, r17.2.2, v12, v18), hw.1⟩ hw.2 ws)
  · refine s_cond_f rfl (sc_exit (sq_x (lo_x (bl_x (sq_n (q_reg (st_mv rfl (st_mv rfl (st_mv rfl (st_mv rfl (kh (hin := (ro_arr enc_GSolve_Module (fun a => (lfc rfl (lfc rfl (lfc rfl lfn)))) rfl (ro_cells rfl (rl_cons (.ptr _ _ _ rfl) rfl rl_nil) (ro_cells rfl (rl_cons (.pv _ (pv_lst enc_GSolve_Module _ _ (by simp))) rfl (rl_cons (.pv _ (pv_lst enc_GSolve_Pick _ _ (by simp))) rfl (rl_cons (rn_arr rfl) rfl (rl_cons (rn_arr rfl) rfl rl_nil)))) (ro_arr enc_GSolve_Pick (fun a => (lfc rfl (lfc rfl lfn))) rfl (ro_arr enc_GaUse (fun a => (lfc rfl (lfc rfl (lfc rfl lfn)))) rfl (ro_cells rfl (rl_cons (.pv _ (.str _)) rfl rl_nil) ro_nil))))))) (hback := fun _ => (ou_arr enc_GSolve_Module (fun a => (lfc rfl (lfc rfl (lfc rfl lfn)))) rfl (ou_cells rfl (rl_cons (.ptr _ _ _ rfl) rfl rl_nil) (ou_cells rfl (rl_cons (.pv _ (pv_lst enc_GSolve_Module _ _ (by simp))) rfl (rl_cons (.pv _ (pv_lst enc_GSolve_Pick _ _ (by simp))) rfl (rl_cons (rn_arr rfl) rfl (rl_cons (rn_arr rfl) rfl rl_nil)))) (ou_arr enc_GSolve_Pick (fun a => (lfc rfl (lfc rfl lfn))) rfl (ou_arr enc_GaUse (fun a => (lfc rfl (lfc rfl (lfc rfl lfn)))) rfl (ou_cells rfl (rl_cons (.pv _ (.str _)) rfl rl_nil) ou_nil))))))) (hargs := (ra_cons (rn_arrL hw.1 rfl) (ra_cons (.pv _ (.int _ _)) (ra_cons (.pv _ (.int _ _)) (ra_cons (Ren.fn (rf_cons (.ptr _ _ _ rfl) (rf_cons (.ptr _ _ _ rfl) rf_nil))) ra_nil))))) hh (g2 := fun r19 : List (GSolve_Module) × GSolve_search × List UInt8 => .tuple []) (H2 := fun r19 : List (GSolve_Module) × GSolve_search × List UInt8 => [GA eGSolve_Module r19.1, .cells [.ptr 2 0], .cells [ln eGSolve_Module r19.2.1.register, ln eGSolve_Pick r19.2.1.first, .arr 3 0 r19.2.1.picks.length 2, .arr 4 0 r19.2.1.wants.length 3], GA eGSolve_Pick r19.2.1.picks, GA eGaUse r19.2.1.wants, .cells [.str r19.2.2]]) [0, 1, 2, 3, 4, 5] [0, 1, 2, 3, 4, 5] 6 0 (ec rfl (ec rfl (ec rfl (ec rfl en)))) hw.2 fun r19 hw => g_endq [(0, .arr 0 0 p1.length 3), (1, ii p2), (2, .func 63 [.ptr 1 0, .ptr 5 0]), (6, ii 20)] rfl ?_)))))))))))
    refine sc_block ?_
    obtain ⟨I30, M31, hi, hw⟩ := hw
    refine sc_loop (X := { x : Int // I30 x }) (fun x => ([(0, .arr 0 0 p1.length 3), (1, ii p2), (2, .func 63 [.ptr 1 0, .ptr 5 0]), (6, ii x.1)], [GA eGSolve_Module r19.1, .cells [.ptr 2 0], .cells [ln eGSolve_Module r19.2.1.register, ln eGSolve_Pick r19.2.1.first, .arr 3 0 r19.2.1.picks.length 2, .arr 4 0 r19.2.1.wants.length 3], GA eGSolve_Pick r19.2.1.picks, GA eGaUse r19.2.1.wants, .cells [.str r19.2.2]])) (fun x => M31 x.1) ⟨(20 : Int), hi⟩ ws ?_
    rintro ⟨v20, hi2⟩
    have hw := hw v20 hi2
    clear hi
    refine sc_seq (q_reg (st_mv rfl (st_mv rfl (g_lss rfl rfl hw (fun hw => g_endq [(0, .arr 0 0 p1.length 3), (1, ii p2), (2, .func 63 [.ptr 1 0, .ptr 5 0]), (6, ii v20), (30, .bool true)] rfl ?_) (fun hw => g_endq [(0, .arr 0 0 p1.length 3), (1, ii p2), (2, .func 63 [.ptr 1 0, .ptr 5 0]), (6, ii v20), (30, .bool false)] rfl ?_)))))
    · refine s_cond_t rfl (sc_skip (sq_n (sc_block (q_reg (st_mv rfl (g_mul rfl rfl hw fun v32 hw => st_mv rfl (st_mv rfl (g_endq [(0, .arr 0 0 p1.length 3), (1, ii p2), (2, .func 63 [.ptr 1 0, .ptr 5 0]), (6, ii v20), (7, ii 0), (8, ii v32)] rfl ?_))))))))
      refine sc_seq (sc_block ?_)
      obtain ⟨I36, M37, hi, hw⟩ := hw
      refine sc_loop (X := { x : Int × Int // I36 x.1 x.2 }) (fun x => ([(0, .arr 0 0 p1.length 3), (1, ii p2), (2, .func 63 [.ptr 1 0, .ptr 5 0]), (6, ii v20), (7, ii x.1.1), (8, ii x.1.2)], [GA eGSolve_Module r19.1, .cells [.ptr 2 0], .cells [ln eGSolve_Module r19.2.1.register, ln eGSolve_Pick r19.2.1.first, .arr 3 0 r19.2.1.picks.length 2, .arr 4 0 r19.2.1.wants.length 3], GA eGSolve_Pick r19.2.1.picks, GA eGaUse r19.2.1.wants, .cells [.str r19.2.2]])) (fun x => M37 x.1.1 x.1.2) ⟨((0 : Int), v32), hi⟩ ws ?_
      rintro ⟨⟨v33, v34⟩, hi2⟩
      have hw := hw v33 v34 hi2
      clear hi
      refine sc_seq (q_reg (st_mv rfl (st_mv rfl (g_leq rfl rfl hw (fun hw => g_endq [(0, .arr 0 0 p1.length 3), (1, ii p2), (2, .func 63 [.ptr 1 0, .ptr 5 0]), (6, ii v20), (7, ii v33), (8, ii v34), (35, .bool true)] rfl ?_) (fun hw => g_endq [(0, .arr 0 0 p1.length 3), (1, ii p2), (2, .func 63 [.ptr 1 0, .ptr 5 0]), (6, ii v20), (7, ii v33), (8, ii v34), (35, .bool false)] rfl ?_)))))
      · refine s_cond_t rfl (sc_skip (sq_n (sc_block (SC.weak (w_freeze (l := r19.1) (h' := [.dead, .cells [.ptr 2 0], .cells [ln eGSolve_Module r19.2.1.register, ln eGSolve_Pick r19.2.1.first, .arr 3 0 r19.2.1.picks.length 2, .arr 4 0 r19.2.1.wants.length 3], GA eGSolve_Pick r19.2.1.picks, GA eGaUse r19.2.1.wants, .cells [.str r19.2.2]]) 0 enc_GSolve_Module rfl hw.1 rfl rfl) ?_))))
        replace hw := hw.2
        refine q_reg (st_mv rfl (st_mv rfl (st_mv rfl (st_mv rfl (g_add rfl rfl hw fun v38 hw => st_mv rfl (st_mv rfl (hw.elim)))))))
      · refine s_cond_f rfl (sc_exit (sq_x (lo_x (bl_x (sq_n (sc_seq (q_reg (st_mv rfl (st_mv rfl (g_add rfl rfl hw fun v39 hw => st_mv rfl (g_endq [(0, .arr 0 0 p1.length 3), (1, ii p2), (2, .func 63 [.ptr 1 0, .ptr 5 0]), (6, ii v20), (7, ii v33), (9, ii v39)] rfl ?_)))))))))))
        refine q_reg (st_mv rfl (st_mv rfl (g_lss rfl rfl hw (fun hw => g_endq [(0, .arr 0 0 p1.length 3), (1, ii p2), (2, .func 63 [.ptr 1 0, .ptr 5 0]), (6, ii v20), (7, ii v33), (9, ii v39), (54, .bool true)] rfl ?_) (fun hw => g_endq [(0, .arr 0 0 p1.length 3), (1, ii p2), (2, .func 63 [.ptr 1 0, .ptr 5 0]), (6, ii v20), (7, ii v33), (9, ii v39), (54, .bool false)] rfl ?_))))
        · refine s_cond_t rfl (SC.weak (w_freeze (l := r19.1) (h' := [.dead, .cells [.ptr 2 0], .cells [ln eGSolve_Module r19.2.1.register, ln eGSolve_Pick r19.2.1.first, .arr 3 0 r19.2.1.picks.length 2, .arr 4 0 r19.2.1.wants.length 3], GA eGSolve_Pick r19.2.1.picks, GA eGaUse r19.2.1.wants, .cells [.str r19.2.2]]) 0 enc_GSolve_Module rfl hw.1 rfl rfl) ?_)
          replace hw := hw.2
          refine s_reg (st_mv rfl (st_mv rfl (st_mv rfl (st_mv rfl (st_mv rfl (hw.elim))))))
        · refine s_cond_f rfl (sc_skip (sq_n (s_reg (st_mv rfl (g_mul rfl rfl hw fun v40 hw => st_mv rfl (g_end [(0, .arr 0 0 p1.length 3), (1, ii p2), (2, .func 63 [.ptr 1 0, .ptr 5 0]), (6, ii v40)] rfl ?_))))))
          exact bl_n (lo_n ⟨v40, hw.1⟩ hw.2 ws)
    · exact s_cond_f rfl (sc_exit (sq_x (lo_x (bl_x (gr1 (g := zg84_63) (ho := zo84_63) [] hw (.inl rfl) ws)))))
def hc86 : C := (.seq (.reg [oo 4 (.mv (.c (.int .i64 0)))] [0, 1]) (.seq (.seq (.reg [mo 6 0, oo 7 (.len false 6), oo 8 (.mv (.c (.int .i64 0)))] [0, 1, 7, 8]) (.block 0 (.loop (.seq (.reg [oo 9 (.bin .lss 8 7)] [0, 1, 7, 8, 9]) (.seq (.cond 9 .skip (.exit 0)) (.seq (.block 1 (.seq (.reg [mo 10 8, mo 5 10] [0, 1, 5, 7, 8]) (.seq (.reg [mo 11 1, mo 12 0, mo 13 5, oo 14 (.iaddr 3 12 13), oo 15 (.load (some 3) 14), co 16 (.callv 11 [15])] [0, 1, 5, 7, 8, 16]) (.cond 16 (.seq (.reg [mo 17 5, mo 4 17] [4]) .ret) .skip)))) (.reg [oo 18 (.bin .add 8 (.c (.int .i64 1))), mo 8 18] [0, 1, 7, 8]))))))) (.seq (.reg [oo 4 (.mv (.c (.int .i64 (-1))))] [4]) .ret)))
def ha86 : Ann := ⟨[], [30, 46, 60, 63, 66, 67, 83, 999999], [(0, [0, 1]), (1, [0, 1, 7, 8]), (2, [0, 1, 7, 8, 9]), (3, [0, 1, 5, 7, 8]), (4, [0, 1, 5, 7, 8, 16]), (5, [4]), (6, [0, 1, 7, 8]), (7, [4])], []⟩
theorem hk86 : comp Try.prog ha86 Try.f86.ntmps Try.f86.code = some hc86 := by kernel_rfl
def w86_66_q (p1 : List (GaUse)) (p2 : GSolve_search) (Q : Int × GSolve_search → Prop) : Prop :=
  ∃ (I12 : (List GSolve_Module) → (List GSolve_Pick) → (List GSolve_Pick) → (List GaUse) → Int → Prop) (M13 : (List GSolve_Module) → (List GSolve_Pick) → (List GSolve_Pick) → (List GaUse) → Int → Nat), I12 p2.register p2.first p2.picks p2.wants (0 : Int) ∧ ∀ (v3 : List GSolve_Module) (v4 : List GSolve_Pick) (v5 : List GSolve_Pick) (v6 : List GaUse) (v7 : Int), I12 v3 v4 v5 v6 v7 → ∀ v14 : Bool, v14 = decide (v7 < (p1.length : Int)) → ((v14 = true → (0 ≤ v7 ∧ v7 < (p1.length : Int)) ∧ ∀ a15 : GaUse, p1[(v7 : Int).toNat]? = some a15 → ∃ r16 : Bool × GSolve_search, sp66_q a15 (GSolve_search.mk v3 v4 v5 v6) r16 ∧ ((r16.1 = true → Q (v7, r16.2)) ∧ (r16.1 = false → (R64 (v7 + (1 : Int))) ∧ ∀ v17 : Int, v17 = v7 + (1 : Int) → (I12 r16.2.register r16.2.first r16.2.picks r16.2.wants v17 ∧ M13 r16.2.register r16.2.first r16.2.picks r16.2.wants v17 < M13 v3 v4 v5 v6 v7)))) ∧ (v14 = false → Q ((-1 : Int), (GSolve_search.mk v3 v4 v5 v6))))
theorem ok86_66_q (p1 : List (GaUse)) (p2 : GSolve_search) (r : Int × GSolve_search) (hw : w86_66_q p1 p2 fun r' => r' = r) : sp86_66_q p1 p2 r := by
  refine zh (rs := [.t 4]) Try.func86 hk86 ?_
  unfold w86_66_q at hw
  show SC Try.prog Try.f86.ntmps 1 hc86 _ [(0, ln eGaUse p1), (1, .func 66 [.ptr 0 0])] [.cells [.rptr (HV.cells (eGSolve_search p2))]]
  unfold hc86
  refine q_reg (st_mv rfl (g_endq [(0, ln eGaUse p1), (1, .func 66 [.ptr 0 0])] rfl ?_))
  refine sc_seq (q_reg (st_mv rfl (g_len rfl (st_mv rfl (g_endq [(0, ln eGaUse p1), (1, .func 66 [.ptr 0 0]), (7, ii (p1.length : Int)), (8, ii 0)] rfl ?_)))))
  refine sc_block ?_
  obtain ⟨I12, M13, hi, hw⟩ := hw
  refine sc_loop (X := { x : List GSolve_Module × List GSolve_Pick × List GSolve_Pick × List GaUse × Int // I12 x.1 x.2.1 x.2.2.1 x.2.2.2.1 x.2.2.2.2 }) (fun x => ([(0, ln eGaUse p1), (1, .func 66 [.ptr 0 0]), (7, ii (p1.length : Int)), (8, ii x.1.2.2.2.2)], [.cells [.rptr [ln eGSolve_Module x.1.1, ln eGSolve_Pick x.1.2.1, ln eGSolve_Pick x.1.2.2.1, ln eGaUse x.1.2.2.2.1]]])) (fun x => M13 x.1.1 x.1.2.1 x.1.2.2.1 x.1.2.2.2.1 x.1.2.2.2.2) ⟨(p2.register, p2.first, p2.picks, p2.wants, (0 : Int)), hi⟩ ws ?_
  rintro ⟨⟨v3, v4, v5, v6, v7⟩, hi2⟩
  have hw := hw v3 v4 v5 v6 v7 hi2
  clear hi
  refine q_reg (gb_cmp rfl rfl trivial rfl hw fun v14 hw => g_endq [(0, ln eGaUse p1), (1, .func 66 [.ptr 0 0]), (7, ii (p1.length : Int)), (8, ii v7), (9, .bool v14)] rfl ?_)
  refine sc_seq (s_cond rfl hw (fun hw => ?_) (fun hw => ?_))
  · refine sc_skip (sq_n (sc_seq (sc_block (q_reg (st_mv rfl (st_mv rfl (g_endq [(0, ln eGaUse p1), (1, .func 66 [.ptr 0 0]), (5, ii v7), (7, ii (p1.length : Int)), (8, ii v7)] rfl ?_)))))))
    refine q_reg (st_mv rfl (st_mv rfl (st_mv rfl (g_iaddr enc_GaUse rfl rfl hw fun a15 hw => st_load_r (v := eGaUse a15) rfl rfl (khv hh rfl (g2 := fun r16 : Bool × GSolve_search => .bool r16.1) (H2 := fun r16 : Bool × GSolve_search => [.cells [.rptr (HV.cells (eGSolve_search r16.2))]]) [0] [0] 1 0 (ec rfl en) hw fun r16 hw => g_endq [(0, ln eGaUse p1), (1, .func 66 [.ptr 0 0]), (5, ii v7), (7, ii (p1.length : Int)), (8, ii v7), (16, .bool r16.1)] rfl ?_)))))
    refine s_cond rfl hw (fun hw => ?_) (fun hw => ?_)
    · refine q_reg (st_mv rfl (st_mv rfl (g_endq [(4, ii v7)] rfl ?_)))
      exact sc_ret (bl_r (sq_r (lo_r (bl_r (sq_r (gr1 (g := zg86_66_q) (ho := zo86_66_q) [ii v7] hw (.inr rfl) ws))))))
    · refine sc_skip (bl_n (sq_n (s_reg (g_add rfl rfl hw fun v17 hw => st_mv rfl (g_end [(0, ln eGaUse p1), (1, .func 66 [.ptr 0 0]), (7, ii (p1.length : Int)), (8, ii v17)] rfl ?_)))))
      exact lo_n ⟨(r16.2.register, r16.2.first, r16.2.picks, r16.2.wants, v17), hw.1⟩ hw.2 ws
  · refine sc_exit (sq_x (lo_x (bl_x (sq_n (q_reg (st_mv rfl (g_endq [(4, ii (-1 : Int))] rfl ?_)))))))
    exact sc_ret (gr1 (g := zg86_66_q) (ho := zo86_66_q) [ii (-1 : Int)] hw (.inr rfl) ws)
def hc68 : C := (.seq (.reg [mo 10 1, oo 11 (.bin .add 10 (.c (.int .i64 1))), mo 8 11] [0, 1, 2, 3, 8]) (.block 0 (.loop (.seq (.seq (.reg [mo 12 8, mo 13 2, oo 14 (.bin .lss 12 13)] [0, 1, 2, 3, 8, 14]) (.cond 14 .skip (.exit 0))) (.seq (.block 1 (.seq (.reg [mo 17 8, mo 9 17] [0, 1, 2, 3, 8, 9]) (.block 2 (.loop (.seq (.seq (.dreg [mo 18 9, mo 19 1, oo 20 (.bin .gtr 18 19), mo 21 20, og 22 (.mv 3) 21 true, og 23 (.mv 0) 21 true, og 24 (.mv 9) 21 true, og 25 (.iaddr 2 23 24) 21 true, og 26 (.load (some 2) 25) 21 true, og 27 (.mv 0) 21 true, og 28 (.mv 9) 21 true, og 29 (.bin .sub 28 (.c (.int .i64 1))) 21 true, og 30 (.iaddr 2 27 29) 21 true, og 31 (.load (some 2) 30) 21 true] [cg 32 (.callv 22 [26, 31]) 21 true, og 33 (.bin .lss 32 (.c (.int .i64 0))) 21 true, oo 34 (.pick 21 33 (.c (.bool false)))] 0 [0, 1, 2, 3, 8, 9, 34]) (.cond 34 .skip (.exit 2))) (.seq (.block 3 (.dreg [mo 37 0, mo 38 9, mo 39 0, mo 40 9, oo 41 (.bin .sub 40 (.c (.int .i64 1))), mo 42 0, mo 43 9, oo 44 (.bin .sub 43 (.c (.int .i64 1))), oo 45 (.iaddr 2 42 44), oo 46 (.load (some 2) 45), mo 47 0, mo 48 9, oo 49 (.iaddr 2 47 48), oo 50 (.load (some 2) 49), oo 51 (.iaddr 2 37 38), os (.store 2 51 46), oo 52 (.iaddr 2 39 41), os (.store 2 52 50)] [] 0 [0, 1, 2, 3, 8, 9])) (.reg [mo 35 9, oo 36 (.bin .sub 35 (.c (.int .i64 1))), mo 9 36] [0, 1, 2, 3, 8, 9]))))))) (.reg [mo 15 8, oo 16 (.bin .add 15 (.c (.int .i64 1))), mo 8 16] [0, 1, 2, 3, 8]))))))
def ha68 : Ann := ⟨[], [30, 46, 60, 63, 66, 67, 83, 999999], [(0, [0, 1, 2, 3, 8]), (1, [0, 1, 2, 3, 8, 14]), (3, [0, 1, 2, 3, 8, 9]), (4, [0, 1, 2, 3, 8, 9, 34]), (6, [0, 1, 2, 3, 8, 9]), (5, [0, 1, 2, 3, 8, 9]), (2, [0, 1, 2, 3, 8])], []⟩
theorem hk68 : comp Try.prog ha68 Try.f68.ntmps Try.f68.code = some hc68 := by kernel_rfl
def w68_24 (p1 : List (GSolve_Pick)) (p2 : Int) (p3 : Int) (Q : List (GSolve_Pick) → Prop) : Prop :=
  (R64 (p2 + (1 : Int))) ∧ ∀ v4 : Int, v4 = p2 + (1 : Int) → ∃ (I45 : (List GSolve_Pick) → Int → Prop) (M46 : (List GSolve_Pick) → Int → Nat), I45 p1 v4 ∧ ∀ (v5 : List GSolve_Pick) (v6 : Int), I45 v5 v6 → ((v6 < p3 → ∃ J49 : (List GSolve_Pick) → Int → Prop, (∃ (I67 : (List GSolve_Pick) → Int → Prop) (M68 : (List GSolve_Pick) → Int → Nat), I67 v5 v6 ∧ ∀ (v50 : List GSolve_Pick) (v51 : Int), I67 v50 v51 → ((p2 < v51 → ((0 ≤ v51 ∧ v51 < (p1.length : Int)) ∧ v51.toNat < v50.length ∧ ∀ a69 : GSolve_Pick, v50[v51.toNat]? = some a69 → (R64 (v51 - (1 : Int))) ∧ ∀ v71 : Int, v71 = v51 - (1 : Int) → ((0 ≤ v71 ∧ v71 < (p1.length : Int)) ∧ v71.toNat < v50.length ∧ ∀ a72 : GSolve_Pick, v50[v71.toNat]? = some a72 → ∃ r74 : Int, sp24 a69 a72 r74 ∧ ((r74 < (0 : Int) → (R64 (v51 - (1 : Int))) ∧ ∀ v75 : Int, v75 = v51 - (1 : Int) → (R64 (v51 - (1 : Int))) ∧ ∀ v76 : Int, v76 = v51 - (1 : Int) → ((0 ≤ v76 ∧ v76 < (p1.length : Int)) ∧ v76.toNat < v50.length ∧ ∀ a77 : GSolve_Pick, v50[v76.toNat]? = some a77 → ((0 ≤ v51 ∧ v51 < (p1.length : Int)) ∧ v51.toNat < v50.length ∧ ∀ a79 : GSolve_Pick, v50[v51.toNat]? = some a79 → ((0 ≤ v51 ∧ v51 < (p1.length : Int)) ∧ (v51.toNat < v50.length ∧ ∀ a : GSolve_Pick, v50[v51.toNat]? = some a → ∀ v81 : List GSolve_Pick, v81 = v50.set v51.toNat a77 → ((0 ≤ v75 ∧ v75 < (p1.length : Int)) ∧ (v75.toNat < v81.length ∧ ∀ a : GSolve_Pick, v81[v75.toNat]? = some a → ∀ v82 : List GSolve_Pick, v82 = v81.set v75.toNat a79 → (R64 (v51 - (1 : Int))) ∧ ∀ v83 : Int, v83 = v51 - (1 : Int) → (I67 v82 v83 ∧ M68 v82 v83 < M68 v50 v51)))))))) ∧ ((0 : Int) ≤ r74 → J49 v50 v51))))) ∧ (v51 ≤ p2 → J49 v50 v51))) ∧ ∀ (v47 : List GSolve_Pick) (v48 : Int), J49 v47 v48 → (R64 (v6 + (1 : Int))) ∧ ∀ v84 : Int, v84 = v6 + (1 : Int) → (I45 v47 v84 ∧ M46 v47 v84 < M46 v5 v6)) ∧ (p3 ≤ v6 → Q v5))
theorem ok68_24 (p1 : List (GSolve_Pick)) (p2 : Int) (p3 : Int) (r : List (GSolve_Pick)) (hw : w68_24 p1 p2 p3 fun r' => r' = r) : sp68_24 p1 p2 p3 r := by
  refine zh (rs := []) Try.func68 hk68 ?_
  unfold w68_24 at hw
  show SC Try.prog Try.f68.ntmps 1 hc68 _ [(0, .arr 0 0 p1.length 2), (1, ii p2), (2, ii p3), (3, .func 24 [])] [GA eGSolve_Pick p1]
  unfold hc68
  refine q_reg (st_mv rfl (g_add rfl rfl hw fun v4 hw => st_mv rfl (g_endq [(0, .arr 0 0 p1.length 2), (1, ii p2), (2, ii p3), (3, .func 24 []), (8, ii v4)] rfl ?_)))
  refine sc_block ?_
  obtain ⟨I45, M46, hi, hw⟩ := hw
  refine sc_loop (X := { x : List GSolve_Pick × Int // I45 x.1 x.2 }) (fun x => ([(0, .arr 0 0 p1.length 2), (1, ii p2), (2, ii p3), (3, .func 24 []), (8, ii x.1.2)], [GA eGSolve_Pick x.1.1])) (fun x => M46 x.1.1 x.1.2) ⟨(p1, v4), hi⟩ ws ?_
  rintro ⟨⟨v5, v6⟩, hi2⟩
  have hw := hw v5 v6 hi2
  clear hi
  refine sc_seq (q_reg (st_mv rfl (st_mv rfl (g_lss rfl rfl hw (fun hw => g_endq [(0, .arr 0 0 p1.length 2), (1, ii p2), (2, ii p3), (3, .func 24 []), (8, ii v6), (14, .bool true)] rfl ?_) (fun hw => g_endq [(0, .arr 0 0 p1.length 2), (1, ii p2), (2, ii p3), (3, .func 24 []), (8, ii v6), (14, .bool false)] rfl ?_)))))
  · refine s_cond_t rfl (sc_skip (sq_n ?_))
    obtain ⟨J49, hw, hk⟩ := hw
    refine sc_join (A := List GSolve_Pick × Int) (fun x => J49 x.1 x.2) (fun x => ([(0, .arr 0 0 p1.length 2), (1, ii p2), (2, ii p3), (3, .func 24 []), (8, ii v6), (9, ii x.2), (34, .bool false)], [GA eGSolve_Pick x.1])) ?_ ?_
    · rintro ⟨v47, v48⟩ hj
      have hw := hk v47 v48 hj
      clear hk hj
      refine s_reg (st_mv rfl (g_add rfl rfl hw fun v84 hw => st_mv rfl (g_end [(0, .arr 0 0 p1.length 2), (1, ii p2), (2, ii p3), (3, .func 24 []), (8, ii v84)] rfl ?_)))
      exact lo_n ⟨(v47, v84), hw.1⟩ hw.2 ws
    · clear hk
      refine sc_block (q_reg (st_mv rfl (st_mv rfl (g_endq [(0, .arr 0 0 p1.length 2), (1, ii p2), (2, ii p3), (3, .func 24 []), (8, ii v6), (9, ii v6)] rfl ?_))))
      refine sc_block ?_
      obtain ⟨I67, M68, hi, hw⟩ := hw
      refine sc_loop (X := { x : List GSolve_Pick × Int // I67 x.1 x.2 }) (fun x => ([(0, .arr 0 0 p1.length 2), (1, ii p2), (2, ii p3), (3, .func 24 []), (8, ii v6), (9, ii x.1.2)], [GA eGSolve_Pick x.1.1])) (fun x => M68 x.1.1 x.1.2) ⟨(v5, v6), hi⟩ ws ?_
      rintro ⟨⟨v50, v51⟩, hi2⟩
      have hw := hw v50 v51 hi2
      clear hi
      refine sc_seq (sc_seq (s_dreg Try.mixed rfl (st_mv rfl (st_mv rfl (g_gtr rfl rfl hw (fun hw => st_mv rfl (st_g rfl (st_mv rfl (st_g rfl (st_mv rfl (st_g rfl (st_mv rfl (st_g rfl (g_iaA rfl rfl hw fun hw => st_g rfl (g_ldA (f := eGSolve_Pick) (q := v51) (sub := 0) (l := v50) (g := fun a69 => eGSolve_Pick a69) enc_GSolve_Pick rfl rfl (by decide) rfl (fun _ => rfl) hw fun a69 hw => st_g rfl (st_mv rfl (st_g rfl (st_mv rfl (st_g rfl (g_sub rfl rfl hw fun v71 hw => st_g rfl (g_iaA rfl rfl hw fun hw => st_g rfl (g_ldA (f := eGSolve_Pick) (q := v71) (sub := 0) (l := v50) (g := fun a72 => eGSolve_Pick a72) enc_GSolve_Pick rfl rfl (by decide) rfl (fun _ => rfl) hw fun a72 hw => st_mid (st_g rfl (k_callv dh rfl (ec rfl (ec rfl en)) rfl hw fun r74 hw => st_g rfl (g_lss rfl rfl hw (fun hw => st_pick_t rfl rfl rfl (g_end [(0, .arr 0 0 p1.length 2), (1, ii p2), (2, ii p3), (3, .func 24 []), (8, ii v6), (9, ii v51), (34, .bool true)] rfl ?_)) (fun hw => st_pick_t rfl rfl rfl (g_end [(0, .arr 0 0 p1.length 2), (1, ii p2), (2, ii p3), (3, .func 24 []), (8, ii v6), (9, ii v51), (34, .bool false)] rfl ?_)))))))))))))))))))))) (fun hw => st_mv rfl (st_gft rfl (st_gft rfl (st_gft rfl (st_gft rfl (st_gft rfl (st_gft rfl (st_gft rfl (st_gft rfl (st_gft rfl (st_gft rfl (st_mid (st_gft rfl (st_gft rfl (st_pick_f rfl rfl rfl (g_end [(0, .arr 0 0 p1.length 2), (1, ii p2), (2, ii p3), (3, .func 24 []), (8, ii v6), (9, ii v51), (34, .bool false)] rfl ?_)))))))))))))))))))))
      · refine sq_n (s_cond_t rfl (sc_skip (sq_n (sc_seq (sc_block (s_dreg Try.mixed rfl (st_mv rfl (st_mv rfl (st_mv rfl (st_mv rfl (g_sub rfl rfl hw fun v75 hw => st_mv rfl (st_mv rfl (g_sub rfl rfl hw fun v76 hw => g_iaA rfl rfl hw fun hw => g_ldA (f := eGSolve_Pick) (q := v76) (sub := 0) (l := v50) (g := fun a77 => eGSolve_Pick a77) enc_GSolve_Pick rfl rfl (by decide) rfl (fun _ => rfl) hw fun a77 hw => st_mv rfl (st_mv rfl (g_iaA rfl rfl hw fun hw => g_ldA (f := eGSolve_Pick) (q := v51) (sub := 0) (l := v50) (g := fun a79 => eGSolve_Pick a79) enc_GSolve_Pick rfl rfl (by decide) rfl (fun _ => rfl) hw fun a79 hw => g_iaA rfl rfl hw fun hw => g_stA (q := v51) (sub := 0) (l := v50) (u := fun _ => a77) (v := eGSolve_Pick a77) enc_GSolve_Pick rfl rfl rfl rfl rfl (by decide) rfl (fun a => rfl) hw (fun z => [GA eGSolve_Pick z]) (fun _ => rfl) fun v81 hw => g_iaA rfl rfl hw fun hw => g_stA (q := v75) (sub := 0) (l := v81) (u := fun _ => a79) (v := eGSolve_Pick a79) enc_GSolve_Pick rfl rfl rfl rfl rfl (by decide) rfl (fun a => rfl) hw (fun z => [GA eGSolve_Pick z]) (fun _ => rfl) fun v82 hw => st_mid (g_end [(0, .arr 0 0 p1.length 2), (1, ii p2), (2, ii p3), (3, .func 24 []), (8, ii v6), (9, ii v51)] rfl ?_))))))))))))))))
        refine bl_n (sq_n (s_reg (st_mv rfl (g_sub rfl rfl hw fun v83 hw => st_mv rfl (g_end [(0, .arr 0 0 p1.length 2), (1, ii p2), (2, ii p3), (3, .func 24 []), (8, ii v6), (9, ii v83)] rfl ?_)))))
        exact lo_n ⟨(v82, v83), hw.1⟩ hw.2 ws
      · exact sq_n (s_cond_f rfl (sc_exit (sq_x (lo_x (bl_x (bl_n (jo_n (v50, v51) hw ws)))))))
      · exact sq_n (s_cond_f rfl (sc_exit (sq_x (lo_x (bl_x (bl_n (jo_n (v50, v51) hw ws)))))))
  · exact s_cond_f rfl (sc_exit (sq_x (lo_x (bl_x (gr1 (g := zg68_24) (ho := zo68_24) [] hw (.inl rfl) ws)))))
def hc91 : C := (.seq (.reg [mo 10 1, oo 11 (.bin .add 10 (.c (.int .i64 1))), mo 8 11] [0, 1, 2, 3, 8]) (.block 0 (.loop (.seq (.seq (.reg [mo 12 8, mo 13 2, oo 14 (.bin .lss 12 13)] [0, 1, 2, 3, 8, 14]) (.cond 14 .skip (.exit 0))) (.seq (.block 1 (.seq (.reg [mo 17 8, mo 9 17] [0, 1, 2, 3, 8, 9]) (.block 2 (.loop (.seq (.seq (.dreg [mo 18 9, mo 19 1, oo 20 (.bin .gtr 18 19), mo 21 20, og 22 (.mv 3) 21 true, og 23 (.mv 0) 21 true, og 24 (.mv 9) 21 true, og 25 (.iaddr 3 23 24) 21 true, og 26 (.load (some 3) 25) 21 true, og 27 (.mv 0) 21 true, og 28 (.mv 9) 21 true, og 29 (.bin .sub 28 (.c (.int .i64 1))) 21 true, og 30 (.iaddr 3 27 29) 21 true, og 31 (.load (some 3) 30) 21 true] [cg 32 (.callv 22 [26, 31]) 21 true, og 33 (.bin .lss 32 (.c (.int .i64 0))) 21 true, oo 34 (.pick 21 33 (.c (.bool false)))] 0 [0, 1, 2, 3, 8, 9, 34]) (.cond 34 .skip (.exit 2))) (.seq (.block 3 (.dreg [mo 37 0, mo 38 9, mo 39 0, mo 40 9, oo 41 (.bin .sub 40 (.c (.int .i64 1))), mo 42 0, mo 43 9, oo 44 (.bin .sub 43 (.c (.int .i64 1))), oo 45 (.iaddr 3 42 44), oo 46 (.load (some 3) 45), mo 47 0, mo 48 9, oo 49 (.iaddr 3 47 48), oo 50 (.load (some 3) 49), oo 51 (.iaddr 3 37 38), os (.store 3 51 46), oo 52 (.iaddr 3 39 41), os (.store 3 52 50)] [] 0 [0, 1, 2, 3, 8, 9])) (.reg [mo 35 9, oo 36 (.bin .sub 35 (.c (.int .i64 1))), mo 9 36] [0, 1, 2, 3, 8, 9]))))))) (.reg [mo 15 8, oo 16 (.bin .add 15 (.c (.int .i64 1))), mo 8 16] [0, 1, 2, 3, 8]))))))
def ha91 : Ann := ⟨[], [30, 46, 60, 63, 66, 67, 83, 999999], [(0, [0, 1, 2, 3, 8]), (1, [0, 1, 2, 3, 8, 14]), (3, [0, 1, 2, 3, 8, 9]), (4, [0, 1, 2, 3, 8, 9, 34]), (6, [0, 1, 2, 3, 8, 9]), (5, [0, 1, 2, 3, 8, 9]), (2, [0, 1, 2, 3, 8])], []⟩
theorem hk91 : comp Try.prog ha91 Try.f91.ntmps Try.f91.code = some hc91 := by kernel_rfl
def w91_63 (p1 : List (GSolve_Module)) (p2 : Int) (p3 : Int) (p4 : GSolve_search) (p5 : List UInt8) (Q : List (GSolve_Module) × GSolve_search × List UInt8 → Prop) : Prop :=
  (R64 (p2 + (1 : Int))) ∧ ∀ v6 : Int, v6 = p2 + (1 : Int) → ∃ (I62 : (List GSolve_Module) → (List GSolve_Pick) → (List GaUse) → (List GSolve_Module) → (List GSolve_Pick) → (List UInt8) → Int → Prop) (M63 : (List GSolve_Module) → (List GSolve_Pick) → (List GaUse) → (List GSolve_Module) → (List GSolve_Pick) → (List UInt8) → Int → Nat), I62 p1 p4.picks p4.wants p4.register p4.first p5 v6 ∧ ∀ (v7 : List GSolve_Module) (v8 : List GSolve_Pick) (v9 : List GaUse) (v10 : List GSolve_Module) (v11 : List GSolve_Pick) (v12 : List UInt8) (v13 : Int), I62 v7 v8 v9 v10 v11 v12 v13 → ((v13 < p3 → ∃ J71 : (List GSolve_Module) → (List GSolve_Pick) → (List GaUse) → (List GSolve_Module) → (List GSolve_Pick) → (List UInt8) → Int → Prop, (∃ (I94 : (List GSolve_Module) → (List GSolve_Pick) → (List GaUse) → (List GSolve_Module) → (List GSolve_Pick) → (List UInt8) → Int → Prop) (M95 : (List GSolve_Module) → (List GSolve_Pick) → (List GaUse) → (List GSolve_Module) → (List GSolve_Pick) → (List UInt8) → Int → Nat), I94 v7 v8 v9 v10 v11 v12 v13 ∧ ∀ (v72 : List GSolve_Module) (v73 : List GSolve_Pick) (v74 : List GaUse) (v75 : List GSolve_Module) (v76 : List GSolve_Pick) (v77 : List UInt8) (v78 : Int), I94 v72 v73 v74 v75 v76 v77 v78 → ((p2 < v78 → ((0 ≤ v78 ∧ v78 < (p1.length : Int)) ∧ v78.toNat < v72.length ∧ ∀ a96 : GSolve_Module, v72[v78.toNat]? = some a96 → (R64 (v78 - (1 : Int))) ∧ ∀ v98 : Int, v98 = v78 - (1 : Int) → ((0 ≤ v98 ∧ v98 < (p1.length : Int)) ∧ v98.toNat < v72.length ∧ ∀ a99 : GSolve_Module, v72[v98.toNat]? = some a99 → ∃ r101 : Int × GSolve_search × List UInt8, sp63 a96 a99 (GSolve_search.mk v75 v76 v73 v74) v77 r101 ∧ ((r101.1 < (0 : Int) → (R64 (v78 - (1 : Int))) ∧ ∀ v102 : Int, v102 = v78 - (1 : Int) → (R64 (v78 - (1 : Int))) ∧ ∀ v103 : Int, v103 = v78 - (1 : Int) → ((0 ≤ v103 ∧ v103 < (p1.length : Int)) ∧ v103.toNat < v72.length ∧ ∀ a104 : GSolve_Module, v72[v103.toNat]? = some a104 → ((0 ≤ v78 ∧ v78 < (p1.length : Int)) ∧ v78.toNat < v72.length ∧ ∀ a106 : GSolve_Module, v72[v78.toNat]? = some a106 → ((0 ≤ v78 ∧ v78 < (p1.length : Int)) ∧ (v78.toNat < v72.length ∧ ∀ a : GSolve_Module, v72[v78.toNat]? = some a → ∀ v108 : List GSolve_Module, v108 = v72.set v78.toNat a104 → ((0 ≤ v102 ∧ v102 < (p1.length : Int)) ∧ (v102.toNat < v108.length ∧ ∀ a : GSolve_Module, v108[v102.toNat]? = some a → ∀ v109 : List GSolve_Module, v109 = v108.set v102.toNat a106 → (R64 (v78 - (1 : Int))) ∧ ∀ v110 : Int, v110 = v78 - (1 : Int) → (I94 v109 r101.2.1.picks r101.2.1.wants r101.2.1.register r101.2.1.first r101.2.2 v110 ∧ M95 v109 r101.2.1.picks r101.2.1.wants r101.2.1.register r101.2.1.first r101.2.2 v110 < M95 v72 v73 v74 v75 v76 v77 v78)))))))) ∧ ((0 : Int) ≤ r101.1 → J71 v72 r101.2.1.picks r101.2.1.wants r101.2.1.register r101.2.1.first r101.2.2 v78))))) ∧ (v78 ≤ p2 → J71 v72 v73 v74 v75 v76 v77 v78))) ∧ ∀ (v64 : List GSolve_Module) (v65 : List GSolve_Pick) (v66 : List GaUse) (v67 : List GSolve_Module) (v68 : List GSolve_Pick) (v69 : List UInt8) (v70 : Int), J71 v64 v65 v66 v67 v68 v69 v70 → (R64 (v13 + (1 : Int))) ∧ ∀ v111 : Int, v111 = v13 + (1 : Int) → (I62 v64 v65 v66 v67 v68 v69 v111 ∧ M63 v64 v65 v66 v67 v68 v69 v111 < M63 v7 v8 v9 v10 v11 v12 v13)) ∧ (p3 ≤ v13 → Q (v7, (GSolve_search.mk v10 v11 v8 v9), v12)))
theorem ok91_63 (p1 : List (GSolve_Module)) (p2 : Int) (p3 : Int) (p4 : GSolve_search) (p5 : List UInt8) (r : List (GSolve_Module) × GSolve_search × List UInt8) (hw : w91_63 p1 p2 p3 p4 p5 fun r' => r' = r) : sp91_63 p1 p2 p3 p4 p5 r := by
  refine zh (rs := []) Try.func91 hk91 ?_
  unfold w91_63 at hw
  show SC Try.prog Try.f91.ntmps 6 hc91 _ [(0, .arr 0 0 p1.length 3), (1, ii p2), (2, ii p3), (3, .func 63 [.ptr 1 0, .ptr 5 0])] [GA eGSolve_Module p1, .cells [.ptr 2 0], .cells [ln eGSolve_Module p4.register, ln eGSolve_Pick p4.first, .arr 3 0 p4.picks.length 2, .arr 4 0 p4.wants.length 3], GA eGSolve_Pick p4.picks, GA eGaUse p4.wants, .cells [.str p5]]
  unfold hc91
  refine q_reg (st_mv rfl (g_add rfl rfl hw fun v6 hw => st_mv rfl (g_endq [(0, .arr 0 0 p1.length 3), (1, ii p2), (2, ii p3), (3, .func 63 [.ptr 1 0, .ptr 5 0]), (8, ii v6)] rfl ?_)))
  refine sc_block ?_
  obtain ⟨I62, M63, hi, hw⟩ := hw
  refine sc_loop (X := { x : List GSolve_Module × List GSolve_Pick × List GaUse × List GSolve_Module × List GSolve_Pick × List UInt8 × Int // I62 x.1 x.2.1 x.2.2.1 x.2.2.2.1 x.2.2.2.2.1 x.2.2.2.2.2.1 x.2.2.2.2.2.2 }) (fun x => ([(0, .arr 0 0 p1.length 3), (1, ii p2), (2, ii p3), (3, .func 63 [.ptr 1 0, .ptr 5 0]), (8, ii x.1.2.2.2.2.2.2)], [GA eGSolve_Module x.1.1, .cells [.ptr 2 0], .cells [ln eGSolve_Module x.1.2.2.2.1, ln eGSolve_Pick x.1.2.2.2.2.1, .arr 3 0 x.1.2.1.length 2, .arr 4 0 x.1.2.2.1.length 3], GA eGSolve_Pick x.1.2.1, GA eGaUse x.1.2.2.1, .cells [.str x.1.2.2.2.2.2.1]])) (fun x => M63 x.1.1 x.1.2.1 x.1.2.2.1 x.1.2.2.2.1 x.1.2.2.2.2.1 x.1.2.2.2.2.2.1 x.1.2.2.2.2.2.2) ⟨(p1, p4.picks, p4.wants, p4.register, p4.first, p5, v6), hi⟩ ws ?_
  rintro ⟨⟨v7, v8, v9, v10, v11, v12, v13⟩, hi2⟩
  have hw := hw v7 v8 v9 v10 v11 v12 v13 hi2
  clear hi
  refine sc_seq (q_reg (st_mv rfl (st_mv rfl (g_lss rfl rfl hw (fun hw => g_endq [(0, .arr 0 0 p1.length 3), (1, ii p2), (2, ii p3), (3, .func 63 [.ptr 1 0, .ptr 5 0]), (8, ii v13), (14, .bool true)] rfl ?_) (fun hw => g_endq [(0, .arr 0 0 p1.length 3), (1, ii p2), (2, ii p3), (3, .func 63 [.ptr 1 0, .ptr 5 0]), (8, ii v13), (14, .bool false)] rfl ?_)))))
  · refine s_cond_t rfl (sc_skip (sq_n ?_))
    obtain ⟨J71, hw, hk⟩ := hw
    refine sc_join (A := List GSolve_Module × List GSolve_Pick × List GaUse × List GSolve_Module × List GSolve_Pick × List UInt8 × Int) (fun x => J71 x.1 x.2.1 x.2.2.1 x.2.2.2.1 x.2.2.2.2.1 x.2.2.2.2.2.1 x.2.2.2.2.2.2) (fun x => ([(0, .arr 0 0 p1.length 3), (1, ii p2), (2, ii p3), (3, .func 63 [.ptr 1 0, .ptr 5 0]), (8, ii v13), (9, ii x.2.2.2.2.2.2), (34, .bool false)], [GA eGSolve_Module x.1, .cells [.ptr 2 0], .cells [ln eGSolve_Module x.2.2.2.1, ln eGSolve_Pick x.2.2.2.2.1, .arr 3 0 x.2.1.length 2, .arr 4 0 x.2.2.1.length 3], GA eGSolve_Pick x.2.1, GA eGaUse x.2.2.1, .cells [.str x.2.2.2.2.2.1]])) ?_ ?_
    · rintro ⟨v64, v65, v66, v67, v68, v69, v70⟩ hj
      have hw := hk v64 v65 v66 v67 v68 v69 v70 hj
      clear hk hj
      refine s_reg (st_mv rfl (g_add rfl rfl hw fun v111 hw => st_mv rfl (g_end [(0, .arr 0 0 p1.length 3), (1, ii p2), (2, ii p3), (3, .func 63 [.ptr 1 0, .ptr 5 0]), (8, ii v111)] rfl ?_)))
      exact lo_n ⟨(v64, v65, v66, v67, v68, v69, v111), hw.1⟩ hw.2 ws
    · clear hk
      refine sc_block (q_reg (st_mv rfl (st_mv rfl (g_endq [(0, .arr 0 0 p1.length 3), (1, ii p2), (2, ii p3), (3, .func 63 [.ptr 1 0, .ptr 5 0]), (8, ii v13), (9, ii v13)] rfl ?_))))
      refine sc_block ?_
      obtain ⟨I94, M95, hi, hw⟩ := hw
      refine sc_loop (X := { x : List GSolve_Module × List GSolve_Pick × List GaUse × List GSolve_Module × List GSolve_Pick × List UInt8 × Int // I94 x.1 x.2.1 x.2.2.1 x.2.2.2.1 x.2.2.2.2.1 x.2.2.2.2.2.1 x.2.2.2.2.2.2 }) (fun x => ([(0, .arr 0 0 p1.length 3), (1, ii p2), (2, ii p3), (3, .func 63 [.ptr 1 0, .ptr 5 0]), (8, ii v13), (9, ii x.1.2.2.2.2.2.2)], [GA eGSolve_Module x.1.1, .cells [.ptr 2 0], .cells [ln eGSolve_Module x.1.2.2.2.1, ln eGSolve_Pick x.1.2.2.2.2.1, .arr 3 0 x.1.2.1.length 2, .arr 4 0 x.1.2.2.1.length 3], GA eGSolve_Pick x.1.2.1, GA eGaUse x.1.2.2.1, .cells [.str x.1.2.2.2.2.2.1]])) (fun x => M95 x.1.1 x.1.2.1 x.1.2.2.1 x.1.2.2.2.1 x.1.2.2.2.2.1 x.1.2.2.2.2.2.1 x.1.2.2.2.2.2.2) ⟨(v7, v8, v9, v10, v11, v12, v13), hi⟩ ws ?_
      rintro ⟨⟨v72, v73, v74, v75, v76, v77, v78⟩, hi2⟩
      have hw := hw v72 v73 v74 v75 v76 v77 v78 hi2
      clear hi
      refine sc_seq (sc_seq (s_dreg Try.mixed rfl (st_mv rfl (st_mv rfl (g_gtr rfl rfl hw (fun hw => st_mv rfl (st_g rfl (st_mv rfl (st_g rfl (st_mv rfl (st_g rfl (st_mv rfl (st_g rfl (g_iaA rfl rfl hw fun hw => st_g rfl (g_ldA (f := eGSolve_Module) (q := v78) (sub := 0) (l := v72) (g := fun a96 => eGSolve_Module a96) enc_GSolve_Module rfl rfl (by decide) rfl (fun _ => rfl) hw fun a96 hw => st_g rfl (st_mv rfl (st_g rfl (st_mv rfl (st_g rfl (g_sub rfl rfl hw fun v98 hw => st_g rfl (g_iaA rfl rfl hw fun hw => st_g rfl (g_ldA (f := eGSolve_Module) (q := v98) (sub := 0) (l := v72) (g := fun a99 => eGSolve_Module a99) enc_GSolve_Module rfl rfl (by decide) rfl (fun _ => rfl) hw fun a99 hw => st_mid (st_g rfl (khv (hin := (ro_cells rfl (rl_cons (.ptr _ _ _ rfl) rfl rl_nil) (ro_cells rfl (rl_cons (.pv _ (pv_lst enc_GSolve_Module _ _ (by simp))) rfl (rl_cons (.pv _ (pv_lst enc_GSolve_Pick _ _ (by simp))) rfl (rl_cons (rn_arr rfl) rfl (rl_cons (rn_arr rfl) rfl rl_nil)))) (ro_arr enc_GSolve_Pick (fun a => (lfc rfl (lfc rfl lfn))) rfl (ro_arr enc_GaUse (fun a => (lfc rfl (lfc rfl (lfc rfl lfn)))) rfl (ro_cells rfl (rl_cons (.pv _ (.str _)) rfl rl_nil) ro_nil)))))) (hback := fun _ => (ou_cells rfl (rl_cons (.ptr _ _ _ rfl) rfl rl_nil) (ou_cells rfl (rl_cons (.pv _ (pv_lst enc_GSolve_Module _ _ (by simp))) rfl (rl_cons (.pv _ (pv_lst enc_GSolve_Pick _ _ (by simp))) rfl (rl_cons (rn_arr rfl) rfl (rl_cons (rn_arr rfl) rfl rl_nil)))) (ou_arr enc_GSolve_Pick (fun a => (lfc rfl (lfc rfl lfn))) rfl (ou_arr enc_GaUse (fun a => (lfc rfl (lfc rfl (lfc rfl lfn)))) rfl (ou_cells rfl (rl_cons (.pv _ (.str _)) rfl rl_nil) ou_nil)))))) hh rfl (g2 := fun r101 : Int × GSolve_search × List UInt8 => ii r101.1) (H2 := fun r101 : Int × GSolve_search × List UInt8 => [GA eGSolve_Module v72, .cells [.ptr 2 0], .cells [ln eGSolve_Module r101.2.1.register, ln eGSolve_Pick r101.2.1.first, .arr 3 0 r101.2.1.picks.length 2, .arr 4 0 r101.2.1.wants.length 3], GA eGSolve_Pick r101.2.1.picks, GA eGaUse r101.2.1.wants, .cells [.str r101.2.2]]) [1, 2, 3, 4, 5] [1, 2, 3, 4, 5] 6 0 (ec rfl (ec rfl en)) hw fun r101 hw => st_g rfl (g_lss rfl rfl hw (fun hw => st_pick_t rfl rfl rfl (g_end [(0, .arr 0 0 p1.length 3), (1, ii p2), (2, ii p3), (3, .func 63 [.ptr 1 0, .ptr 5 0]), (8, ii v13), (9, ii v78), (34, .bool true)] rfl ?_)) (fun hw => st_pick_t rfl rfl rfl (g_end [(0, .arr 0 0 p1.length 3), (1, ii p2), (2, ii p3), (3, .func 63 [.ptr 1 0, .ptr 5 0]), (8, ii v13), (9, ii v78), (34, .bool false)] rfl ?_)))))))))))))))))))))) (fun hw => st_mv rfl (st_gft rfl (st_gft rfl (st_gft rfl (st_gft rfl (st_gft rfl (st_gft rfl (st_gft rfl (st_gft rfl (st_gft rfl (st_gft rfl (st_mid (st_gft rfl (st_gft rfl (st_pick_f rfl rfl rfl (g_end [(0, .arr 0 0 p1.length 3), (1, ii p2), (2, ii p3), (3, .func 63 [.ptr 1 0, .ptr 5 0]), (8, ii v13), (9, ii v78), (34, .bool false)] rfl ?_)))))))))))))))))))))
      · refine sq_n (s_cond_t rfl (sc_skip (sq_n (sc_seq (sc_block (s_dreg Try.mixed rfl (st_mv rfl (st_mv rfl (st_mv rfl (st_mv rfl (g_sub rfl rfl hw fun v102 hw => st_mv rfl (st_mv rfl (g_sub rfl rfl hw fun v103 hw => g_iaA rfl rfl hw fun hw => g_ldA (f := eGSolve_Module) (q := v103) (sub := 0) (l := v72) (g := fun a104 => eGSolve_Module a104) enc_GSolve_Module rfl rfl (by decide) rfl (fun _ => rfl) hw fun a104 hw => st_mv rfl (st_mv rfl (g_iaA rfl rfl hw fun hw => g_ldA (f := eGSolve_Module) (q := v78) (sub := 0) (l := v72) (g := fun a106 => eGSolve_Module a106) enc_GSolve_Module rfl rfl (by decide) rfl (fun _ => rfl) hw fun a106 hw => g_iaA rfl rfl hw fun hw => g_stA (q := v78) (sub := 0) (l := v72) (u := fun _ => a104) (v := eGSolve_Module a104) enc_GSolve_Module rfl rfl rfl rfl rfl (by decide) rfl (fun a => rfl) hw (fun z => [GA eGSolve_Module z, .cells [.ptr 2 0], .cells [ln eGSolve_Module r101.2.1.register, ln eGSolve_Pick r101.2.1.first, .arr 3 0 r101.2.1.picks.length 2, .arr 4 0 r101.2.1.wants.length 3], GA eGSolve_Pick r101.2.1.picks, GA eGaUse r101.2.1.wants, .cells [.str r101.2.2]]) (fun _ => rfl) fun v108 hw => g_iaA rfl rfl hw fun hw => g_stA (q := v102) (sub := 0) (l := v108) (u := fun _ => a106) (v := eGSolve_Module a106) enc_GSolve_Module rfl rfl rfl rfl rfl (by decide) rfl (fun a => rfl) hw (fun z => [GA eGSolve_Module z, .cells [.ptr 2 0], .cells [ln eGSolve_Module r101.2.1.register, ln eGSolve_Pick r101.2.1.first, .arr 3 0 r101.2.1.picks.length 2, .arr 4 0 r101.2.1.wants.length 3], GA eGSolve_Pick r101.2.1.picks, GA eGaUse r101.2.1.wants, .cells [.str r101.2.2]]) (fun _ => rfl) fun v109 hw => st_mid (g_end [(0, .arr 0 0 p1.length 3), (1, ii p2), (2, ii p3), (3, .func 63 [.ptr 1 0, .ptr 5 0]), (8, ii v13), (9, ii v78)] rfl ?_))))))))))))))))
        refine bl_n (sq_n (s_reg (st_mv rfl (g_sub rfl rfl hw fun v110 hw => st_mv rfl (g_end [(0, .arr 0 0 p1.length 3), (1, ii p2), (2, ii p3), (3, .func 63 [.ptr 1 0, .ptr 5 0]), (8, ii v13), (9, ii v110)] rfl ?_)))))
        exact lo_n ⟨(v109, r101.2.1.picks, r101.2.1.wants, r101.2.1.register, r101.2.1.first, r101.2.2, v110), hw.1⟩ hw.2 ws
      · exact sq_n (s_cond_f rfl (sc_exit (sq_x (lo_x (bl_x (bl_n (jo_n (v72, r101.2.1.picks, r101.2.1.wants, r101.2.1.register, r101.2.1.first, r101.2.2, v78) hw ws)))))))
      · exact sq_n (s_cond_f rfl (sc_exit (sq_x (lo_x (bl_x (bl_n (jo_n (v72, v73, v74, v75, v76, v77, v78) hw ws)))))))
  · exact s_cond_f rfl (sc_exit (sq_x (lo_x (bl_x (gr1 (g := zg91_63) (ho := zo91_63) [] hw (.inl rfl) ws)))))
def hc66 : C := (.seq (.reg [oo 2 (.box none 3 0), oo 3 (.mv (.c (.bool false)))] [1, 2]) (.seq (.reg [oo 4 (.load none 1), oo 5 (.nilck 4), oo 6 (.faddr 2 1 5), oo 7 (.load none 6), oo 8 (.mkfunc 67 [2]), co 9 (.call 59 [7, 8]), mo 3 9] [3]) .ret))
def ha66 : Ann := ⟨[], [], [(0, [1, 2]), (1, [3])], []⟩
theorem hk66 : comp Try.prog ha66 Try.f66.ntmps Try.f66.code = some hc66 := by kernel_rfl
def w66_q (p1 : GaUse) (p2 : GSolve_search) (Q : Bool × GSolve_search → Prop) : Prop :=
  ∃ r3 : Bool × GaUse, sp59_67 p2.picks (GaUse.mk p1.Name p1.Low p1.High) r3 ∧ Q (r3.1, p2)
theorem ok66_q (p1 : GaUse) (p2 : GSolve_search) (r : Bool × GSolve_search) (hw : w66_q p1 p2 fun r' => r' = r) : sp66_q p1 p2 r := by
  refine zh (rs := [.t 3]) Try.func66 hk66 ?_
  unfold w66_q at hw
  show SC Try.prog Try.f66.ntmps 1 hc66 _ [(0, eGaUse p1), (1, .ptr 0 0)] [.cells [.rptr (HV.cells (eGSolve_search p2))]]
  unfold hc66
  refine q_reg (g_box (v := eGaUse p1) rfl rfl rfl (n := 1) rfl rfl (st_mv rfl (g_endq [(1, .ptr 0 0), (2, .ptr 1 0)] rfl ?_)))
  refine q_reg (g_load_p rfl rfl rfl (st_nilck_r rfl (g_faddr_r (cs := [ln eGSolve_Module p2.register, ln eGSolve_Pick p2.first, ln eGSolve_Pick p2.picks, ln eGaUse p2.wants]) rfl (lt_of_blt rfl) (st_load_r rfl rfl (g_mkfunc (ec rfl en) rfl (kh (hargs := (ra_cons (.pv _ (pv_lst enc_GSolve_Pick _ _ (by simp))) (ra_cons (Ren.fn (rf_cons (.ptr _ _ _ rfl) rf_nil)) ra_nil))) hh (g2 := fun r3 : Bool × GaUse => .bool r3.1) (H2 := fun r3 : Bool × GaUse => [.cells [.rptr (HV.cells (eGSolve_search p2))], .cells (HV.cells (eGaUse r3.2))]) [1] [1] 2 0 (ec rfl (ec rfl en)) hw fun r3 hw => st_mv rfl (g_endq [(3, .bool r3.1)] rfl ?_)))))))
  exact sc_ret (gr1 (g := zg66_q) (ho := zo66_q) [.bool r3.1] hw (.inr rfl) (wrm 1 [0]))
def w59_67 (p1 : List (GSolve_Pick)) (p2 : GaUse) (Q : Bool × GaUse → Prop) : Prop :=
  ∃ r3 : Int × GaUse, sp29_67 p1 (GaUse.mk p2.Name p2.Low p2.High) r3 ∧ ∀ v4 : Bool, v4 = decide (r3.1 ≥ (0 : Int)) → Q (v4, (GaUse.mk r3.2.Name r3.2.Low r3.2.High))
theorem ok59_67 (p1 : List (GSolve_Pick)) (p2 : GaUse) (r : Bool × GaUse) (hw : w59_67 p1 p2 fun r' => r' = r) : sp59_67 p1 p2 r := by
  refine zh (rs := [.t 4]) Try.func59 hk59 ?_
  unfold w59_67 at hw
  show SC Try.prog Try.f59.ntmps 1 hc59 _ [(0, ln eGSolve_Pick p1), (1, .func 67 [.ptr 0 0])] [.cells [.str p2.Name, ii p2.Low, ii p2.High]]
  unfold hc59
  refine q_reg (st_mv rfl (g_endq [(0, ln eGSolve_Pick p1), (1, .func 67 [.ptr 0 0])] rfl ?_))
  refine q_reg (st_mv rfl (st_mv rfl (kh (hargs := (ra_cons (.pv _ (pv_lst enc_GSolve_Pick _ _ (by simp))) (ra_cons (Ren.fn (rf_cons (.ptr _ _ _ rfl) rf_nil)) ra_nil))) hh (g2 := fun r3 : Int × GaUse => ii r3.1) (H2 := fun r3 : Int × GaUse => [.cells [.str r3.2.Name, ii r3.2.Low, ii r3.2.High]]) [0] [0] 1 0 (ec rfl (ec rfl en)) hw fun r3 hw => gb_cmp rfl rfl trivial rfl hw fun v4 hw => st_mv rfl (g_endq [(4, .bool v4)] rfl ?_))))
  exact sc_ret (gr1 (g := zg59_67) (ho := zo59_67) [.bool v4] hw (.inr rfl) ws)
def w29_67 (p1 : List (GSolve_Pick)) (p2 : GaUse) (Q : Int × GaUse → Prop) : Prop :=
  ∃ (I11 : (List UInt8) → Int → Int → Int → Prop) (M12 : (List UInt8) → Int → Int → Int → Nat), I11 p2.Name p2.Low p2.High (0 : Int) ∧ ∀ (v3 : List UInt8) (v4 : Int) (v5 : Int) (v6 : Int), I11 v3 v4 v5 v6 → ∀ v13 : Bool, v13 = decide (v6 < (p1.length : Int)) → ((v13 = true → (0 ≤ v6 ∧ v6 < (p1.length : Int)) ∧ ∀ a14 : GSolve_Pick, p1[(v6 : Int).toNat]? = some a14 → ∃ r15 : Bool × GaUse, sp67 a14 (GaUse.mk v3 v4 v5) r15 ∧ ((r15.1 = true → Q (v6, (GaUse.mk r15.2.Name r15.2.Low r15.2.High))) ∧ (r15.1 = false → (R64 (v6 + (1 : Int))) ∧ ∀ v16 : Int, v16 = v6 + (1 : Int) → (I11 r15.2.Name r15.2.Low r15.2.High v16 ∧ M12 r15.2.Name r15.2.Low r15.2.High v16 < M12 v3 v4 v5 v6)))) ∧ (v13 = false → Q ((-1 : Int), (GaUse.mk v3 v4 v5))))
theorem ok29_67 (p1 : List (GSolve_Pick)) (p2 : GaUse) (r : Int × GaUse) (hw : w29_67 p1 p2 fun r' => r' = r) : sp29_67 p1 p2 r := by
  refine zh (rs := [.t 4]) Try.func29 hk29 ?_
  unfold w29_67 at hw
  show SC Try.prog Try.f29.ntmps 1 hc29 _ [(0, ln eGSolve_Pick p1), (1, .func 67 [.ptr 0 0])] [.cells [.str p2.Name, ii p2.Low, ii p2.High]]
  unfold hc29
  refine q_reg (st_mv rfl (g_endq [(0, ln eGSolve_Pick p1), (1, .func 67 [.ptr 0 0])] rfl ?_))
  refine sc_seq (q_reg (st_mv rfl (g_len rfl (st_mv rfl (g_endq [(0, ln eGSolve_Pick p1), (1, .func 67 [.ptr 0 0]), (7, ii (p1.length : Int)), (8, ii 0)] rfl ?_)))))
  refine sc_block ?_
  obtain ⟨I11, M12, hi, hw⟩ := hw
  refine sc_loop (X := { x : List UInt8 × Int × Int × Int // I11 x.1 x.2.1 x.2.2.1 x.2.2.2 }) (fun x => ([(0, ln eGSolve_Pick p1), (1, .func 67 [.ptr 0 0]), (7, ii (p1.length : Int)), (8, ii x.1.2.2.2)], [.cells [.str x.1.1, ii x.1.2.1, ii x.1.2.2.1]])) (fun x => M12 x.1.1 x.1.2.1 x.1.2.2.1 x.1.2.2.2) ⟨(p2.Name, p2.Low, p2.High, (0 : Int)), hi⟩ ws ?_
  rintro ⟨⟨v3, v4, v5, v6⟩, hi2⟩
  have hw := hw v3 v4 v5 v6 hi2
  clear hi
  refine q_reg (gb_cmp rfl rfl trivial rfl hw fun v13 hw => g_endq [(0, ln eGSolve_Pick p1), (1, .func 67 [.ptr 0 0]), (7, ii (p1.length : Int)), (8, ii v6), (9, .bool v13)] rfl ?_)
  refine sc_seq (s_cond rfl hw (fun hw => ?_) (fun hw => ?_))
  · refine sc_skip (sq_n (sc_seq (sc_block (q_reg (st_mv rfl (st_mv rfl (g_endq [(0, ln eGSolve_Pick p1), (1, .func 67 [.ptr 0 0]), (5, ii v6), (7, ii (p1.length : Int)), (8, ii v6)] rfl ?_)))))))
    refine q_reg (st_mv rfl (st_mv rfl (st_mv rfl (g_iaddr enc_GSolve_Pick rfl rfl hw fun a14 hw => st_load_r (v := eGSolve_Pick a14) rfl rfl (khv hh rfl (g2 := fun r15 : Bool × GaUse => .bool r15.1) (H2 := fun r15 : Bool × GaUse => [.cells [.str r15.2.Name, ii r15.2.Low, ii r15.2.High]]) [0] [0] 1 0 (ec rfl en) hw fun r15 hw => g_endq [(0, ln eGSolve_Pick p1), (1, .func 67 [.ptr 0 0]), (5, ii v6), (7, ii (p1.length : Int)), (8, ii v6), (16, .bool r15.1)] rfl ?_)))))
    refine s_cond rfl hw (fun hw => ?_) (fun hw => ?_)
    · refine q_reg (st_mv rfl (st_mv rfl (g_endq [(4, ii v6)] rfl ?_)))
      exact sc_ret (bl_r (sq_r (lo_r (bl_r (sq_r (gr1 (g := zg29_67) (ho := zo29_67) [ii v6] hw (.inr rfl) ws))))))
    · refine sc_skip (bl_n (sq_n (s_reg (g_add rfl rfl hw fun v16 hw => st_mv rfl (g_end [(0, ln eGSolve_Pick p1), (1, .func 67 [.ptr 0 0]), (7, ii (p1.length : Int)), (8, ii v16)] rfl ?_)))))
      exact lo_n ⟨(r15.2.Name, r15.2.Low, r15.2.High, v16), hw.1⟩ hw.2 ws
  · refine sc_exit (sq_x (lo_x (bl_x (sq_n (q_reg (st_mv rfl (g_endq [(4, ii (-1 : Int))] rfl ?_)))))))
    exact sc_ret (gr1 (g := zg29_67) (ho := zo29_67) [ii (-1 : Int)] hw (.inr rfl) ws)
end Go.Hw.VE

