import Derived.Test.YthikpbaphpdpfaaHwF2
import Derived.Test.YthikpbaphpdpfaaProg
set_option linter.unusedVariables false
set_option linter.unusedSimpArgs false
namespace Go.Hw.VB
open Go Go.Proofs
theorem _root_.Go.Proofs.Try.mixed : Try.prog.follows .mixedOrders = true := by kernel_rfl
structure GkRaw where
  Kind : Int
  A : Int
  B : Int
  Text : List UInt8
  deriving DecidableEq
def eGkRaw (a : GkRaw) : HV := .agg [ii a.Kind, ii a.A, ii a.B, .str a.Text]
theorem enc_GkRaw : Enc eGkRaw 4 := ⟨fun a => (pvc (.int _ _) (pvc (.int _ _) (pvc (.int _ _) (pvc (.str _) pvn)))), fun _ => rfl, fun _ => rfl, fun _ => rfl⟩
instance : EncC eGkRaw 4 := ⟨enc_GkRaw⟩
instance (a : GkRaw) : PVi (eGkRaw a) := ⟨enc_GkRaw.all a⟩
structure GaValue where
  Kind : Int
  Num : Int
  Text : List UInt8
  Args : List (GaValue)
mutual
def cGaValue : GaValue → List HV
  | ⟨a0, a1, a2, a3⟩ => [ii a0, ii a1, .str a2, .list (cGaValues a3) .none]
def cGaValues : List GaValue → List HV
  | [] => []
  | a :: r => .agg (cGaValue a) :: cGaValues r
end
def eGaValue (a : GaValue) : HV := .agg (cGaValue a)
theorem cGaValues_map : ∀ l : List GaValue, cGaValues l = l.map eGaValue
  | [] => by rw [cGaValues]; rfl
  | a :: r => by rw [cGaValues, cGaValues_map r]; rfl
mutual
theorem pv_cGaValue : ∀ a : GaValue, ∀ x ∈ cGaValue a, PV x
  | ⟨a0, a1, a2, a3⟩ => by
    rw [cGaValue]
    exact (pvc (.int _ _) (pvc (.int _ _) (pvc (.str _) (pvc (.list _ _ (by simp) (pv_cGaValues a3)) pvn))))
theorem pv_cGaValues : ∀ l : List GaValue, ∀ x ∈ flat (cGaValues l), PV x
  | [] => by rw [cGaValues]; intro x hx; simp [flat] at hx
  | a :: r => by
    rw [cGaValues, flat_cons]
    exact pvapp (pv_cGaValue a) (pv_cGaValues r)
end
theorem cGaValue_eq (a : GaValue) : cGaValue a = [ii a.Kind, ii a.Num, .str a.Text, ln eGaValue a.Args] := by
  obtain ⟨a0, a1, a2, a3⟩ := a
  simp only [cGaValue, cGaValues_map, List.cons_append, List.nil_append, List.append_nil]
theorem eGaValue_eq (a : GaValue) : eGaValue a = .agg [ii a.Kind, ii a.Num, .str a.Text, ln eGaValue a.Args] := by rw [eGaValue, cGaValue_eq]
theorem enc_GaValue : Enc eGaValue 4 := ⟨pv_cGaValue, fun a => by rw [eGaValue_eq]; rfl, fun a => rfl, fun a => by rw [eGaValue_eq]; rfl⟩
instance : EncC eGaValue 4 := ⟨enc_GaValue⟩
instance (a : GaValue) : PVi (eGaValue a) := ⟨enc_GaValue.all a⟩
structure Gvwriter where
  f_b : List UInt8
  deriving DecidableEq
def eGvwriter (a : Gvwriter) : HV := .agg [bn a.f_b]
theorem enc_Gvwriter : Enc eGvwriter 1 := ⟨fun a => (pvc (pv_lst enc_byte _ _ (by simp)) pvn), fun _ => rfl, fun _ => rfl, fun _ => rfl⟩
instance : EncC eGvwriter 1 := ⟨enc_Gvwriter⟩
instance (a : Gvwriter) : PVi (eGvwriter a) := ⟨enc_Gvwriter.all a⟩
structure Gvreader where
  rest : List UInt8
  bad : Bool
  left : Int
  deriving DecidableEq
def eGvreader (a : Gvreader) : HV := .agg [bn a.rest, .bool a.bad, ii a.left]
theorem enc_Gvreader : Enc eGvreader 3 := ⟨fun a => (pvc (pv_lst enc_byte _ _ (by simp)) (pvc (.bool _) (pvc (.int _ _) pvn))), fun _ => rfl, fun _ => rfl, fun _ => rfl⟩
instance : EncC eGvreader 3 := ⟨enc_Gvreader⟩
instance (a : Gvreader) : PVi (eGvreader a) := ⟨enc_Gvreader.all a⟩
@[reducible] def zg102 (r : Bool) : HV := .bool r
abbrev sp102 (p16 : GaValue) (r : Bool) : Prop := PCall Try.prog 102 [.agg [ii p16.Kind, ii p16.Num, .str p16.Text, ln eGaValue p16.Args]] (zg102 r)
@[reducible] def zg11 (r : GaValue) : HV := .agg [ii r.Kind, ii r.Num, .str r.Text, ln eGaValue r.Args]
abbrev sp11 (p17 : List (GkRaw)) (r : GaValue) : Prop := PCall Try.prog 11 [ln eGkRaw p17] (zg11 r)
@[reducible] def zg13 (r : Bool) : HV := .bool r
abbrev sp13 (p19 : GaValue) (p20 : GaValue) (r : Bool) : Prop := PCall Try.prog 13 [.agg [ii p19.Kind, ii p19.Num, .str p19.Text, ln eGaValue p19.Args], .agg [ii p20.Kind, ii p20.Num, .str p20.Text, ln eGaValue p20.Args]] (zg13 r)
@[reducible] def zg15 (r : Int) : HV := ii r
abbrev sp15 (p22 : Int) (p23 : Int) (r : Int) : Prop := PCall Try.prog 15 [ii p22, ii p23] (zg15 r)
@[reducible] def zg38 (r : GaValue × Int × List (GkRaw)) : HV := .agg [ii r.1.Kind, ii r.1.Num, .str r.1.Text, ln eGaValue r.1.Args]
@[reducible] def zo38 (r : GaValue × Int × List (GkRaw)) : Heap := [.cells [ii r.2.1], .cells [ln eGkRaw r.2.2], .cells [.func 38 [.ptr 0 0, .ptr 1 0, .ptr 2 0]]]
abbrev sp38 (p26 : Int) (p27 : Int) (p28 : List (GkRaw)) (r : GaValue × Int × List (GkRaw)) : Prop := MC Try.prog 38 [ii p26, .ptr 0 0, .ptr 1 0, .ptr 2 0] [.cells [ii p27], .cells [ln eGkRaw p28], .cells [.func 38 [.ptr 0 0, .ptr 1 0, .ptr 2 0]]] (zg38 r) (zo38 r)
@[reducible] def zg39 (r : List UInt8) : HV := .str r
abbrev sp39 (p29 : GkRaw) (r : List UInt8) : Prop := PCall Try.prog 39 [eGkRaw p29] (zg39 r)
@[reducible] def zg40 (r : Int) : HV := ii r
abbrev sp40 (p32 : GaValue) (r : Int) : Prop := PCall Try.prog 40 [.agg [ii p32.Kind, ii p32.Num, .str p32.Text, ln eGaValue p32.Args]] (zg40 r)
@[reducible] def zg41 (r : Gvwriter) : HV := .tuple []
@[reducible] def zo41 (r : Gvwriter) : Heap := [.cells [.list (bytesOf r.f_b) (.own 1 1 1)], .tok (1 + r.f_b.length)]
abbrev sp41 (p33 : Gvwriter) (p34 : GaValue) (r : Gvwriter) : Prop := MC Try.prog 41 [.ptr 0 0, .agg [ii p34.Kind, ii p34.Num, .str p34.Text, ln eGaValue p34.Args]] [.cells [.list (bytesOf p33.f_b) (.own 1 1 1)], .tok (1 + p33.f_b.length)] (zg41 r) (zo41 r)
@[reducible] def zg42 (r : List UInt8) : HV := bn r
abbrev sp42 (p35 : List UInt8) (r : List UInt8) : Prop := PCall Try.prog 42 [bn p35] (zg42 r)
@[reducible] def zg43_13 (r : Bool) : HV := .bool r
abbrev sp43_13 (p36 : List (GaValue)) (p37 : List (GaValue)) (r : Bool) : Prop := PCall Try.prog 43 [ln eGaValue p36, ln eGaValue p37, .func 13 []] (zg43_13 r)
@[reducible] def zg44 (r : GaValue × Gvreader) : HV := .agg [ii r.1.Kind, ii r.1.Num, .str r.1.Text, ln eGaValue r.1.Args]
@[reducible] def zo44 (r : GaValue × Gvreader) : Heap := [.cells [bn r.2.rest, .bool r.2.bad, ii r.2.left]]
abbrev sp44 (p38 : Gvreader) (r : GaValue × Gvreader) : Prop := MC Try.prog 44 [.ptr 0 0] [.cells [bn p38.rest, .bool p38.bad, ii p38.left]] (zg44 r) (zo44 r)
@[reducible] def zg45 (r : Bool × Gvreader) : HV := .bool r.1
@[reducible] def zo45 (r : Bool × Gvreader) : Heap := [.cells [bn r.2.rest, .bool r.2.bad, ii r.2.left]]
abbrev sp45 (p39 : Gvreader) (p40 : List UInt8) (p41 : List UInt8) (p42 : Int) (r : Bool × Gvreader) : Prop := MC Try.prog 45 [.ptr 0 0, bn p40, bn p41, ii p42] [.cells [bn p39.rest, .bool p39.bad, ii p39.left]] (zg45 r) (zo45 r)
@[reducible] def zg50 (r : Gvwriter) : HV := .tuple []
@[reducible] def zo50 (r : Gvwriter) : Heap := [.cells [.list (bytesOf r.f_b) (.own 1 1 1)], .tok (1 + r.f_b.length)]
abbrev sp50 (p43 : Gvwriter) (p44 : Int) (r : Gvwriter) : Prop := MC Try.prog 50 [.ptr 0 0, .int .u64 p44] [.cells [.list (bytesOf p43.f_b) (.own 1 1 1)], .tok (1 + p43.f_b.length)] (zg50 r) (zo50 r)
@[reducible] def zg52 (r : Gvwriter) : HV := .tuple []
@[reducible] def zo52 (r : Gvwriter) : Heap := [.cells [.list (bytesOf r.f_b) (.own 1 1 1)], .tok (1 + r.f_b.length)]
abbrev sp52 (p45 : Gvwriter) (p46 : Int) (r : Gvwriter) : Prop := MC Try.prog 52 [.ptr 0 0, ii p46] [.cells [.list (bytesOf p45.f_b) (.own 1 1 1)], .tok (1 + p45.f_b.length)] (zg52 r) (zo52 r)
@[reducible] def zg54 (r : Int × Gvreader) : HV := .int .u64 r.1
@[reducible] def zo54 (r : Int × Gvreader) : Heap := [.cells [bn r.2.rest, .bool r.2.bad, ii r.2.left]]
abbrev sp54 (p47 : Gvreader) (r : Int × Gvreader) : Prop := MC Try.prog 54 [.ptr 0 0] [.cells [bn p47.rest, .bool p47.bad, ii p47.left]] (zg54 r) (zo54 r)
@[reducible] def zg56 (r : Int × Gvreader) : HV := ii r.1
@[reducible] def zo56 (r : Int × Gvreader) : Heap := [.cells [bn r.2.rest, .bool r.2.bad, ii r.2.left]]
abbrev sp56 (p48 : Gvreader) (p49 : Int) (r : Int × Gvreader) : Prop := MC Try.prog 56 [.ptr 0 0, ii p49] [.cells [bn p48.rest, .bool p48.bad, ii p48.left]] (zg56 r) (zo56 r)
@[reducible] def zg57 (r : Int × Gvreader) : HV := ii r.1
@[reducible] def zo57 (r : Int × Gvreader) : Heap := [.cells [bn r.2.rest, .bool r.2.bad, ii r.2.left]]
abbrev sp57 (p50 : Gvreader) (r : Int × Gvreader) : Prop := MC Try.prog 57 [.ptr 0 0] [.cells [bn p50.rest, .bool p50.bad, ii p50.left]] (zg57 r) (zo57 r)
@[reducible] def zg71 (r : Bool) : HV := .bool r
abbrev sp71 (p52 : List UInt8) (p53 : List UInt8) (r : Bool) : Prop := PCall Try.prog 71 [bn p52, bn p53] (zg71 r)
@[reducible] def zg84 (r : Int × Int × Int) : HV := .tuple [ii r.1, ii r.2.1, ii r.2.2]
abbrev sp84 (p54 : GaValue) (r : Int × Int × Int) : Prop := PCall Try.prog 84 [.agg [ii p54.Kind, ii p54.Num, .str p54.Text, ln eGaValue p54.Args]] (zg84 r)
@[reducible] def zg85 (r : Bool) : HV := .bool r
abbrev sp85 (p55 : GaValue) (r : Bool) : Prop := PCall Try.prog 85 [.agg [ii p55.Kind, ii p55.Num, .str p55.Text, ln eGaValue p55.Args]] (zg85 r)
@[reducible] def zg86 (r : Gvwriter) : HV := .tuple []
@[reducible] def zo86 (r : Gvwriter) : Heap := [.cells [.list (bytesOf r.f_b) (.own 1 1 1)], .tok (1 + r.f_b.length)]
abbrev sp86 (p56 : Gvwriter) (p57 : List UInt8) (r : Gvwriter) : Prop := MC Try.prog 86 [.ptr 0 0, .str p57] [.cells [.list (bytesOf p56.f_b) (.own 1 1 1)], .tok (1 + p56.f_b.length)] (zg86 r) (zo86 r)
@[reducible] def zg87 (r : Gvwriter) : HV := .tuple []
@[reducible] def zo87 (r : Gvwriter) : Heap := [.cells [.list (bytesOf r.f_b) (.own 1 1 1)], .tok (1 + r.f_b.length)]
abbrev sp87 (p58 : Gvwriter) (p59 : List (GaValue)) (r : Gvwriter) : Prop := MC Try.prog 87 [.ptr 0 0, ln eGaValue p59] [.cells [.list (bytesOf p58.f_b) (.own 1 1 1)], .tok (1 + p58.f_b.length)] (zg87 r) (zo87 r)
@[reducible] def zg88 (r : GaValue × Gvreader) : HV := .agg [ii r.1.Kind, ii r.1.Num, .str r.1.Text, ln eGaValue r.1.Args]
@[reducible] def zo88 (r : GaValue × Gvreader) : Heap := [.cells [bn r.2.rest, .bool r.2.bad, ii r.2.left]]
abbrev sp88 (p60 : Gvreader) (p61 : Int) (r : GaValue × Gvreader) : Prop := MC Try.prog 88 [.ptr 0 0, ii p61] [.cells [bn p60.rest, .bool p60.bad, ii p60.left]] (zg88 r) (zo88 r)
@[reducible] def zg90 (r : Int × Gvreader) : HV := .int .u8 r.1
@[reducible] def zo90 (r : Int × Gvreader) : Heap := [.cells [bn r.2.rest, .bool r.2.bad, ii r.2.left]]
abbrev sp90 (p62 : Gvreader) (r : Int × Gvreader) : Prop := MC Try.prog 90 [.ptr 0 0] [.cells [bn p62.rest, .bool p62.bad, ii p62.left]] (zg90 r) (zo90 r)
@[reducible] def zg91 (r : List UInt8 × Gvreader) : HV := .str r.1
@[reducible] def zo91 (r : List UInt8 × Gvreader) : Heap := [.cells [bn r.2.rest, .bool r.2.bad, ii r.2.left]]
abbrev sp91 (p63 : Gvreader) (r : List UInt8 × Gvreader) : Prop := MC Try.prog 91 [.ptr 0 0] [.cells [bn p63.rest, .bool p63.bad, ii p63.left]] (zg91 r) (zo91 r)
def hc3 : C := (.seq (.reg [oo 4 (.mv (.c (.bool false)))] [0, 1]) (.seq (.reg [mo 11 0, co 12 (.call 11 [11]), mo 13 1, co 14 (.call 11 [13]), oo 5 (.alloc none [(.int .i64 0), (.int .i64 0), (.str []), (.list [] .full)]), oo 6 (.alloc none [(.int .i64 0), (.int .i64 0), (.str []), (.list [] .full)]), os (.store 4 5 12), os (.store 4 6 14)] [5, 6]) (.seq (.reg [oo 16 (.load (some 4) 5), co 17 (.call 12 [16]), mo 15 17, oo 18 (.extract 15 0), oo 19 (.extract 15 1), mo 7 18, mo 8 19] [5, 6, 7, 8]) (.seq (.reg [oo 21 (.load (some 4) 6), co 22 (.call 12 [21]), mo 20 22, oo 23 (.extract 20 0), oo 24 (.extract 20 1), mo 9 23, mo 10 24] [5, 6, 7, 8, 9, 10]) (.seq (.dreg [mo 25 8, oo 26 (.eqv false .int 25 (.c (.int .i64 0))), mo 27 26, og 28 (.mv 10) 27 true, og 29 (.eqv false .int 28 (.c (.int .i64 0))) 27 true, oo 30 (.pick 27 29 (.c (.bool false))), mo 31 30, og 32 (.mv 7) 31 true, og 33 (.len false 32) 31 true, og 34 (.bin .gtr 33 (.c (.int .i64 0))) 31 true, oo 35 (.pick 31 34 (.c (.bool false))), mo 36 35, og 37 (.mv 7) 36 true, og 38 (.conv .ofBytes 37) 36 true, og 39 (.mv 9) 36 true, og 40 (.conv .ofBytes 39) 36 true, og 41 (.eqv false .str 38 40) 36 true, og 42 (.load (some 4) 5) 36 true, og 43 (.load (some 4) 6) 36 true, cg 44 (.call 13 [42, 43]) 36 true, og 45 (.eqv false .bool 41 44) 36 true, oo 46 (.pick 36 45 (.c (.bool false))), mo 4 46] [] 0 [4]) .ret)))))
def ha3 : Ann := ⟨[], [], [(0, [0, 1]), (1, [5, 6]), (2, [5, 6, 7, 8]), (3, [5, 6, 7, 8, 9, 10]), (4, [4])], []⟩
theorem hk3 : comp Try.prog ha3 Try.f3.ntmps Try.f3.code = some hc3 := by kernel_rfl
def hc6 : C := (.seq (.reg [oo 2 (.mv (.c (.bool false)))] [0]) (.seq (.reg [mo 8 0, co 9 (.call 11 [8]), oo 3 (.alloc none [(.int .i64 0), (.int .i64 0), (.str []), (.list [] .full)]), os (.store 4 3 9)] [3]) (.seq (.reg [oo 11 (.load (some 4) 3), co 12 (.call 12 [11]), mo 10 12, oo 13 (.extract 10 0), oo 14 (.extract 10 1), mo 4 13, mo 5 14] [3, 4, 5]) (.seq (.reg [mo 16 4, co 17 (.call 14 [16]), mo 15 17, oo 18 (.extract 15 0), oo 19 (.extract 15 1), oo 6 (.alloc none [(.int .i64 0), (.int .i64 0), (.str []), (.list [] .full)]), os (.store 4 6 18), mo 7 19] [3, 4, 5, 6, 7]) (.seq (.reg [mo 20 5, oo 21 (.eqv false .int 20 (.c (.int .i64 0))), mo 22 21, og 23 (.mv 7) 22 true, og 24 (.eqv false .int 23 (.c (.int .i64 0))) 22 true, oo 25 (.pick 22 24 (.c (.bool false))), mo 26 25, og 27 (.mv 4) 26 true, og 28 (.len false 27) 26 true, og 29 (.bin .geq 28 (.c (.int .i64 4))) 26 true, oo 30 (.pick 26 29 (.c (.bool false))), mo 31 30, og 32 (.load (some 4) 3) 31 true, og 33 (.load (some 4) 6) 31 true, cg 34 (.call 13 [32, 33]) 31 true, oo 35 (.pick 31 34 (.c (.bool false))), mo 2 35] [2]) .ret)))))
def ha6 : Ann := ⟨[], [], [(0, [0]), (1, [3]), (2, [3, 4, 5]), (3, [3, 4, 5, 6, 7]), (4, [2])], []⟩
theorem hk6 : comp Try.prog ha6 Try.f6.ntmps Try.f6.code = some hc6 := by kernel_rfl
def hc11 : C := (.seq (.reg [oo 1 (.box none 1 0), oo 2 (.alloc none [(.int .i64 0), (.int .i64 0), (.str []), (.list [] .full)])] [1, 2]) (.seq (.reg [oo 3 (.alloc none [(.int .i64 0)]), os (.store 1 3 (.c (.int .i64 0)))] [1, 2, 3]) (.seq (.reg [oo 4 (.alloc none [.nilfunc])] [1, 2, 3, 4]) (.seq (.reg [oo 5 (.mkfunc 38 [3, 1, 4]), os (.store 1 4 5)] [2, 4]) (.seq (.reg [oo 6 (.load none 4), co 7 (.callv 6 [(.c (.int .i64 1))]), os (.store 4 2 7)] [2]) .ret)))))
def ha11 : Ann := ⟨[], [38, 105, 999999], [(0, [1, 2]), (1, [1, 2, 3]), (2, [1, 2, 3, 4]), (3, [2, 4]), (4, [2])], []⟩
theorem hk11 : comp Try.prog ha11 Try.f11.ntmps Try.f11.code = some hc11 := by kernel_rfl
def w11 (p1 : List (GkRaw)) (Q : GaValue → Prop) : Prop :=
  ∃ r2 : GaValue × Int × List (GkRaw), sp38 (1 : Int) (0 : Int) p1 r2 ∧ Q (GaValue.mk r2.1.Kind r2.1.Num r2.1.Text r2.1.Args)
theorem ok11 (p1 : List (GkRaw)) (r : GaValue) (hw : w11 p1 fun r' => r' = r) : sp11 p1 r := by
  refine zf (rs := [.c 2 (some 4)]) (g := zg11) Try.func11 hk11 ?_
  unfold w11 at hw
  show SC Try.prog Try.f11.ntmps 0 hc11 _ [(0, ln eGkRaw p1)] []
  unfold hc11
  refine q_reg (g_box (v := ln eGkRaw p1) rfl rfl rfl (n := 0) rfl rfl (g_alloc (n := 1) rfl rfl (g_endq [(1, .ptr 0 0), (2, .ptr 1 0)] rfl ?_)))
  refine q_reg (g_alloc (n := 2) rfl rfl (g_sp (v := ii 0) (h' := [.cells [ln eGkRaw p1], .cells [ii 0, ii 0, .str [], nl eGaValue], .cells [ii 0]]) rfl rfl rfl (g_endq [(1, .ptr 0 0), (2, .ptr 1 0), (3, .ptr 2 0)] rfl ?_)))
  refine q_reg (g_alloc (n := 3) rfl rfl (g_endq [(1, .ptr 0 0), (2, .ptr 1 0), (3, .ptr 2 0), (4, .ptr 3 0)] rfl ?_))
  refine q_reg (g_mkfunc (ec rfl (ec rfl (ec rfl en))) rfl (g_sp (v := .func 38 [.ptr 2 0, .ptr 0 0, .ptr 3 0]) (h' := [.cells [ln eGkRaw p1], .cells [ii 0, ii 0, .str [], nl eGaValue], .cells [ii 0], .cells [.func 38 [.ptr 2 0, .ptr 0 0, .ptr 3 0]]]) rfl rfl rfl (g_endq [(2, .ptr 1 0), (4, .ptr 3 0)] rfl ?_)))
  refine q_reg (g_load_p rfl rfl rfl (khv (hin := (ro_cells rfl (rl_cons (.pv _ (.int _ _)) rfl rl_nil) (ro_cells rfl (rl_cons (.pv _ (pv_lst enc_GkRaw _ _ (by simp))) rfl rl_nil) (ro_cells rfl (rl_cons (Ren.fn (rf_cons (.ptr _ _ _ rfl) (rf_cons (.ptr _ _ _ rfl) (rf_cons (.ptr _ _ _ rfl) rf_nil)))) rfl rl_nil) ro_nil)))) (hback := fun _ => (ou_cells rfl (rl_cons (.pv _ (.int _ _)) rfl rl_nil) (ou_cells rfl (rl_cons (.pv _ (pv_lst enc_GkRaw _ _ (by simp))) rfl rl_nil) (ou_cells rfl (rl_cons (Ren.fn (rf_cons (.ptr _ _ _ rfl) (rf_cons (.ptr _ _ _ rfl) (rf_cons (.ptr _ _ _ rfl) rf_nil)))) rfl rl_nil) ou_nil)))) hh rfl (g2 := fun r2 : GaValue × Int × List (GkRaw) => .agg [ii r2.1.Kind, ii r2.1.Num, .str r2.1.Text, ln eGaValue r2.1.Args]) (H2 := fun r2 : GaValue × Int × List (GkRaw) => [.cells [ln eGkRaw r2.2.2], .cells [ii 0, ii 0, .str [], nl eGaValue], .cells [ii r2.2.1], .cells [.func 38 [.ptr 2 0, .ptr 0 0, .ptr 3 0]]]) [2, 0, 3] [2, 0, 3] 4 0 (ec rfl en) hw fun r2 hw => g_sp (v := .agg [ii r2.1.Kind, ii r2.1.Num, .str r2.1.Text, ln eGaValue r2.1.Args]) (h' := [.cells [ln eGkRaw r2.2.2], .cells [ii r2.1.Kind, ii r2.1.Num, .str r2.1.Text, ln eGaValue r2.1.Args], .cells [ii r2.2.1], .cells [.func 38 [.ptr 2 0, .ptr 0 0, .ptr 3 0]]]) rfl rfl rfl (g_endq [(2, .ptr 1 0)] rfl ?_)))
  exact sc_ret (gr1 (g := zg11) (ho := fun _ => []) [.agg [ii r2.1.Kind, ii r2.1.Num, .str r2.1.Text, ln eGaValue r2.1.Args]] hw (.inr rfl) (wr []))
def hc13 : C := (.seq (.reg [oo 2 (.box none 4 0), oo 3 (.box none 4 1), oo 4 (.mv (.c (.bool false)))] [2, 3]) (.seq (.reg [oo 5 (.faddr 0 1 2), oo 6 (.load none 5), oo 7 (.faddr 0 1 3), oo 8 (.load none 7), oo 9 (.eqv false .int 6 8), mo 10 9, og 11 (.faddr 1 1 2) 10 true, og 12 (.load none 11) 10 true, og 13 (.faddr 1 1 3) 10 true, og 14 (.load none 13) 10 true, og 15 (.eqv false .int 12 14) 10 true, oo 16 (.pick 10 15 (.c (.bool false))), mo 17 16, og 18 (.faddr 2 1 2) 17 true, og 19 (.load none 18) 17 true, og 20 (.faddr 2 1 3) 17 true, og 21 (.load none 20) 17 true, og 22 (.eqv false .str 19 21) 17 true, oo 23 (.pick 17 22 (.c (.bool false))), mo 24 23, og 25 (.faddr 3 1 2) 24 true, og 26 (.load none 25) 24 true, og 27 (.faddr 3 1 3) 24 true, og 28 (.load none 27) 24 true, cg 29 (.call 43 [26, 28, (.c (.func 13 []))]) 24 true, oo 30 (.pick 24 29 (.c (.bool false))), mo 4 30] [4]) .ret))
def ha13 : Ann := ⟨[], [], [(0, [2, 3]), (1, [4])], []⟩
theorem hk13 : comp Try.prog ha13 Try.f13.ntmps Try.f13.code = some hc13 := by kernel_rfl
def w13 (p1 : GaValue) (p2 : GaValue) (Q : Bool → Prop) : Prop :=
  ((p1.Kind = p2.Kind → ((p1.Num = p2.Num → ((p1.Text = p2.Text → ∃ r3 : Bool, sp43_13 p1.Args p2.Args r3 ∧ Q r3) ∧ (p1.Text ≠ p2.Text → Q false))) ∧ (p1.Num ≠ p2.Num → Q false))) ∧ (p1.Kind ≠ p2.Kind → Q false))
theorem ok13 (p1 : GaValue) (p2 : GaValue) (r : Bool) (hw : w13 p1 p2 fun r' => r' = r) : sp13 p1 p2 r := by
  refine zf (rs := [.t 4]) (g := zg13) Try.func13 hk13 ?_
  unfold w13 at hw
  show SC Try.prog Try.f13.ntmps 0 hc13 _ [(0, .agg [ii p1.Kind, ii p1.Num, .str p1.Text, ln eGaValue p1.Args]), (1, .agg [ii p2.Kind, ii p2.Num, .str p2.Text, ln eGaValue p2.Args])] []
  unfold hc13
  refine q_reg (g_box (v := .agg [ii p1.Kind, ii p1.Num, .str p1.Text, ln eGaValue p1.Args]) rfl rfl rfl (n := 0) rfl rfl (g_box (v := .agg [ii p2.Kind, ii p2.Num, .str p2.Text, ln eGaValue p2.Args]) rfl rfl rfl (n := 1) rfl rfl (st_mv rfl (g_endq [(2, .ptr 0 0), (3, .ptr 1 0)] rfl ?_))))
  refine q_reg (g_faddr_p rfl (g_load_p rfl rfl rfl (g_faddr_p rfl (g_load_p rfl rfl rfl (g_eqi rfl rfl hw (fun hw => st_mv rfl (st_g rfl (g_faddr_p rfl (st_g rfl (g_load_p rfl rfl rfl (st_g rfl (g_faddr_p rfl (st_g rfl (g_load_p rfl rfl rfl (st_g rfl (g_eqi rfl rfl hw (fun hw => st_pick_t rfl rfl rfl (st_mv rfl (st_g rfl (g_faddr_p rfl (st_g rfl (g_load_p rfl rfl rfl (st_g rfl (g_faddr_p rfl (st_g rfl (g_load_p rfl rfl rfl (st_g rfl (g_eqs rfl rfl hw (fun hw => st_pick_t rfl rfl rfl (st_mv rfl (st_g rfl (g_faddr_p rfl (st_g rfl (g_load_p rfl rfl rfl (st_g rfl (g_faddr_p rfl (st_g rfl (g_load_p rfl rfl rfl (st_g rfl (k_call dh (ec rfl (ec rfl (ec rfl en))) rfl hw fun r3 hw => st_pick_t rfl rfl rfl (st_mv rfl (g_endq [(4, .bool r3)] rfl ?_)))))))))))))) (fun hw => st_pick_t rfl rfl rfl (st_mv rfl (st_gft rfl (st_gft rfl (st_gft rfl (st_gft rfl (st_gft rfl (st_pick_f rfl rfl rfl (st_mv rfl (g_endq [(4, .bool false)] rfl ?_)))))))))))))))))))))) (fun hw => st_pick_t rfl rfl rfl (st_mv rfl (st_gft rfl (st_gft rfl (st_gft rfl (st_gft rfl (st_gft rfl (st_pick_f rfl rfl rfl (st_mv rfl (st_gft rfl (st_gft rfl (st_gft rfl (st_gft rfl (st_gft rfl (st_pick_f rfl rfl rfl (st_mv rfl (g_endq [(4, .bool false)] rfl ?_)))))))))))))))))))))))))))) (fun hw => st_mv rfl (st_gft rfl (st_gft rfl (st_gft rfl (st_gft rfl (st_gft rfl (st_pick_f rfl rfl rfl (st_mv rfl (st_gft rfl (st_gft rfl (st_gft rfl (st_gft rfl (st_gft rfl (st_pick_f rfl rfl rfl (st_mv rfl (st_gft rfl (st_gft rfl (st_gft rfl (st_gft rfl (st_gft rfl (st_pick_f rfl rfl rfl (st_mv rfl (g_endq [(4, .bool false)] rfl ?_))))))))))))))))))))))))))))
  · exact sc_ret (gr1 (g := zg13) (ho := fun _ => []) [.bool r3] hw (.inr rfl) (wr []))
  · exact sc_ret (gr1 (g := zg13) (ho := fun _ => []) [.bool false] hw (.inr rfl) (wr []))
  · exact sc_ret (gr1 (g := zg13) (ho := fun _ => []) [.bool false] hw (.inr rfl) (wr []))
  · exact sc_ret (gr1 (g := zg13) (ho := fun _ => []) [.bool false] hw (.inr rfl) (wr []))
def hc15 : C := (.seq (.reg [oo 4 (.mv (.c (.int .i64 0)))] [0, 1]) (.seq (.seq (.reg [mo 5 0, oo 6 (.bin .lss 5 (.c (.int .i64 0)))] [0, 1, 6]) (.cond 6 (.reg [mo 7 0, oo 8 (.bin .add 7 (.c (.int .i64 1))), oo 9 (.un .neg 8), mo 0 9] [0, 1]) .skip)) (.seq (.reg [mo 10 0, mo 11 1, oo 12 (.bin .rem 10 11), mo 4 12] [4]) .ret)))
def ha15 : Ann := ⟨[], [], [(0, [0, 1]), (1, [0, 1, 6]), (2, [0, 1]), (3, [4])], []⟩
theorem hk15 : comp Try.prog ha15 Try.f15.ntmps Try.f15.code = some hc15 := by kernel_rfl
def w15 (p1 : Int) (p2 : Int) (Q : Int → Prop) : Prop :=
  ∃ J4 : Int → Prop, (((p1 < (0 : Int) → (R64 (p1 + (1 : Int))) ∧ ∀ v5 : Int, v5 = p1 + (1 : Int) → (-9223372036854775807 ≤ v5 ∧ v5 ≤ 9223372036854775807) ∧ ∀ v6 : Int, v6 = -(v5) → J4 v6) ∧ ((0 : Int) ≤ p1 → J4 p1))) ∧ ∀ (v3 : Int), J4 v3 → (p2 ≠ 0) ∧ ∀ v7 : Int, v7 = (v3).tmod p2 → Q v7
theorem ok15 (p1 : Int) (p2 : Int) (r : Int) (hw : w15 p1 p2 fun r' => r' = r) : sp15 p1 p2 r := by
  refine zf (rs := [.t 4]) (g := zg15) Try.func15 hk15 ?_
  unfold w15 at hw
  show SC Try.prog Try.f15.ntmps 0 hc15 _ [(0, ii p1), (1, ii p2)] []
  unfold hc15
  refine q_reg (st_mv rfl (g_endq [(0, ii p1), (1, ii p2)] rfl ?_))
  obtain ⟨J4, hw, hk⟩ := hw
  refine sc_join (A := Int) (fun x => J4 x) (fun x => ([(0, ii x), (1, ii p2)], [])) ?_ ?_
  · rintro v3 hj
    have hw := hk v3 hj
    clear hk hj
    refine q_reg (st_mv rfl (st_mv rfl (g_rem rfl rfl hw fun v7 hw => st_mv rfl (g_endq [(4, ii v7)] rfl ?_))))
    exact sc_ret (gr1 (g := zg15) (ho := fun _ => []) [ii v7] hw (.inr rfl) ws)
  · clear hk
    refine q_reg (st_mv rfl (g_lss rfl rfl hw (fun hw => g_endq [(0, ii p1), (1, ii p2), (6, .bool true)] rfl ?_) (fun hw => g_endq [(0, ii p1), (1, ii p2), (6, .bool false)] rfl ?_)))
    · refine s_cond_t rfl (s_reg (st_mv rfl (g_add rfl rfl hw fun v5 hw => g_neg rfl hw fun v6 hw => st_mv rfl (g_end [(0, ii v6), (1, ii p2)] rfl ?_))))
      exact jo_n v6 hw ws
    · exact s_cond_f rfl (sc_skip (jo_n p1 hw ws))
def hc38 : C := (.seq (.reg [oo 5 (.alloc none [(.int .i64 0), (.int .i64 0), (.str []), (.list [] .full)])] [0, 1, 2, 3, 5]) (.seq (.seq (.reg [oo 9 (.load none 1), oo 10 (.load none 2), oo 11 (.len false 10), oo 12 (.bin .geq 9 11), mo 13 12, og 14 (.load none 1) 13 false, og 15 (.bin .geq 14 (.c (.int .i64 60))) 13 false, oo 16 (.pick 13 (.c (.bool true)) 15), mo 17 16, og 18 (.mv 0) 17 false, og 19 (.bin .gtr 18 (.c (.int .i64 20))) 17 false, oo 20 (.pick 17 (.c (.bool true)) 19)] [0, 1, 2, 3, 5, 20]) (.cond 20 (.seq (.reg [oo 21 (.build [(.int .i64 0), (.int .i64 0), (.str []), (.list [] .full)] [(0, 1, (.c (.int .i64 1)))]), os (.store 4 5 21)] [5]) .ret) .skip)) (.seq (.reg [oo 22 (.load none 2), oo 23 (.load none 1), oo 24 (.iaddr 4 22 23), oo 25 (.load (some 4) 24), oo 6 (.alloc none [(.int .i64 0), (.int .i64 0), (.int .i64 0), (.str [])]), os (.store 4 6 25)] [0, 1, 3, 5, 6]) (.seq (.reg [oo 26 (.load none 1), oo 27 (.bin .add 26 (.c (.int .i64 1))), os (.store 1 1 27)] [0, 3, 5, 6]) (.seq (.reg [oo 28 (.faddr 0 1 6), oo 29 (.load none 28), co 30 (.call 15 [29, (.c (.int .i64 8))]), oo 31 (.bin .add (.c (.int .i64 1)) 30), oo 32 (.build [(.int .i64 0), (.int .i64 0), (.str []), (.list [] .full)] [(0, 1, 31)]), oo 7 (.alloc none [(.int .i64 0), (.int .i64 0), (.str []), (.list [] .full)]), os (.store 4 7 32)] [0, 3, 5, 6, 7]) (.seq (.reg [oo 8 (.mv (.c (.int .i64 0)))] [0, 3, 5, 6, 7, 8]) (.seq (.seq (.reg [oo 33 (.faddr 0 1 7), oo 34 (.load none 33)] [0, 3, 5, 6, 7, 8, 34]) (.block 0 (.seq (.seq (.reg [oo 36 (.eqv false .int 34 (.c (.int .i64 2))), mo 35 36] [0, 3, 5, 6, 7, 8, 34, 35]) (.cond 35 .skip (.reg [oo 37 (.eqv false .int 34 (.c (.int .i64 6))), mo 35 37] [0, 3, 5, 6, 7, 8, 34, 35]))) (.cond 35 (.reg [oo 38 (.faddr 1 1 6), oo 39 (.load none 38), oo 40 (.faddr 1 1 7), os (.store 1 40 39)] [0, 3, 5, 7, 8]) (.seq (.reg [oo 42 (.eqv false .int 34 (.c (.int .i64 3))), mo 41 42] [0, 3, 5, 6, 7, 8, 34, 41]) (.cond 41 (.reg [oo 43 (.faddr 1 1 6), oo 44 (.load none 43), co 45 (.call 15 [44, (.c (.int .i64 2))]), oo 46 (.faddr 1 1 7), os (.store 1 46 45)] [0, 3, 5, 7, 8]) (.seq (.reg [oo 48 (.eqv false .int 34 (.c (.int .i64 4))), mo 47 48] [0, 3, 5, 6, 7, 8, 34, 47]) (.cond 47 (.reg [oo 49 (.load (some 4) 6), co 50 (.call 39 [49]), oo 51 (.faddr 2 1 7), os (.store 1 51 50)] [0, 3, 5, 7, 8]) (.seq (.reg [oo 53 (.eqv false .int 34 (.c (.int .i64 5))), mo 52 53] [0, 3, 5, 6, 7, 8, 34, 52]) (.cond 52 (.dreg [oo 54 (.load (some 4) 6), co 55 (.call 39 [54]), oo 56 (.bin .add (.c (.str [77])) 55), oo 57 (.faddr 1 1 6), oo 58 (.load none 57), co 59 (.call 15 [58, (.c (.int .i64 4))]), oo 60 (.faddr 2 1 7), os (.store 1 60 56), mo 8 59] [] 0 [0, 3, 5, 7, 8]) (.seq (.reg [oo 62 (.eqv false .int 34 (.c (.int .i64 7))), mo 61 62] [0, 3, 5, 6, 7, 8, 34, 61]) (.cond 61 (.dreg [oo 63 (.faddr 1 1 6), oo 64 (.load none 63), oo 65 (.load (some 4) 6), co 66 (.call 39 [65]), oo 67 (.faddr 2 1 6), oo 68 (.load none 67), co 69 (.call 15 [68, (.c (.int .i64 3))]), oo 70 (.faddr 1 1 7), os (.store 1 70 64), oo 71 (.faddr 2 1 7), os (.store 1 71 66), mo 8 69] [] 0 [0, 3, 5, 7, 8]) (.seq (.reg [oo 73 (.eqv false .int 34 (.c (.int .i64 8))), mo 72 73] [0, 3, 5, 6, 7, 8, 72]) (.cond 72 (.reg [oo 74 (.faddr 1 1 6), oo 75 (.load none 74), co 76 (.call 15 [75, (.c (.int .i64 2))]), mo 8 76] [0, 3, 5, 7, 8]) .skip)))))))))))))) (.seq (.seq (.reg [mo 77 8, oo 78 (.mv (.c (.int .i64 0)))] [0, 3, 5, 7, 77, 78]) (.block 1 (.loop (.seq (.reg [oo 79 (.bin .lss 78 77)] [0, 3, 5, 7, 77, 78, 79]) (.seq (.cond 79 .skip (.exit 1)) (.seq (.block 2 (.dord [38, 105, 999999] [[oo 80 (.faddr 3 1 7), oo 81 (.load none 80), oo 82 (.load none 3), mo 83 0, oo 84 (.bin .add 83 (.c (.int .i64 1))), co 85 (.callv 82 [84]), oo 86 (.mklist 4 [85]), oo 87 (.append 4 56 81 86), oo 88 (.faddr 3 1 7), os (.store 1 88 87)], [oo 80 (.faddr 3 1 7), oo 82 (.load none 3), mo 83 0, oo 84 (.bin .add 83 (.c (.int .i64 1))), co 85 (.callv 82 [84]), oo 81 (.load none 80), oo 86 (.mklist 4 [85]), oo 87 (.append 4 56 81 86), oo 88 (.faddr 3 1 7), os (.store 1 88 87)]] 0 [0, 3, 5, 7, 77, 78])) (.reg [oo 89 (.bin .add 78 (.c (.int .i64 1))), mo 78 89] [0, 3, 5, 7, 77, 78]))))))) (.seq (.reg [oo 90 (.load (some 4) 7), os (.store 4 5 90)] [5]) .ret)))))))))
def ha38 : Ann := ⟨[], [38, 105, 999999], [(0, [0, 1, 2, 3, 5]), (1, [0, 1, 2, 3, 5, 20]), (2, [5]), (3, [0, 1, 3, 5, 6]), (4, [0, 3, 5, 6]), (5, [0, 3, 5, 6, 7]), (6, [0, 3, 5, 6, 7, 8]), (7, [0, 3, 5, 6, 7, 8, 34]), (8, [0, 3, 5, 6, 7, 8, 34, 35]), (9, [0, 3, 5, 6, 7, 8, 34, 35]), (10, [0, 3, 5, 7, 8]), (11, [0, 3, 5, 6, 7, 8, 34, 41]), (12, [0, 3, 5, 7, 8]), (13, [0, 3, 5, 6, 7, 8, 34, 47]), (14, [0, 3, 5, 7, 8]), (15, [0, 3, 5, 6, 7, 8, 34, 52]), (16, [0, 3, 5, 7, 8]), (17, [0, 3, 5, 6, 7, 8, 34, 61]), (18, [0, 3, 5, 7, 8]), (19, [0, 3, 5, 6, 7, 8, 72]), (20, [0, 3, 5, 7, 8]), (21, [0, 3, 5, 7, 77, 78]), (22, [0, 3, 5, 7, 77, 78, 79]), (23, [0, 3, 5, 7, 77, 78]), (24, [0, 3, 5, 7, 77, 78]), (25, [5])], [(23, [(1, 5)], [[0, 1, 2, 3, 4, 5, 6, 7, 8, 9], [0, 2, 3, 4, 5, 1, 6, 7, 8, 9]])]⟩
theorem hk38 : comp Try.prog ha38 Try.f38.ntmps Try.f38.code = some hc38 := by kernel_rfl
def w38 (p1 : Int) (p2 : Int) (p3 : List (GkRaw)) (Q : GaValue × Int × List (GkRaw) → Prop) : Prop :=
  (((p3.length : Int) ≤ p2 → Q ((GaValue.mk (1 : Int) (0 : Int) [] ([] : List GaValue)), p2, p3)) ∧ (p2 < (p3.length : Int) → (((60 : Int) ≤ p2 → Q ((GaValue.mk (1 : Int) (0 : Int) [] ([] : List GaValue)), p2, p3)) ∧ (p2 < (60 : Int) → (((20 : Int) < p1 → Q ((GaValue.mk (1 : Int) (0 : Int) [] ([] : List GaValue)), p2, p3)) ∧ (p1 ≤ (20 : Int) → (0 ≤ p2 ∧ p2 < (p3.length : Int)) ∧ ∀ a4 : GkRaw, p3[(p2 : Int).toNat]? = some a4 → (R64 (p2 + (1 : Int))) ∧ ∀ v5 : Int, v5 = p2 + (1 : Int) → ∃ r6 : Int, sp15 a4.Kind (8 : Int) r6 ∧ (R64 ((1 : Int) + r6)) ∧ ∀ v7 : Int, v7 = (1 : Int) + r6 → ∃ J11 : Int → (List UInt8) → Int → Prop, (∃ J13 : Bool → Prop, (((v7 = (2 : Int) → J13 true) ∧ (v7 ≠ (2 : Int) → ∀ v14 : Bool, v14 = (if false then !(v7 == (6 : Int)) else (v7 == (6 : Int))) → J13 v14))) ∧ ∀ (v12 : Bool), J13 v12 → ((v12 = true → J11 a4.A [] (0 : Int)) ∧ (v12 = false → ((v7 = (3 : Int) → ∃ r15 : Int, sp15 a4.A (2 : Int) r15 ∧ J11 r15 [] (0 : Int)) ∧ (v7 ≠ (3 : Int) → ((v7 = (4 : Int) → ∃ r16 : List UInt8, sp39 (GkRaw.mk a4.Kind a4.A a4.B a4.Text) r16 ∧ J11 (0 : Int) r16 (0 : Int)) ∧ (v7 ≠ (4 : Int) → ((v7 = (5 : Int) → ∃ r17 : List UInt8, sp39 (GkRaw.mk a4.Kind a4.A a4.B a4.Text) r17 ∧ ([77].length + r17.length ≤ 9223372036854775807) ∧ ∀ v18 : List UInt8, v18 = [77] ++ r17 → ∃ r19 : Int, sp15 a4.A (4 : Int) r19 ∧ J11 (0 : Int) v18 r19) ∧ (v7 ≠ (5 : Int) → ((v7 = (7 : Int) → ∃ r20 : List UInt8, sp39 (GkRaw.mk a4.Kind a4.A a4.B a4.Text) r20 ∧ ∃ r21 : Int, sp15 a4.B (3 : Int) r21 ∧ J11 a4.A r20 r21) ∧ (v7 ≠ (7 : Int) → ((v7 = (8 : Int) → ∃ r22 : Int, sp15 a4.A (2 : Int) r22 ∧ J11 (0 : Int) [] r22) ∧ (v7 ≠ (8 : Int) → J11 (0 : Int) [] (0 : Int)))))))))))))) ∧ ∀ (v8 : Int) (v9 : List UInt8) (v10 : Int), J11 v8 v9 v10 → ∃ (I32 : Int → (List GkRaw) → (List GaValue) → Int → Prop) (M33 : Int → (List GkRaw) → (List GaValue) → Int → Nat), I32 v5 p3 ([] : List GaValue) (0 : Int) ∧ ∀ (v23 : Int) (v24 : List GkRaw) (v25 : List GaValue) (v26 : Int), I32 v23 v24 v25 v26 → ∀ v34 : Bool, v34 = decide (v26 < v10) → ((v34 = true → (R64 (p1 + (1 : Int))) ∧ ∀ v35 : Int, v35 = p1 + (1 : Int) → ∃ r36 : GaValue × Int × List (GkRaw), sp38 v35 v23 v24 r36 ∧ ((v25.length + ([r36.1] : List GaValue).length) * 56 ≤ 140737488355328) ∧ ∀ v37 : List GaValue, v37 = v25 ++ ([r36.1] : List GaValue) → (R64 (v26 + (1 : Int))) ∧ ∀ v38 : Int, v38 = v26 + (1 : Int) → (I32 r36.2.1 r36.2.2 v37 v38 ∧ M33 r36.2.1 r36.2.2 v37 v38 < M33 v23 v24 v25 v26)) ∧ (v34 = false → Q ((GaValue.mk v7 v8 v9 v25), v23, v24)))))))))
theorem ok38 (p1 : Int) (p2 : Int) (p3 : List (GkRaw)) (r : GaValue × Int × List (GkRaw)) (hw : w38 p1 p2 p3 fun r' => r' = r) : sp38 p1 p2 p3 r := by
  refine zh (rs := [.c 5 (some 4)]) Try.func38 hk38 ?_
  unfold w38 at hw
  show SC Try.prog Try.f38.ntmps 3 hc38 _ [(0, ii p1), (1, .ptr 0 0), (2, .ptr 1 0), (3, .ptr 2 0)] [.cells [ii p2], .cells [ln eGkRaw p3], .cells [.func 38 [.ptr 0 0, .ptr 1 0, .ptr 2 0]]]
  unfold hc38
  refine q_reg (g_alloc (n := 3) rfl rfl (g_endq [(0, ii p1), (1, .ptr 0 0), (2, .ptr 1 0), (3, .ptr 2 0), (5, .ptr 3 0)] rfl ?_))
  refine sc_seq (q_reg (g_load_p rfl rfl rfl (g_load_p rfl rfl rfl (g_len rfl (g_geq rfl rfl hw (fun hw => st_mv rfl (st_gtf rfl (st_gtf rfl (st_pick_t rfl rfl rfl (st_mv rfl (st_gtf rfl (st_gtf rfl (st_pick_t rfl rfl rfl (g_endq [(0, ii p1), (1, .ptr 0 0), (2, .ptr 1 0), (3, .ptr 2 0), (5, .ptr 3 0), (20, .bool true)] rfl ?_))))))))) (fun hw => st_mv rfl (st_g rfl (g_load_p rfl rfl rfl (st_g rfl (g_geq rfl rfl hw (fun hw => st_pick_f rfl rfl rfl (st_mv rfl (st_gtf rfl (st_gtf rfl (st_pick_t rfl rfl rfl (g_endq [(0, ii p1), (1, .ptr 0 0), (2, .ptr 1 0), (3, .ptr 2 0), (5, .ptr 3 0), (20, .bool true)] rfl ?_)))))) (fun hw => st_pick_f rfl rfl rfl (st_mv rfl (st_g rfl (st_mv rfl (st_g rfl (g_gtr rfl rfl hw (fun hw => st_pick_f rfl rfl rfl (g_endq [(0, ii p1), (1, .ptr 0 0), (2, .ptr 1 0), (3, .ptr 2 0), (5, .ptr 3 0), (20, .bool true)] rfl ?_)) (fun hw => st_pick_f rfl rfl rfl (g_endq [(0, ii p1), (1, .ptr 0 0), (2, .ptr 1 0), (3, .ptr 2 0), (5, .ptr 3 0), (20, .bool false)] rfl ?_))))))))))))))))))
  · refine s_cond_t rfl (q_reg (g_build (cs := [ii 1, ii 0, .str [], nl eGaValue]) (ep_cons rfl ep_nil) rfl (g_sp (v := .agg [ii 1, ii 0, .str [], nl eGaValue]) (h' := [.cells [ii p2], .cells [ln eGkRaw p3], .cells [.func 38 [.ptr 0 0, .ptr 1 0, .ptr 2 0]], .cells [ii 1, ii 0, .str [], nl eGaValue]]) rfl rfl rfl (g_endq [(5, .ptr 3 0)] rfl ?_))))
    exact sc_ret (sq_r (gr (g := zg38) (ho := zo38) [.agg [ii 1, ii 0, .str [], nl eGaValue]] [.agg [ii 1, ii 0, .str [], ln eGaValue ([] : List GaValue)]] hw (.inr rfl) (weak_renm 3 rfl [0, 1, 2] (by decide) (by decide) (ro_cells rfl (rl_cons (.pv _ (.int _ _)) rfl rl_nil) (ro_cells rfl (rl_cons (.pv _ (pv_lst enc_GkRaw _ _ (by simp))) rfl rl_nil) (ro_cells rfl (rl_cons (Ren.fn (rf_cons (.ptr _ _ _ rfl) (rf_cons (.ptr _ _ _ rfl) (rf_cons (.ptr _ _ _ rfl) rf_nil)))) rfl rl_nil) ro_nil))) (re_cons1 rfl (.pv _ (.agg _ (pvc (.int _ _) (pvc (.int _ _) (pvc (.str _) (pvc (pv_lst enc_GaValue _ _ (by simp)) pvn)))))) re_nil))))
  · refine s_cond_t rfl (q_reg (g_build (cs := [ii 1, ii 0, .str [], nl eGaValue]) (ep_cons rfl ep_nil) rfl (g_sp (v := .agg [ii 1, ii 0, .str [], nl eGaValue]) (h' := [.cells [ii p2], .cells [ln eGkRaw p3], .cells [.func 38 [.ptr 0 0, .ptr 1 0, .ptr 2 0]], .cells [ii 1, ii 0, .str [], nl eGaValue]]) rfl rfl rfl (g_endq [(5, .ptr 3 0)] rfl ?_))))
    exact sc_ret (sq_r (gr (g := zg38) (ho := zo38) [.agg [ii 1, ii 0, .str [], nl eGaValue]] [.agg [ii 1, ii 0, .str [], ln eGaValue ([] : List GaValue)]] hw (.inr rfl) (weak_renm 3 rfl [0, 1, 2] (by decide) (by decide) (ro_cells rfl (rl_cons (.pv _ (.int _ _)) rfl rl_nil) (ro_cells rfl (rl_cons (.pv _ (pv_lst enc_GkRaw _ _ (by simp))) rfl rl_nil) (ro_cells rfl (rl_cons (Ren.fn (rf_cons (.ptr _ _ _ rfl) (rf_cons (.ptr _ _ _ rfl) (rf_cons (.ptr _ _ _ rfl) rf_nil)))) rfl rl_nil) ro_nil))) (re_cons1 rfl (.pv _ (.agg _ (pvc (.int _ _) (pvc (.int _ _) (pvc (.str _) (pvc (pv_lst enc_GaValue _ _ (by simp)) pvn)))))) re_nil))))
  · refine s_cond_t rfl (q_reg (g_build (cs := [ii 1, ii 0, .str [], nl eGaValue]) (ep_cons rfl ep_nil) rfl (g_sp (v := .agg [ii 1, ii 0, .str [], nl eGaValue]) (h' := [.cells [ii p2], .cells [ln eGkRaw p3], .cells [.func 38 [.ptr 0 0, .ptr 1 0, .ptr 2 0]], .cells [ii 1, ii 0, .str [], nl eGaValue]]) rfl rfl rfl (g_endq [(5, .ptr 3 0)] rfl ?_))))
    exact sc_ret (sq_r (gr (g := zg38) (ho := zo38) [.agg [ii 1, ii 0, .str [], nl eGaValue]] [.agg [ii 1, ii 0, .str [], ln eGaValue ([] : List GaValue)]] hw (.inr rfl) (weak_renm 3 rfl [0, 1, 2] (by decide) (by decide) (ro_cells rfl (rl_cons (.pv _ (.int _ _)) rfl rl_nil) (ro_cells rfl (rl_cons (.pv _ (pv_lst enc_GkRaw _ _ (by simp))) rfl rl_nil) (ro_cells rfl (rl_cons (Ren.fn (rf_cons (.ptr _ _ _ rfl) (rf_cons (.ptr _ _ _ rfl) (rf_cons (.ptr _ _ _ rfl) rf_nil)))) rfl rl_nil) ro_nil))) (re_cons1 rfl (.pv _ (.agg _ (pvc (.int _ _) (pvc (.int _ _) (pvc (.str _) (pvc (pv_lst enc_GaValue _ _ (by simp)) pvn)))))) re_nil))))
  · refine s_cond_f rfl (sc_skip (sq_n (q_reg (g_load_p rfl rfl rfl (g_load_p rfl rfl rfl (g_iaddr enc_GkRaw rfl rfl hw fun a4 hw => st_load_r (v := eGkRaw a4) rfl rfl (g_alloc (n := 4) rfl rfl (g_sp (v := eGkRaw a4) (h' := [.cells [ii p2], .cells [ln eGkRaw p3], .cells [.func 38 [.ptr 0 0, .ptr 1 0, .ptr 2 0]], .cells [ii 0, ii 0, .str [], nl eGaValue], .cells (HV.cells (eGkRaw a4))]) rfl rfl rfl (g_endq [(0, ii p1), (1, .ptr 0 0), (3, .ptr 2 0), (5, .ptr 3 0), (6, .ptr 4 0)] rfl ?_)))))))))
    refine q_reg (g_load_p rfl rfl rfl (g_add rfl rfl hw fun v5 hw => g_sp (v := ii v5) (h' := [.cells [ii v5], .cells [ln eGkRaw p3], .cells [.func 38 [.ptr 0 0, .ptr 1 0, .ptr 2 0]], .cells [ii 0, ii 0, .str [], nl eGaValue], .cells (HV.cells (eGkRaw a4))]) rfl rfl rfl (g_endq [(0, ii p1), (3, .ptr 2 0), (5, .ptr 3 0), (6, .ptr 4 0)] rfl ?_)))
    refine q_reg (g_faddr_p rfl (g_load_p rfl rfl rfl (k_call dh (ec rfl (ec rfl en)) rfl hw fun r6 hw => g_add rfl rfl hw fun v7 hw => g_build (cs := [ii v7, ii 0, .str [], nl eGaValue]) (ep_cons rfl ep_nil) rfl (g_alloc (n := 5) rfl rfl (g_sp (v := .agg [ii v7, ii 0, .str [], nl eGaValue]) (h' := [.cells [ii v5], .cells [ln eGkRaw p3], .cells [.func 38 [.ptr 0 0, .ptr 1 0, .ptr 2 0]], .cells [ii 0, ii 0, .str [], nl eGaValue], .cells (HV.cells (eGkRaw a4)), .cells [ii v7, ii 0, .str [], nl eGaValue]]) rfl rfl rfl (g_endq [(0, ii p1), (3, .ptr 2 0), (5, .ptr 3 0), (6, .ptr 4 0), (7, .ptr 5 0)] rfl ?_))))))
    refine q_reg (st_mv rfl (g_endq [(0, ii p1), (3, .ptr 2 0), (5, .ptr 3 0), (6, .ptr 4 0), (7, .ptr 5 0), (8, ii 0)] rfl ?_))
    obtain ⟨J11, hw, hk⟩ := hw
    refine sc_join (A := Int × List UInt8 × Int) (fun x => J11 x.1 x.2.1 x.2.2) (fun x => ([(0, ii p1), (3, .ptr 2 0), (5, .ptr 3 0), (7, .ptr 4 0), (8, ii x.2.2)], [.cells [ii v5], .cells [ln eGkRaw p3], .cells [.func 38 [.ptr 0 0, .ptr 1 0, .ptr 2 0]], .cells [ii 0, ii 0, .str [], nl eGaValue], .cells [ii v7, ii x.1, .str x.2.1, nl eGaValue]])) ?_ ?_
    · rintro ⟨v8, v9, v10⟩ hj
      have hw := hk v8 v9 v10 hj
      clear hk hj
      refine sc_seq (q_reg (st_mv rfl (st_mv rfl (g_endq [(0, ii p1), (3, .ptr 2 0), (5, .ptr 3 0), (7, .ptr 4 0), (77, ii v10), (78, ii 0)] rfl ?_))))
      refine sc_block ?_
      obtain ⟨I32, M33, hi, hw⟩ := hw
      refine sc_loop (X := { x : Int × List GkRaw × List GaValue × Int // I32 x.1 x.2.1 x.2.2.1 x.2.2.2 }) (fun x => ([(0, ii p1), (3, .ptr 2 0), (5, .ptr 3 0), (7, .ptr 4 0), (77, ii v10), (78, ii x.1.2.2.2)], [.cells [ii x.1.1], .cells [ln eGkRaw x.1.2.1], .cells [.func 38 [.ptr 0 0, .ptr 1 0, .ptr 2 0]], .cells [ii 0, ii 0, .str [], nl eGaValue], .cells [ii v7, ii v8, .str v9, .list (List.map eGaValue x.1.2.2.1) (.own 5 1 4)], .tok (1 + x.1.2.2.1.length)])) (fun x => M33 x.1.1 x.1.2.1 x.1.2.2.1 x.1.2.2.2) ⟨(v5, p3, ([] : List GaValue), (0 : Int)), hi⟩ ((w_acc_cell (l := ([] : List GaValue)) (f := _) 4 3 4 (n := 5) (h' := [.cells [ii v5], .cells [ln eGkRaw p3], .cells [.func 38 [.ptr 0 0, .ptr 1 0, .ptr 2 0]], .cells [ii 0, ii 0, .str [], nl eGaValue], .cells [ii v7, ii v8, .str v9, .list (List.map eGaValue ([] : List GaValue)) (.own 5 1 4)], .tok (1 + ([] : List GaValue).length)]) rfl enc_GaValue rfl rfl rfl).trans ws) ?_
      rintro ⟨⟨v23, v24, v25, v26⟩, hi2⟩
      have hw := hw v23 v24 v25 v26 hi2
      clear hi
      refine q_reg (gb_cmp rfl rfl trivial rfl hw fun v34 hw => g_endq [(0, ii p1), (3, .ptr 2 0), (5, .ptr 3 0), (7, .ptr 4 0), (77, ii v10), (78, ii v26), (79, .bool v34)] rfl ?_)
      refine sc_seq (s_cond rfl hw (fun hw => ?_) (fun hw => ?_))
      · refine sc_skip (sq_n (sc_seq (sc_block (s_dord Try.mixed rfl rfl ⟨?_, ?_, trivial⟩))))
        · refine g_faddr_p rfl (g_load_p rfl rfl rfl (g_load_p rfl rfl rfl (st_mv rfl (g_add rfl rfl hw fun v35 hw => khv (hin := (ro_cells rfl (rl_cons (.pv _ (.int _ _)) rfl rl_nil) (ro_cells rfl (rl_cons (.pv _ (pv_lst enc_GkRaw _ _ (by simp))) rfl rl_nil) (ro_cells rfl (rl_cons (Ren.fn (rf_cons (.ptr _ _ _ rfl) (rf_cons (.ptr _ _ _ rfl) (rf_cons (.ptr _ _ _ rfl) rf_nil)))) rfl rl_nil) ro_nil)))) (hback := fun _ => (ou_cells rfl (rl_cons (.pv _ (.int _ _)) rfl rl_nil) (ou_cells rfl (rl_cons (.pv _ (pv_lst enc_GkRaw _ _ (by simp))) rfl rl_nil) (ou_cells rfl (rl_cons (Ren.fn (rf_cons (.ptr _ _ _ rfl) (rf_cons (.ptr _ _ _ rfl) (rf_cons (.ptr _ _ _ rfl) rf_nil)))) rfl rl_nil) ou_nil)))) (hm rfl) rfl (g2 := fun r36 : GaValue × Int × List (GkRaw) => .agg [ii r36.1.Kind, ii r36.1.Num, .str r36.1.Text, ln eGaValue r36.1.Args]) (H2 := fun r36 : GaValue × Int × List (GkRaw) => [.cells [ii r36.2.1], .cells [ln eGkRaw r36.2.2], .cells [.func 38 [.ptr 0 0, .ptr 1 0, .ptr 2 0]], .cells [ii 0, ii 0, .str [], nl eGaValue], .cells [ii v7, ii v8, .str v9, .list (List.map eGaValue v25) (.own 5 1 4)], .tok (1 + v25.length)]) [0, 1, 2] [0, 1, 2] 6 0 (ec rfl en) hw fun r36 hw => g_mkl enc_GaValue [r36.1] (ec rfl en) (mk_cons (eGaValue_eq _).symm mk_nil) (mz mkn) (g_appo enc_GaValue rfl rfl rfl hw (fun z => [.cells [ii r36.2.1], .cells [ln eGkRaw r36.2.2], .cells [.func 38 [.ptr 0 0, .ptr 1 0, .ptr 2 0]], .cells [ii 0, ii 0, .str [], nl eGaValue], .cells [ii v7, ii v8, .str v9, .list (List.map eGaValue v25) (.own 5 1 4)], .tok (1 + z.length)]) (fun _ => rfl) fun v37 hw => g_faddr_p rfl (g_sp (v := .list (List.map eGaValue v37) (.own 5 1 4)) (h' := [.cells [ii r36.2.1], .cells [ln eGkRaw r36.2.2], .cells [.func 38 [.ptr 0 0, .ptr 1 0, .ptr 2 0]], .cells [ii 0, ii 0, .str [], nl eGaValue], .cells [ii v7, ii v8, .str v9, .list (List.map eGaValue v37) (.own 5 1 4)], .tok (1 + v37.length)]) rfl rfl rfl (g_end [(0, ii p1), (3, .ptr 2 0), (5, .ptr 3 0), (7, .ptr 4 0), (77, ii v10), (78, ii v26)] rfl ?_)))))))
          refine bl_n (sq_n (s_reg (g_add rfl rfl hw fun v38 hw => st_mv rfl (g_end [(0, ii p1), (3, .ptr 2 0), (5, .ptr 3 0), (7, .ptr 4 0), (77, ii v10), (78, ii v38)] rfl ?_))))
          exact lo_n ⟨(r36.2.1, r36.2.2, v37, v38), hw.1⟩ hw.2 ws
        · refine g_faddr_p rfl (g_load_p rfl rfl rfl (st_mv rfl (g_add rfl rfl hw fun v35 hw => khv (hin := (ro_cells rfl (rl_cons (.pv _ (.int _ _)) rfl rl_nil) (ro_cells rfl (rl_cons (.pv _ (pv_lst enc_GkRaw _ _ (by simp))) rfl rl_nil) (ro_cells rfl (rl_cons (Ren.fn (rf_cons (.ptr _ _ _ rfl) (rf_cons (.ptr _ _ _ rfl) (rf_cons (.ptr _ _ _ rfl) rf_nil)))) rfl rl_nil) ro_nil)))) (hback := fun _ => (ou_cells rfl (rl_cons (.pv _ (.int _ _)) rfl rl_nil) (ou_cells rfl (rl_cons (.pv _ (pv_lst enc_GkRaw _ _ (by simp))) rfl rl_nil) (ou_cells rfl (rl_cons (Ren.fn (rf_cons (.ptr _ _ _ rfl) (rf_cons (.ptr _ _ _ rfl) (rf_cons (.ptr _ _ _ rfl) rf_nil)))) rfl rl_nil) ou_nil)))) (hm rfl) rfl (g2 := fun r36 : GaValue × Int × List (GkRaw) => .agg [ii r36.1.Kind, ii r36.1.Num, .str r36.1.Text, ln eGaValue r36.1.Args]) (H2 := fun r36 : GaValue × Int × List (GkRaw) => [.cells [ii r36.2.1], .cells [ln eGkRaw r36.2.2], .cells [.func 38 [.ptr 0 0, .ptr 1 0, .ptr 2 0]], .cells [ii 0, ii 0, .str [], nl eGaValue], .cells [ii v7, ii v8, .str v9, .list (List.map eGaValue v25) (.own 5 1 4)], .tok (1 + v25.length)]) [0, 1, 2] [0, 1, 2] 6 0 (ec rfl en) hw fun r36 hw => g_load_p rfl rfl rfl (g_mkl enc_GaValue [r36.1] (ec rfl en) (mk_cons (eGaValue_eq _).symm mk_nil) (mz mkn) (g_appo enc_GaValue rfl rfl rfl hw (fun z => [.cells [ii r36.2.1], .cells [ln eGkRaw r36.2.2], .cells [.func 38 [.ptr 0 0, .ptr 1 0, .ptr 2 0]], .cells [ii 0, ii 0, .str [], nl eGaValue], .cells [ii v7, ii v8, .str v9, .list (List.map eGaValue v25) (.own 5 1 4)], .tok (1 + z.length)]) (fun _ => rfl) fun v37 hw => g_faddr_p rfl (g_sp (v := .list (List.map eGaValue v37) (.own 5 1 4)) (h' := [.cells [ii r36.2.1], .cells [ln eGkRaw r36.2.2], .cells [.func 38 [.ptr 0 0, .ptr 1 0, .ptr 2 0]], .cells [ii 0, ii 0, .str [], nl eGaValue], .cells [ii v7, ii v8, .str v9, .list (List.map eGaValue v37) (.own 5 1 4)], .tok (1 + v37.length)]) rfl rfl rfl (g_end [(0, ii p1), (3, .ptr 2 0), (5, .ptr 3 0), (7, .ptr 4 0), (77, ii v10), (78, ii v26)] rfl ?_)))))))
          refine bl_n (sq_n (s_reg (g_add rfl rfl hw fun v38 hw => st_mv rfl (g_end [(0, ii p1), (3, .ptr 2 0), (5, .ptr 3 0), (7, .ptr 4 0), (77, ii v10), (78, ii v38)] rfl ?_))))
          exact lo_n ⟨(r36.2.1, r36.2.2, v37, v38), hw.1⟩ hw.2 ws
      · refine sc_exit (sq_x (lo_x (bl_x (sq_n (q_reg (g_load_p (v := .agg [ii v7, ii v8, .str v9, .list (List.map eGaValue v25) (.own 5 1 4)]) rfl rfl rfl (g_sp (v := .agg [ii v7, ii v8, .str v9, .list (List.map eGaValue v25) (.own 5 1 4)]) (h' := [.cells [ii v23], .cells [ln eGkRaw v24], .cells [.func 38 [.ptr 0 0, .ptr 1 0, .ptr 2 0]], .cells [ii v7, ii v8, .str v9, .list (List.map eGaValue v25) (.own 5 1 4)], .cells [ii v7, ii v8, .str v9, .list (List.map eGaValue v25) (.own 5 1 4)], .tok (1 + v25.length)]) rfl rfl rfl (g_endq [(5, .ptr 3 0)] rfl ?_))))))))
        exact sc_ret (gr (g := zg38) (ho := zo38) [.agg [ii v7, ii v8, .str v9, .list (List.map eGaValue v25) (.own 5 1 4)]] [.agg [ii v7, ii v8, .str v9, ln eGaValue v25]] hw (.inr rfl) (weak_renm 3 rfl [0, 1, 2] (by decide) (by decide) (ro_cells rfl (rl_cons (.pv _ (.int _ _)) rfl rl_nil) (ro_cells rfl (rl_cons (.pv _ (pv_lst enc_GkRaw _ _ (by simp))) rfl rl_nil) (ro_cells rfl (rl_cons (Ren.fn (rf_cons (.ptr _ _ _ rfl) (rf_cons (.ptr _ _ _ rfl) (rf_cons (.ptr _ _ _ rfl) rf_nil)))) rfl rl_nil) ro_nil))) (re_cons1 rfl (.pv _ (.agg _ (pvc (.int _ _) (pvc (.int _ _) (pvc (.str _) (pvc (pv_lst enc_GaValue _ _ (by simp)) pvn)))))) re_nil)))
    · clear hk
      refine q_reg (g_faddr_p rfl (g_load_p rfl rfl rfl (g_endq [(0, ii p1), (3, .ptr 2 0), (5, .ptr 3 0), (6, .ptr 4 0), (7, .ptr 5 0), (8, ii 0), (34, ii v7)] rfl ?_)))
      refine sc_block ?_
      obtain ⟨J13, hw, hk⟩ := hw
      refine sc_join (A := Bool) (fun x => J13 x) (fun x => ([(0, ii p1), (3, .ptr 2 0), (5, .ptr 3 0), (6, .ptr 4 0), (7, .ptr 5 0), (8, ii 0), (34, ii v7), (35, .bool x)], [.cells [ii v5], .cells [ln eGkRaw p3], .cells [.func 38 [.ptr 0 0, .ptr 1 0, .ptr 2 0]], .cells [ii 0, ii 0, .str [], nl eGaValue], .cells (HV.cells (eGkRaw a4)), .cells [ii v7, ii 0, .str [], nl eGaValue]])) ?_ ?_
      · rintro v12 hj
        have hw := hk v12 hj
        clear hk hj
        refine s_cond rfl hw (fun hw => ?_) (fun hw => ?_)
        · refine s_reg (g_faddr_p rfl (g_load_p rfl rfl rfl (g_faddr_p rfl (g_sp (v := ii a4.A) (h' := [.cells [ii v5], .cells [ln eGkRaw p3], .cells [.func 38 [.ptr 0 0, .ptr 1 0, .ptr 2 0]], .cells [ii 0, ii 0, .str [], nl eGaValue], .cells (HV.cells (eGkRaw a4)), .cells [ii v7, ii a4.A, .str [], nl eGaValue]]) rfl rfl rfl (g_end [(0, ii p1), (3, .ptr 2 0), (5, .ptr 3 0), (7, .ptr 5 0), (8, ii 0)] rfl ?_)))))
          exact bl_n (jo_n (a4.A, [], (0 : Int)) hw (weak_renm 3 rfl [0, 1, 2, 3, 5] (by decide) (by decide) (ro_cells rfl (rl_cons (.pv _ (.int _ _)) rfl rl_nil) (ro_cells rfl (rl_cons (.pv _ (pv_lst enc_GkRaw _ _ (by simp))) rfl rl_nil) (ro_cells rfl (rl_cons (Ren.fn (rf_cons (.ptr _ _ _ rfl) (rf_cons (.ptr _ _ _ rfl) (rf_cons (.ptr _ _ _ rfl) rf_nil)))) rfl rl_nil) (ro_cells rfl (rl_cons (.pv _ (.int _ _)) rfl (rl_cons (.pv _ (.int _ _)) rfl (rl_cons (.pv _ (.str _)) rfl (rl_cons (.pv _ (pv_lst enc_GaValue _ _ (by simp))) rfl rl_nil)))) (ro_cells rfl (rl_cons (.pv _ (.int _ _)) rfl (rl_cons (.pv _ (.int _ _)) rfl (rl_cons (.pv _ (.str _)) rfl (rl_cons (.pv _ (pv_lst enc_GaValue _ _ (by simp))) rfl rl_nil)))) ro_nil))))) (re_cons rfl (.pv _ (.int _ _)) (re_cons rfl (.ptr _ _ _ rfl) (re_cons rfl (.ptr _ _ _ rfl) (re_cons rfl (.ptr _ _ _ rfl) (re_cons rfl (.pv _ (.int _ _)) re_nil)))))))
        · refine q_reg (g_eqi rfl rfl hw (fun hw => st_mv rfl (g_endq [(0, ii p1), (3, .ptr 2 0), (5, .ptr 3 0), (6, .ptr 4 0), (7, .ptr 5 0), (8, ii 0), (34, ii v7), (41, .bool true)] rfl ?_)) (fun hw => st_mv rfl (g_endq [(0, ii p1), (3, .ptr 2 0), (5, .ptr 3 0), (6, .ptr 4 0), (7, .ptr 5 0), (8, ii 0), (34, ii v7), (41, .bool false)] rfl ?_)))
          · refine s_cond_t rfl (s_reg (g_faddr_p rfl (g_load_p rfl rfl rfl (k_call dh (ec rfl (ec rfl en)) rfl hw fun r15 hw => g_faddr_p rfl (g_sp (v := ii r15) (h' := [.cells [ii v5], .cells [ln eGkRaw p3], .cells [.func 38 [.ptr 0 0, .ptr 1 0, .ptr 2 0]], .cells [ii 0, ii 0, .str [], nl eGaValue], .cells (HV.cells (eGkRaw a4)), .cells [ii v7, ii r15, .str [], nl eGaValue]]) rfl rfl rfl (g_end [(0, ii p1), (3, .ptr 2 0), (5, .ptr 3 0), (7, .ptr 5 0), (8, ii 0)] rfl ?_))))))
            exact bl_n (jo_n (r15, [], (0 : Int)) hw (weak_renm 3 rfl [0, 1, 2, 3, 5] (by decide) (by decide) (ro_cells rfl (rl_cons (.pv _ (.int _ _)) rfl rl_nil) (ro_cells rfl (rl_cons (.pv _ (pv_lst enc_GkRaw _ _ (by simp))) rfl rl_nil) (ro_cells rfl (rl_cons (Ren.fn (rf_cons (.ptr _ _ _ rfl) (rf_cons (.ptr _ _ _ rfl) (rf_cons (.ptr _ _ _ rfl) rf_nil)))) rfl rl_nil) (ro_cells rfl (rl_cons (.pv _ (.int _ _)) rfl (rl_cons (.pv _ (.int _ _)) rfl (rl_cons (.pv _ (.str _)) rfl (rl_cons (.pv _ (pv_lst enc_GaValue _ _ (by simp))) rfl rl_nil)))) (ro_cells rfl (rl_cons (.pv _ (.int _ _)) rfl (rl_cons (.pv _ (.int _ _)) rfl (rl_cons (.pv _ (.str _)) rfl (rl_cons (.pv _ (pv_lst enc_GaValue _ _ (by simp))) rfl rl_nil)))) ro_nil))))) (re_cons rfl (.pv _ (.int _ _)) (re_cons rfl (.ptr _ _ _ rfl) (re_cons rfl (.ptr _ _ _ rfl) (re_cons rfl (.ptr _ _ _ rfl) (re_cons rfl (.pv _ (.int _ _)) re_nil)))))))
          · refine s_cond_f rfl (q_reg (g_eqi rfl rfl hw (fun hw => st_mv rfl (g_endq [(0, ii p1), (3, .ptr 2 0), (5, .ptr 3 0), (6, .ptr 4 0), (7, .ptr 5 0), (8, ii 0), (34, ii v7), (47, .bool true)] rfl ?_)) (fun hw => st_mv rfl (g_endq [(0, ii p1), (3, .ptr 2 0), (5, .ptr 3 0), (6, .ptr 4 0), (7, .ptr 5 0), (8, ii 0), (34, ii v7), (47, .bool false)] rfl ?_))))
            · refine s_cond_t rfl (s_reg (g_load_p (v := .agg [ii a4.Kind, ii a4.A, ii a4.B, .str a4.Text]) rfl rfl rfl (k_call dh (ec rfl en) rfl hw fun r16 hw => g_faddr_p rfl (g_sp (v := .str r16) (h' := [.cells [ii v5], .cells [ln eGkRaw p3], .cells [.func 38 [.ptr 0 0, .ptr 1 0, .ptr 2 0]], .cells [ii 0, ii 0, .str [], nl eGaValue], .cells (HV.cells (eGkRaw a4)), .cells [ii v7, ii 0, .str r16, nl eGaValue]]) rfl rfl rfl (g_end [(0, ii p1), (3, .ptr 2 0), (5, .ptr 3 0), (7, .ptr 5 0), (8, ii 0)] rfl ?_)))))
              exact bl_n (jo_n ((0 : Int), r16, (0 : Int)) hw (weak_renm 3 rfl [0, 1, 2, 3, 5] (by decide) (by decide) (ro_cells rfl (rl_cons (.pv _ (.int _ _)) rfl rl_nil) (ro_cells rfl (rl_cons (.pv _ (pv_lst enc_GkRaw _ _ (by simp))) rfl rl_nil) (ro_cells rfl (rl_cons (Ren.fn (rf_cons (.ptr _ _ _ rfl) (rf_cons (.ptr _ _ _ rfl) (rf_cons (.ptr _ _ _ rfl) rf_nil)))) rfl rl_nil) (ro_cells rfl (rl_cons (.pv _ (.int _ _)) rfl (rl_cons (.pv _ (.int _ _)) rfl (rl_cons (.pv _ (.str _)) rfl (rl_cons (.pv _ (pv_lst enc_GaValue _ _ (by simp))) rfl rl_nil)))) (ro_cells rfl (rl_cons (.pv _ (.int _ _)) rfl (rl_cons (.pv _ (.int _ _)) rfl (rl_cons (.pv _ (.str _)) rfl (rl_cons (.pv _ (pv_lst enc_GaValue _ _ (by simp))) rfl rl_nil)))) ro_nil))))) (re_cons rfl (.pv _ (.int _ _)) (re_cons rfl (.ptr _ _ _ rfl) (re_cons rfl (.ptr _ _ _ rfl) (re_cons rfl (.ptr _ _ _ rfl) (re_cons rfl (.pv _ (.int _ _)) re_nil)))))))
            · refine s_cond_f rfl (q_reg (g_eqi rfl rfl hw (fun hw => st_mv rfl (g_endq [(0, ii p1), (3, .ptr 2 0), (5, .ptr 3 0), (6, .ptr 4 0), (7, .ptr 5 0), (8, ii 0), (34, ii v7), (52, .bool true)] rfl ?_)) (fun hw => st_mv rfl (g_endq [(0, ii p1), (3, .ptr 2 0), (5, .ptr 3 0), (6, .ptr 4 0), (7, .ptr 5 0), (8, ii 0), (34, ii v7), (52, .bool false)] rfl ?_))))
              · refine s_cond_t rfl (s_dreg Try.mixed rfl (g_load_p (v := .agg [ii a4.Kind, ii a4.A, ii a4.B, .str a4.Text]) rfl rfl rfl (k_call dd (ec rfl en) rfl hw fun r17 hw => g_sadd rfl rfl hw fun v18 hw => g_faddr_p rfl (g_load_p rfl rfl rfl (k_call dd (ec rfl (ec rfl en)) rfl hw fun r19 hw => g_faddr_p rfl (g_sp (v := .str v18) (h' := [.cells [ii v5], .cells [ln eGkRaw p3], .cells [.func 38 [.ptr 0 0, .ptr 1 0, .ptr 2 0]], .cells [ii 0, ii 0, .str [], nl eGaValue], .cells (HV.cells (eGkRaw a4)), .cells [ii v7, ii 0, .str v18, nl eGaValue]]) rfl rfl rfl (st_mv rfl (st_mid (g_end [(0, ii p1), (3, .ptr 2 0), (5, .ptr 3 0), (7, .ptr 5 0), (8, ii r19)] rfl ?_)))))))))
                exact bl_n (jo_n ((0 : Int), v18, r19) hw (weak_renm 3 rfl [0, 1, 2, 3, 5] (by decide) (by decide) (ro_cells rfl (rl_cons (.pv _ (.int _ _)) rfl rl_nil) (ro_cells rfl (rl_cons (.pv _ (pv_lst enc_GkRaw _ _ (by simp))) rfl rl_nil) (ro_cells rfl (rl_cons (Ren.fn (rf_cons (.ptr _ _ _ rfl) (rf_cons (.ptr _ _ _ rfl) (rf_cons (.ptr _ _ _ rfl) rf_nil)))) rfl rl_nil) (ro_cells rfl (rl_cons (.pv _ (.int _ _)) rfl (rl_cons (.pv _ (.int _ _)) rfl (rl_cons (.pv _ (.str _)) rfl (rl_cons (.pv _ (pv_lst enc_GaValue _ _ (by simp))) rfl rl_nil)))) (ro_cells rfl (rl_cons (.pv _ (.int _ _)) rfl (rl_cons (.pv _ (.int _ _)) rfl (rl_cons (.pv _ (.str _)) rfl (rl_cons (.pv _ (pv_lst enc_GaValue _ _ (by simp))) rfl rl_nil)))) ro_nil))))) (re_cons rfl (.pv _ (.int _ _)) (re_cons rfl (.ptr _ _ _ rfl) (re_cons rfl (.ptr _ _ _ rfl) (re_cons rfl (.ptr _ _ _ rfl) (re_cons rfl (.pv _ (.int _ _)) re_nil)))))))
              · refine s_cond_f rfl (q_reg (g_eqi rfl rfl hw (fun hw => st_mv rfl (g_endq [(0, ii p1), (3, .ptr 2 0), (5, .ptr 3 0), (6, .ptr 4 0), (7, .ptr 5 0), (8, ii 0), (34, ii v7), (61, .bool true)] rfl ?_)) (fun hw => st_mv rfl (g_endq [(0, ii p1), (3, .ptr 2 0), (5, .ptr 3 0), (6, .ptr 4 0), (7, .ptr 5 0), (8, ii 0), (34, ii v7), (61, .bool false)] rfl ?_))))
                · refine s_cond_t rfl (s_dreg Try.mixed rfl (g_faddr_p rfl (g_load_p rfl rfl rfl (g_load_p (v := .agg [ii a4.Kind, ii a4.A, ii a4.B, .str a4.Text]) rfl rfl rfl (k_call dd (ec rfl en) rfl hw fun r20 hw => g_faddr_p rfl (g_load_p rfl rfl rfl (k_call dd (ec rfl (ec rfl en)) rfl hw fun r21 hw => g_faddr_p rfl (g_sp (v := ii a4.A) (h' := [.cells [ii v5], .cells [ln eGkRaw p3], .cells [.func 38 [.ptr 0 0, .ptr 1 0, .ptr 2 0]], .cells [ii 0, ii 0, .str [], nl eGaValue], .cells (HV.cells (eGkRaw a4)), .cells [ii v7, ii a4.A, .str [], nl eGaValue]]) rfl rfl rfl (g_faddr_p rfl (g_sp (v := .str r20) (h' := [.cells [ii v5], .cells [ln eGkRaw p3], .cells [.func 38 [.ptr 0 0, .ptr 1 0, .ptr 2 0]], .cells [ii 0, ii 0, .str [], nl eGaValue], .cells (HV.cells (eGkRaw a4)), .cells [ii v7, ii a4.A, .str r20, nl eGaValue]]) rfl rfl rfl (st_mv rfl (st_mid (g_end [(0, ii p1), (3, .ptr 2 0), (5, .ptr 3 0), (7, .ptr 5 0), (8, ii r21)] rfl ?_)))))))))))))
                  exact bl_n (jo_n (a4.A, r20, r21) hw (weak_renm 3 rfl [0, 1, 2, 3, 5] (by decide) (by decide) (ro_cells rfl (rl_cons (.pv _ (.int _ _)) rfl rl_nil) (ro_cells rfl (rl_cons (.pv _ (pv_lst enc_GkRaw _ _ (by simp))) rfl rl_nil) (ro_cells rfl (rl_cons (Ren.fn (rf_cons (.ptr _ _ _ rfl) (rf_cons (.ptr _ _ _ rfl) (rf_cons (.ptr _ _ _ rfl) rf_nil)))) rfl rl_nil) (ro_cells rfl (rl_cons (.pv _ (.int _ _)) rfl (rl_cons (.pv _ (.int _ _)) rfl (rl_cons (.pv _ (.str _)) rfl (rl_cons (.pv _ (pv_lst enc_GaValue _ _ (by simp))) rfl rl_nil)))) (ro_cells rfl (rl_cons (.pv _ (.int _ _)) rfl (rl_cons (.pv _ (.int _ _)) rfl (rl_cons (.pv _ (.str _)) rfl (rl_cons (.pv _ (pv_lst enc_GaValue _ _ (by simp))) rfl rl_nil)))) ro_nil))))) (re_cons rfl (.pv _ (.int _ _)) (re_cons rfl (.ptr _ _ _ rfl) (re_cons rfl (.ptr _ _ _ rfl) (re_cons rfl (.ptr _ _ _ rfl) (re_cons rfl (.pv _ (.int _ _)) re_nil)))))))
                · refine s_cond_f rfl (q_reg (g_eqi rfl rfl hw (fun hw => st_mv rfl (g_endq [(0, ii p1), (3, .ptr 2 0), (5, .ptr 3 0), (6, .ptr 4 0), (7, .ptr 5 0), (8, ii 0), (72, .bool true)] rfl ?_)) (fun hw => st_mv rfl (g_endq [(0, ii p1), (3, .ptr 2 0), (5, .ptr 3 0), (6, .ptr 4 0), (7, .ptr 5 0), (8, ii 0), (72, .bool false)] rfl ?_))))
                  · refine s_cond_t rfl (s_reg (g_faddr_p rfl (g_load_p rfl rfl rfl (k_call dh (ec rfl (ec rfl en)) rfl hw fun r22 hw => st_mv rfl (g_end [(0, ii p1), (3, .ptr 2 0), (5, .ptr 3 0), (7, .ptr 5 0), (8, ii r22)] rfl ?_)))))
                    exact bl_n (jo_n ((0 : Int), [], r22) hw (weak_renm 3 rfl [0, 1, 2, 3, 5] (by decide) (by decide) (ro_cells rfl (rl_cons (.pv _ (.int _ _)) rfl rl_nil) (ro_cells rfl (rl_cons (.pv _ (pv_lst enc_GkRaw _ _ (by simp))) rfl rl_nil) (ro_cells rfl (rl_cons (Ren.fn (rf_cons (.ptr _ _ _ rfl) (rf_cons (.ptr _ _ _ rfl) (rf_cons (.ptr _ _ _ rfl) rf_nil)))) rfl rl_nil) (ro_cells rfl (rl_cons (.pv _ (.int _ _)) rfl (rl_cons (.pv _ (.int _ _)) rfl (rl_cons (.pv _ (.str _)) rfl (rl_cons (.pv _ (pv_lst enc_GaValue _ _ (by simp))) rfl rl_nil)))) (ro_cells rfl (rl_cons (.pv _ (.int _ _)) rfl (rl_cons (.pv _ (.int _ _)) rfl (rl_cons (.pv _ (.str _)) rfl (rl_cons (.pv _ (pv_lst enc_GaValue _ _ (by simp))) rfl rl_nil)))) ro_nil))))) (re_cons rfl (.pv _ (.int _ _)) (re_cons rfl (.ptr _ _ _ rfl) (re_cons rfl (.ptr _ _ _ rfl) (re_cons rfl (.ptr _ _ _ rfl) (re_cons rfl (.pv _ (.int _ _)) re_nil)))))))
                  · exact s_cond_f rfl (sc_skip (bl_n (jo_n ((0 : Int), [], (0 : Int)) hw (weak_renm 3 rfl [0, 1, 2, 3, 5] (by decide) (by decide) (ro_cells rfl (rl_cons (.pv _ (.int _ _)) rfl rl_nil) (ro_cells rfl (rl_cons (.pv _ (pv_lst enc_GkRaw _ _ (by simp))) rfl rl_nil) (ro_cells rfl (rl_cons (Ren.fn (rf_cons (.ptr _ _ _ rfl) (rf_cons (.ptr _ _ _ rfl) (rf_cons (.ptr _ _ _ rfl) rf_nil)))) rfl rl_nil) (ro_cells rfl (rl_cons (.pv _ (.int _ _)) rfl (rl_cons (.pv _ (.int _ _)) rfl (rl_cons (.pv _ (.str _)) rfl (rl_cons (.pv _ (pv_lst enc_GaValue _ _ (by simp))) rfl rl_nil)))) (ro_cells rfl (rl_cons (.pv _ (.int _ _)) rfl (rl_cons (.pv _ (.int _ _)) rfl (rl_cons (.pv _ (.str _)) rfl (rl_cons (.pv _ (pv_lst enc_GaValue _ _ (by simp))) rfl rl_nil)))) ro_nil))))) (re_cons rfl (.pv _ (.int _ _)) (re_cons rfl (.ptr _ _ _ rfl) (re_cons rfl (.ptr _ _ _ rfl) (re_cons rfl (.ptr _ _ _ rfl) (re_cons rfl (.pv _ (.int _ _)) re_nil)))))))))
      · clear hk
        refine q_reg (g_eqi rfl rfl hw (fun hw => st_mv rfl (g_endq [(0, ii p1), (3, .ptr 2 0), (5, .ptr 3 0), (6, .ptr 4 0), (7, .ptr 5 0), (8, ii 0), (34, ii v7), (35, .bool true)] rfl ?_)) (fun hw => st_mv rfl (g_endq [(0, ii p1), (3, .ptr 2 0), (5, .ptr 3 0), (6, .ptr 4 0), (7, .ptr 5 0), (8, ii 0), (34, ii v7), (35, .bool false)] rfl ?_)))
        · exact s_cond_t rfl (sc_skip (jo_n true hw ws))
        · refine s_cond_f rfl (s_reg (gb_eqi rfl rfl hw fun v14 hw => st_mv rfl (g_end [(0, ii p1), (3, .ptr 2 0), (5, .ptr 3 0), (6, .ptr 4 0), (7, .ptr 5 0), (8, ii 0), (34, ii v7), (35, .bool v14)] rfl ?_)))
          exact jo_n v14 hw ws
def hc39 : C := (.seq (.reg [oo 1 (.box none 4 0), oo 2 (.mv (.c (.str [])))] [1]) (.seq (.reg [oo 3 (.faddr 3 1 1), oo 4 (.load none 3), oo 5 (.faddr 3 1 1), oo 6 (.load none 5), oo 7 (.len true 6), oo 8 (.min [7, (.c (.int .i64 20))]), oo 9 (.sslice 4 none (some 8)), mo 2 9] [2]) .ret))
def ha39 : Ann := ⟨[], [], [(0, [1]), (1, [2])], []⟩
theorem hk39 : comp Try.prog ha39 Try.f39.ntmps Try.f39.code = some hc39 := by kernel_rfl
def w39 (p1 : GkRaw) (Q : List UInt8 → Prop) : Prop :=
  ∀ v2 : Int, v2 = min (p1.Text.length : Int) (20 : Int) → (0 ≤ (0 : Int) ∧ (0 : Int) ≤ v2 ∧ v2 ≤ (p1.Text.length : Int)) ∧ ∀ v3 : List UInt8, v3 = (p1.Text.take (v2 : Int).toNat).drop ((0 : Int) : Int).toNat → Q v3
theorem ok39 (p1 : GkRaw) (r : List UInt8) (hw : w39 p1 fun r' => r' = r) : sp39 p1 r := by
  refine zf (rs := [.t 2]) (g := zg39) Try.func39 hk39 ?_
  unfold w39 at hw
  show SC Try.prog Try.f39.ntmps 0 hc39 _ [(0, eGkRaw p1)] []
  unfold hc39
  refine q_reg (g_box (v := eGkRaw p1) rfl rfl rfl (n := 0) rfl rfl (st_mv rfl (g_endq [(1, .ptr 0 0)] rfl ?_)))
  refine q_reg (g_faddr_p rfl (g_load_p rfl rfl rfl (g_faddr_p rfl (g_load_p rfl rfl rfl (st_slen rfl (g_min rfl rfl hw fun v2 hw => g_sslice rfl bnd_none (bnd_some rfl) hw fun v3 hw => st_mv rfl (g_endq [(2, .str v3)] rfl ?_)))))))
  exact sc_ret (gr1 (g := zg39) (ho := fun _ => []) [.str v3] hw (.inr rfl) (wr []))
def hc40 : C := (.seq (.reg [oo 1 (.box none 4 0), oo 2 (.mv (.c (.int .i64 0)))] [1]) (.seq (.seq (.reg [oo 7 (.load (some 4) 1), co 8 (.call 84 [7]), mo 6 8, oo 9 (.extract 6 0), oo 10 (.extract 6 1), oo 11 (.extract 6 2), mo 3 9, mo 4 10, mo 5 11] [1, 3, 4, 5]) (.seq (.reg [mo 12 3, oo 13 (.bin .gtr 12 (.c (.int .i64 400))), mo 14 13, og 15 (.mv 4) 14 false, og 16 (.bin .gtr 15 (.c (.int .i64 40))) 14 false, oo 17 (.pick 14 (.c (.bool true)) 16), mo 18 17, og 19 (.mv 5) 18 false, og 20 (.bin .gtr 19 (.c (.int .i64 4000))) 18 false, oo 21 (.pick 18 (.c (.bool true)) 20)] [1, 21]) (.cond 21 (.seq (.reg [oo 2 (.mv (.c (.int .i64 2)))] [2]) .ret) .skip))) (.seq (.seq (.reg [oo 22 (.load (some 4) 1), co 23 (.call 85 [22]), oo 24 (.un .not 23)] [24]) (.cond 24 (.seq (.reg [oo 2 (.mv (.c (.int .i64 3)))] [2]) .ret) .skip)) (.seq (.reg [oo 2 (.mv (.c (.int .i64 0)))] [2]) .ret))))
def ha40 : Ann := ⟨[], [], [(0, [1]), (1, [1, 3, 4, 5]), (2, [1, 21]), (3, [2]), (4, [24]), (5, [2]), (6, [2])], []⟩
theorem hk40 : comp Try.prog ha40 Try.f40.ntmps Try.f40.code = some hc40 := by kernel_rfl
def w40 (p1 : GaValue) (Q : Int → Prop) : Prop :=
  ∃ r2 : Int × Int × Int, sp84 (GaValue.mk p1.Kind p1.Num p1.Text p1.Args) r2 ∧ (((400 : Int) < r2.1 → Q (2 : Int)) ∧ (r2.1 ≤ (400 : Int) → (((40 : Int) < r2.2.1 → Q (2 : Int)) ∧ (r2.2.1 ≤ (40 : Int) → (((4000 : Int) < r2.2.2 → Q (2 : Int)) ∧ (r2.2.2 ≤ (4000 : Int) → ∃ r3 : Bool, sp85 (GaValue.mk p1.Kind p1.Num p1.Text p1.Args) r3 ∧ (((!r3) = true → Q (3 : Int)) ∧ ((!r3) = false → Q (0 : Int)))))))))
theorem ok40 (p1 : GaValue) (r : Int) (hw : w40 p1 fun r' => r' = r) : sp40 p1 r := by
  refine zf (rs := [.t 2]) (g := zg40) Try.func40 hk40 ?_
  unfold w40 at hw
  show SC Try.prog Try.f40.ntmps 0 hc40 _ [(0, .agg [ii p1.Kind, ii p1.Num, .str p1.Text, ln eGaValue p1.Args])] []
  unfold hc40
  refine q_reg (g_box (v := .agg [ii p1.Kind, ii p1.Num, .str p1.Text, ln eGaValue p1.Args]) rfl rfl rfl (n := 0) rfl rfl (st_mv rfl (g_endq [(1, .ptr 0 0)] rfl ?_)))
  refine sc_seq (q_reg (g_load_p (v := .agg [ii p1.Kind, ii p1.Num, .str p1.Text, ln eGaValue p1.Args]) rfl rfl rfl (k_call dh (ec rfl en) rfl hw fun r2 hw => st_mv rfl (st_extract rfl rfl (st_extract rfl rfl (st_extract rfl rfl (st_mv rfl (st_mv rfl (st_mv rfl (g_endq [(1, .ptr 0 0), (3, ii r2.1), (4, ii r2.2.1), (5, ii r2.2.2)] rfl ?_))))))))))
  refine q_reg (st_mv rfl (g_gtr rfl rfl hw (fun hw => st_mv rfl (st_gtf rfl (st_gtf rfl (st_pick_t rfl rfl rfl (st_mv rfl (st_gtf rfl (st_gtf rfl (st_pick_t rfl rfl rfl (g_endq [(1, .ptr 0 0), (21, .bool true)] rfl ?_))))))))) (fun hw => st_mv rfl (st_g rfl (st_mv rfl (st_g rfl (g_gtr rfl rfl hw (fun hw => st_pick_f rfl rfl rfl (st_mv rfl (st_gtf rfl (st_gtf rfl (st_pick_t rfl rfl rfl (g_endq [(1, .ptr 0 0), (21, .bool true)] rfl ?_)))))) (fun hw => st_pick_f rfl rfl rfl (st_mv rfl (st_g rfl (st_mv rfl (st_g rfl (g_gtr rfl rfl hw (fun hw => st_pick_f rfl rfl rfl (g_endq [(1, .ptr 0 0), (21, .bool true)] rfl ?_)) (fun hw => st_pick_f rfl rfl rfl (g_endq [(1, .ptr 0 0), (21, .bool false)] rfl ?_)))))))))))))))
  · refine s_cond_t rfl (q_reg (st_mv rfl (g_endq [(2, ii 2)] rfl ?_)))
    exact sc_ret (sq_r (gr1 (g := zg40) (ho := fun _ => []) [ii 2] hw (.inr rfl) (wr [])))
  · refine s_cond_t rfl (q_reg (st_mv rfl (g_endq [(2, ii 2)] rfl ?_)))
    exact sc_ret (sq_r (gr1 (g := zg40) (ho := fun _ => []) [ii 2] hw (.inr rfl) (wr [])))
  · refine s_cond_t rfl (q_reg (st_mv rfl (g_endq [(2, ii 2)] rfl ?_)))
    exact sc_ret (sq_r (gr1 (g := zg40) (ho := fun _ => []) [ii 2] hw (.inr rfl) (wr [])))
  · refine s_cond_f rfl (sc_skip (sq_n (sc_seq (q_reg (g_load_p (v := .agg [ii p1.Kind, ii p1.Num, .str p1.Text, ln eGaValue p1.Args]) rfl rfl rfl (k_call dh (ec rfl en) rfl hw fun r3 hw => st_not rfl (g_endq [(24, .bool (!r3))] rfl ?_)))))))
    refine s_cond rfl hw (fun hw => ?_) (fun hw => ?_)
    · refine q_reg (st_mv rfl (g_endq [(2, ii 3)] rfl ?_))
      exact sc_ret (sq_r (gr1 (g := zg40) (ho := fun _ => []) [ii 3] hw (.inr rfl) (wr [])))
    · refine sc_skip (sq_n (q_reg (st_mv rfl (g_endq [(2, ii 0)] rfl ?_))))
      exact sc_ret (gr1 (g := zg40) (ho := fun _ => []) [ii 0] hw (.inr rfl) (wr []))
def hc41 : C := (.seq (.reg [oo 3 (.box none 4 1)] [0, 3]) (.seq (.dreg [mo 4 0, mo 5 0, oo 6 (.nilck 5), oo 7 (.faddr 0 1 6), oo 8 (.load none 7), oo 9 (.faddr 0 1 3), oo 10 (.load none 9), oo 11 (.conv (.int .u8) 10), oo 12 (.mklist 1 [11]), oo 13 (.append 1 1 8 12), oo 14 (.nilck 4), oo 15 (.faddr 0 1 14), os (.store 1 15 13)] [] 0 [0, 3]) (.seq (.reg [mo 16 0, oo 17 (.faddr 1 1 3), oo 18 (.load none 17), co 19 (.call 52 [16, 18])] [0, 3]) (.seq (.reg [mo 20 0, oo 21 (.faddr 2 1 3), oo 22 (.load none 21), co 23 (.call 86 [20, 22])] [0, 3]) (.reg [mo 24 0, oo 25 (.faddr 3 1 3), oo 26 (.load none 25), co 27 (.call 87 [24, 26])] [])))))
def ha41 : Ann := ⟨[], [52, 86, 87], [(0, [0, 3]), (1, [0, 3]), (2, [0, 3]), (3, [0, 3]), (4, [])], []⟩
theorem hk41 : comp Try.prog ha41 Try.f41.ntmps Try.f41.code = some hc41 := by kernel_rfl
def w41 (p1 : Gvwriter) (p2 : GaValue) (Q : Gvwriter → Prop) : Prop :=
  ∀ v3 : Int, v3 = IntKind.wrap .u8 p2.Kind → (∀ m ∈ ([v3] : List Int), 0 ≤ m ∧ m < 256) ∧ ((p1.f_b.length + ([v3].map (fun m : Int => UInt8.ofNat m.toNat)).length) * 1 ≤ 140737488355328) ∧ ∀ v4 : List UInt8, v4 = p1.f_b ++ ([v3].map (fun m : Int => UInt8.ofNat m.toNat)) → ∃ r5 : Gvwriter, sp52 (Gvwriter.mk v4) p2.Num r5 ∧ ∃ r6 : Gvwriter, sp86 (Gvwriter.mk r5.f_b) p2.Text r6 ∧ ∃ r7 : Gvwriter, sp87 (Gvwriter.mk r6.f_b) p2.Args r7 ∧ Q (Gvwriter.mk r7.f_b)
theorem ok41 (p1 : Gvwriter) (p2 : GaValue) (r : Gvwriter) (hw : w41 p1 p2 fun r' => r' = r) : sp41 p1 p2 r := by
  refine zh (rs := []) Try.func41 hk41 ?_
  unfold w41 at hw
  show SC Try.prog Try.f41.ntmps 2 hc41 _ [(0, .ptr 0 0), (1, .agg [ii p2.Kind, ii p2.Num, .str p2.Text, ln eGaValue p2.Args])] [.cells [.list (bytesOf p1.f_b) (.own 1 1 1)], .tok (1 + p1.f_b.length)]
  unfold hc41
  refine q_reg (g_box (v := .agg [ii p2.Kind, ii p2.Num, .str p2.Text, ln eGaValue p2.Args]) rfl rfl rfl (n := 2) rfl rfl (g_endq [(0, .ptr 0 0), (3, .ptr 2 0)] rfl ?_))
  refine sc_seq (s_dreg Try.mixed rfl (st_mv rfl (st_mv rfl (st_nilck_p rfl (g_faddr_p rfl (g_load_p rfl rfl rfl (g_faddr_p rfl (g_load_p rfl rfl rfl (g_conv rfl hw fun v3 hw => g_mkb (ms := [v3]) (ec rfl en) hw fun hw => g_appo enc_byte rfl rfl rfl hw (fun z => [.cells [.list (bytesOf p1.f_b) (.own 1 1 1)], .tok (1 + z.length), .cells [ii p2.Kind, ii p2.Num, .str p2.Text, ln eGaValue p2.Args]]) (fun _ => rfl) fun v4 hw => st_nilck_p rfl (g_faddr_p rfl (g_sp (v := .list (bytesOf v4) (.own 1 1 1)) (h' := [.cells [.list (bytesOf v4) (.own 1 1 1)], .tok (1 + v4.length), .cells [ii p2.Kind, ii p2.Num, .str p2.Text, ln eGaValue p2.Args]]) rfl rfl rfl (st_mid (g_end [(0, .ptr 0 0), (3, .ptr 2 0)] rfl ?_)))))))))))))
  refine sq_n (q_reg (st_mv rfl (g_faddr_p rfl (g_load_p rfl rfl rfl (kh hh (g2 := fun r5 : Gvwriter => .tuple []) (H2 := fun r5 : Gvwriter => [.cells [.list (bytesOf r5.f_b) (.own 1 1 1)], .tok (1 + r5.f_b.length), .cells [ii p2.Kind, ii p2.Num, .str p2.Text, ln eGaValue p2.Args]]) [0, 1] [0, 1] 3 0 (ec rfl (ec rfl en)) hw fun r5 hw => g_endq [(0, .ptr 0 0), (3, .ptr 2 0)] rfl ?_)))))
  refine q_reg (st_mv rfl (g_faddr_p rfl (g_load_p rfl rfl rfl (kh hh (g2 := fun r6 : Gvwriter => .tuple []) (H2 := fun r6 : Gvwriter => [.cells [.list (bytesOf r6.f_b) (.own 1 1 1)], .tok (1 + r6.f_b.length), .cells [ii p2.Kind, ii p2.Num, .str p2.Text, ln eGaValue p2.Args]]) [0, 1] [0, 1] 3 0 (ec rfl (ec rfl en)) hw fun r6 hw => g_endq [(0, .ptr 0 0), (3, .ptr 2 0)] rfl ?_))))
  refine s_reg (st_mv rfl (g_faddr_p rfl (g_load_p rfl rfl rfl (kh hh (g2 := fun r7 : Gvwriter => .tuple []) (H2 := fun r7 : Gvwriter => [.cells [.list (bytesOf r7.f_b) (.own 1 1 1)], .tok (1 + r7.f_b.length), .cells [ii p2.Kind, ii p2.Num, .str p2.Text, ln eGaValue p2.Args]]) [0, 1] [0, 1] 3 0 (ec rfl (ec rfl en)) hw fun r7 hw => g_end [] rfl ?_))))
  exact gr1 (g := zg41) (ho := zo41) [] hw (.inl rfl) (wrm 2 [0, 1])
def hc42 : C := (.seq (.reg [oo 2 (.mv (.c (.list [] .full)))] [0]) (.seq (.seq (.reg [mo 3 0, oo 4 (.eqv false .slice 3 (.c .nilslice))] [0, 4]) (.cond 4 (.seq (.reg [oo 2 (.mv (.c (.list [] .full)))] [2]) .ret) .skip)) (.seq (.reg [oo 5 (.mklist 1 []), mo 6 0, oo 7 (.append 1 1 5 6), mo 2 7] [2]) .ret)))
def ha42 : Ann := ⟨[], [], [(0, [0]), (1, [0, 4]), (2, [2]), (3, [2])], []⟩
theorem hk42 : comp Try.prog ha42 Try.f42.ntmps Try.f42.code = some hc42 := by kernel_rfl
def w42 (p1 : List UInt8) (Q : List UInt8 → Prop) : Prop :=
  ((p1.length = 0 → Q ([] : List UInt8)) ∧ (((([] : List UInt8).length + p1.length) * 1 ≤ 140737488355328) ∧ ∀ v2 : List UInt8, v2 = ([] : List UInt8) ++ p1 → Q v2))
theorem ok42 (p1 : List UInt8) (r : List UInt8) (hw : w42 p1 fun r' => r' = r) : sp42 p1 r := by
  refine zf (rs := [.t 2]) (g := zg42) Try.func42 hk42 ?_
  unfold w42 at hw
  show SC Try.prog Try.f42.ntmps 0 hc42 _ [(0, bn p1)] []
  unfold hc42
  refine q_reg (st_mv rfl (g_endq [(0, bn p1)] rfl ?_))
  refine sc_seq (q_reg (st_mv rfl (g_eqn2 rfl rfl hw (fun hw => g_endq [(0, bn p1), (4, .bool true)] rfl ?_) (fun hw => g_endq [(0, bn p1), (4, .bool false)] rfl ?_))))
  · refine s_cond_t rfl (q_reg (st_mv rfl (g_endq [(2, .list (bytesOf ([] : List UInt8)) .full)] rfl ?_)))
    exact sc_ret (sq_r (gr (g := zg42) (ho := fun _ => []) [.list (bytesOf ([] : List UInt8)) .full] [bn ([] : List UInt8)] hw (.inr rfl) ws))
  · refine s_cond_f rfl (sc_skip (sq_n (q_reg (g_mkl enc_byte [] en rfl mkn (st_mv rfl (g_appf enc_byte rfl rfl (n := 0) rfl hw fun v2 hw => st_mv rfl (g_endq [(2, .list (bytesOf v2) (.own 0 1 1))] rfl ?_)))))))
    exact sc_ret (gr (g := zg42) (ho := fun _ => []) [.list (bytesOf v2) (.own 0 1 1)] [bn v2] hw (.inr rfl) (wr []))
def hc44 : C := (.seq (.reg [oo 2 (.alloc none [(.int .i64 0), (.int .i64 0), (.str []), (.list [] .full)])] [0, 2]) (.seq (.reg [mo 3 0, oo 4 (.nilck 3), oo 5 (.faddr 2 1 4), os (.store 1 5 (.c (.int .i64 400)))] [0, 2]) (.seq (.reg [mo 6 0, co 7 (.call 88 [6, (.c (.int .i64 1))]), os (.store 4 2 7)] [2]) .ret)))
def ha44 : Ann := ⟨[], [88], [(0, [0, 2]), (1, [0, 2]), (2, [2])], []⟩
theorem hk44 : comp Try.prog ha44 Try.f44.ntmps Try.f44.code = some hc44 := by kernel_rfl
def w44 (p1 : Gvreader) (Q : GaValue × Gvreader → Prop) : Prop :=
  ∃ r2 : GaValue × Gvreader, sp88 (Gvreader.mk p1.rest p1.bad (400 : Int)) (1 : Int) r2 ∧ Q ((GaValue.mk r2.1.Kind r2.1.Num r2.1.Text r2.1.Args), (Gvreader.mk r2.2.rest r2.2.bad r2.2.left))
theorem ok44 (p1 : Gvreader) (r : GaValue × Gvreader) (hw : w44 p1 fun r' => r' = r) : sp44 p1 r := by
  refine zh (rs := [.c 2 (some 4)]) Try.func44 hk44 ?_
  unfold w44 at hw
  show SC Try.prog Try.f44.ntmps 1 hc44 _ [(0, .ptr 0 0)] [.cells [bn p1.rest, .bool p1.bad, ii p1.left]]
  unfold hc44
  refine q_reg (g_alloc (n := 1) rfl rfl (g_endq [(0, .ptr 0 0), (2, .ptr 1 0)] rfl ?_))
  refine q_reg (st_mv rfl (st_nilck_p rfl (g_faddr_p rfl (g_sp (v := ii 400) (h' := [.cells [bn p1.rest, .bool p1.bad, ii 400], .cells [ii 0, ii 0, .str [], nl eGaValue]]) rfl rfl rfl (g_endq [(0, .ptr 0 0), (2, .ptr 1 0)] rfl ?_)))))
  refine q_reg (st_mv rfl (kh hh (g2 := fun r2 : GaValue × Gvreader => .agg [ii r2.1.Kind, ii r2.1.Num, .str r2.1.Text, ln eGaValue r2.1.Args]) (H2 := fun r2 : GaValue × Gvreader => [.cells [bn r2.2.rest, .bool r2.2.bad, ii r2.2.left], .cells [ii 0, ii 0, .str [], nl eGaValue]]) [0] [0] 2 0 (ec rfl (ec rfl en)) hw fun r2 hw => g_sp (v := .agg [ii r2.1.Kind, ii r2.1.Num, .str r2.1.Text, ln eGaValue r2.1.Args]) (h' := [.cells [bn r2.2.rest, .bool r2.2.bad, ii r2.2.left], .cells [ii r2.1.Kind, ii r2.1.Num, .str r2.1.Text, ln eGaValue r2.1.Args]]) rfl rfl rfl (g_endq [(2, .ptr 1 0)] rfl ?_)))
  exact sc_ret (gr1 (g := zg44) (ho := zo44) [.agg [ii r2.1.Kind, ii r2.1.Num, .str r2.1.Text, ln eGaValue r2.1.Args]] hw (.inr rfl) (wrm 1 [0]))
def hc45 : C := (.seq (.reg [oo 8 (.mv (.c (.bool false)))] [0, 1, 2, 3]) (.seq (.reg [mo 9 0, oo 10 (.nilck 9), oo 11 (.faddr 1 1 10), oo 12 (.load none 11), oo 13 (.un .not 12), mo 14 13, og 15 (.mv 0) 14 true, og 16 (.nilck 15) 14 true, og 17 (.faddr 0 1 16) 14 true, og 18 (.load none 17) 14 true, og 19 (.len false 18) 14 true, og 20 (.eqv false .int 19 (.c (.int .i64 0))) 14 true, oo 21 (.pick 14 20 (.c (.bool false))), mo 22 21, og 23 (.mv 3) 22 true, og 24 (.eqv false .int 23 (.c (.int .i64 0))) 22 true, oo 25 (.pick 22 24 (.c (.bool false))), mo 26 25, og 27 (.mv 1) 26 true, og 28 (.mv 2) 26 true, cg 29 (.call 71 [27, 28]) 26 true, oo 30 (.pick 26 29 (.c (.bool false))), mo 8 30] [8]) .ret))
def ha45 : Ann := ⟨[], [], [(0, [0, 1, 2, 3]), (1, [8])], []⟩
theorem hk45 : comp Try.prog ha45 Try.f45.ntmps Try.f45.code = some hc45 := by kernel_rfl
def w45 (p1 : Gvreader) (p2 : List UInt8) (p3 : List UInt8) (p4 : Int) (Q : Bool × Gvreader → Prop) : Prop :=
  (((!p1.bad) = true → (((p1.rest.length : Int) = (0 : Int) → ((p4 = (0 : Int) → ∃ r5 : Bool, sp71 p2 p3 r5 ∧ Q (r5, (Gvreader.mk p1.rest p1.bad p1.left))) ∧ (p4 ≠ (0 : Int) → Q (false, (Gvreader.mk p1.rest p1.bad p1.left))))) ∧ ((p1.rest.length : Int) ≠ (0 : Int) → Q (false, (Gvreader.mk p1.rest p1.bad p1.left))))) ∧ ((!p1.bad) = false → Q (false, (Gvreader.mk p1.rest p1.bad p1.left))))
theorem ok45 (p1 : Gvreader) (p2 : List UInt8) (p3 : List UInt8) (p4 : Int) (r : Bool × Gvreader) (hw : w45 p1 p2 p3 p4 fun r' => r' = r) : sp45 p1 p2 p3 p4 r := by
  refine zh (rs := [.t 8]) Try.func45 hk45 ?_
  unfold w45 at hw
  show SC Try.prog Try.f45.ntmps 1 hc45 _ [(0, .ptr 0 0), (1, bn p2), (2, bn p3), (3, ii p4)] [.cells [bn p1.rest, .bool p1.bad, ii p1.left]]
  unfold hc45
  refine q_reg (st_mv rfl (g_endq [(0, .ptr 0 0), (1, bn p2), (2, bn p3), (3, ii p4)] rfl ?_))
  refine q_reg (st_mv rfl (st_nilck_p rfl (g_faddr_p rfl (g_load_p rfl rfl rfl (st_not rfl (st_mv rfl (g_split rfl hw ?_ ?_)))))))
  · intro c hw
    rw [c]
    refine st_g rfl (st_mv rfl (st_g rfl (st_nilck_p rfl (st_g rfl (g_faddr_p rfl (st_g rfl (g_load_p rfl rfl rfl (st_g rfl (g_len rfl (st_g rfl (g_eqi rfl rfl hw (fun hw => st_pick_t rfl rfl rfl (st_mv rfl (st_g rfl (st_mv rfl (st_g rfl (g_eqi rfl rfl hw (fun hw => st_pick_t rfl rfl rfl (st_mv rfl (st_g rfl (st_mv rfl (st_g rfl (st_mv rfl (st_g rfl (k_call dh (ec rfl (ec rfl en)) rfl hw fun r5 hw => st_pick_t rfl rfl rfl (st_mv rfl (g_endq [(8, .bool r5)] rfl ?_)))))))))) (fun hw => st_pick_t rfl rfl rfl (st_mv rfl (st_gft rfl (st_gft rfl (st_gft rfl (st_pick_f rfl rfl rfl (st_mv rfl (g_endq [(8, .bool false)] rfl ?_)))))))))))))) (fun hw => st_pick_t rfl rfl rfl (st_mv rfl (st_gft rfl (st_gft rfl (st_pick_f rfl rfl rfl (st_mv rfl (st_gft rfl (st_gft rfl (st_gft rfl (st_pick_f rfl rfl rfl (st_mv rfl (g_endq [(8, .bool false)] rfl ?_)))))))))))))))))))))))
    · exact sc_ret (gr1 (g := zg45) (ho := zo45) [.bool r5] hw (.inr rfl) ws)
    · exact sc_ret (gr1 (g := zg45) (ho := zo45) [.bool false] hw (.inr rfl) ws)
    · exact sc_ret (gr1 (g := zg45) (ho := zo45) [.bool false] hw (.inr rfl) ws)
  · intro c hw
    rw [c]
    refine st_gft rfl (st_gft rfl (st_gft rfl (st_gft rfl (st_gft rfl (st_gft rfl (st_pick_f rfl rfl rfl (st_mv rfl (st_gft rfl (st_gft rfl (st_pick_f rfl rfl rfl (st_mv rfl (st_gft rfl (st_gft rfl (st_gft rfl (st_pick_f rfl rfl rfl (st_mv rfl (g_endq [(8, .bool false)] rfl ?_)))))))))))))))))
    exact sc_ret (gr1 (g := zg45) (ho := zo45) [.bool false] hw (.inr rfl) ws)
def hc50 : C := (.seq (.block 0 (.loop (.seq (.seq (.reg [mo 4 1, oo 5 (.bin .geq 4 (.c (.int .u64 128)))] [0, 1, 5]) (.cond 5 .skip (.exit 0))) (.seq (.block 1 (.reg [mo 8 0, mo 9 0, oo 10 (.nilck 9), oo 11 (.faddr 0 1 10), oo 12 (.load none 11), mo 13 1, oo 14 (.conv (.int .u8) 13), oo 15 (.bin .or 14 (.c (.int .u8 128))), oo 16 (.mklist 1 [15]), oo 17 (.append 1 1 12 16), oo 18 (.nilck 8), oo 19 (.faddr 0 1 18), os (.store 1 19 17)] [0, 1])) (.reg [mo 6 1, oo 7 (.bin .shr 6 (.c (.int .u64 7))), mo 1 7] [0, 1]))))) (.reg [mo 20 0, mo 21 0, oo 22 (.nilck 21), oo 23 (.faddr 0 1 22), oo 24 (.load none 23), mo 25 1, oo 26 (.conv (.int .u8) 25), oo 27 (.mklist 1 [26]), oo 28 (.append 1 1 24 27), oo 29 (.nilck 20), oo 30 (.faddr 0 1 29), os (.store 1 30 28)] []))
def ha50 : Ann := ⟨[], [], [(0, [0, 1, 5]), (2, [0, 1]), (1, [0, 1]), (3, [])], []⟩
theorem hk50 : comp Try.prog ha50 Try.f50.ntmps Try.f50.code = some hc50 := by kernel_rfl
def w50 (p1 : Gvwriter) (p2 : Int) (Q : Gvwriter → Prop) : Prop :=
  ∃ (I9 : (List UInt8) → Int → Prop) (M10 : (List UInt8) → Int → Nat), I9 p1.f_b p2 ∧ ∀ (v3 : List UInt8) (v4 : Int), I9 v3 v4 → (((128 : Int) ≤ v4 → ∀ v11 : Int, v11 = IntKind.wrap .u8 v4 → (ibinOk .or (128 : Int)) ∧ ∀ v12 : Int, v12 = iop .or .u8 v11 (128 : Int) → (∀ m ∈ ([v12] : List Int), 0 ≤ m ∧ m < 256) ∧ ((v3.length + ([v12].map (fun m : Int => UInt8.ofNat m.toNat)).length) * 1 ≤ 140737488355328) ∧ ∀ v13 : List UInt8, v13 = v3 ++ ([v12].map (fun m : Int => UInt8.ofNat m.toNat)) → (ibinOk .shr (7 : Int)) ∧ ∀ v14 : Int, v14 = iop .shr .u64 v4 (7 : Int) → (I9 v13 v14 ∧ M10 v13 v14 < M10 v3 v4)) ∧ (v4 < (128 : Int) → ∀ v15 : Int, v15 = IntKind.wrap .u8 v4 → (∀ m ∈ ([v15] : List Int), 0 ≤ m ∧ m < 256) ∧ ((v3.length + ([v15].map (fun m : Int => UInt8.ofNat m.toNat)).length) * 1 ≤ 140737488355328) ∧ ∀ v16 : List UInt8, v16 = v3 ++ ([v15].map (fun m : Int => UInt8.ofNat m.toNat)) → Q (Gvwriter.mk v16)))
theorem ok50 (p1 : Gvwriter) (p2 : Int) (r : Gvwriter) (hw : w50 p1 p2 fun r' => r' = r) : sp50 p1 p2 r := by
  refine zh (rs := []) Try.func50 hk50 ?_
  unfold w50 at hw
  show SC Try.prog Try.f50.ntmps 2 hc50 _ [(0, .ptr 0 0), (1, .int .u64 p2)] [.cells [.list (bytesOf p1.f_b) (.own 1 1 1)], .tok (1 + p1.f_b.length)]
  unfold hc50
  refine sc_seq (sc_block ?_)
  obtain ⟨I9, M10, hi, hw⟩ := hw
  refine sc_loop (X := { x : List UInt8 × Int // I9 x.1 x.2 }) (fun x => ([(0, .ptr 0 0), (1, .int .u64 x.1.2)], [.cells [.list (bytesOf x.1.1) (.own 1 1 1)], .tok (1 + x.1.1.length)])) (fun x => M10 x.1.1 x.1.2) ⟨(p1.f_b, p2), hi⟩ ws ?_
  rintro ⟨⟨v3, v4⟩, hi2⟩
  have hw := hw v3 v4 hi2
  clear hi
  refine sc_seq (q_reg (st_mv rfl (g_geq rfl rfl hw (fun hw => g_endq [(0, .ptr 0 0), (1, .int .u64 v4), (5, .bool true)] rfl ?_) (fun hw => g_endq [(0, .ptr 0 0), (1, .int .u64 v4), (5, .bool false)] rfl ?_))))
  · refine s_cond_t rfl (sc_skip (sq_n (sc_seq (sc_block (s_reg (st_mv rfl (st_mv rfl (st_nilck_p rfl (g_faddr_p rfl (g_load_p rfl rfl rfl (st_mv rfl (g_conv rfl hw fun v11 hw => g_bin rfl rfl (.inl rfl) ⟨_, rfl⟩ hw fun v12 hw => g_mkb (ms := [v12]) (ec rfl en) hw fun hw => g_appo enc_byte rfl rfl rfl hw (fun z => [.cells [.list (bytesOf v3) (.own 1 1 1)], .tok (1 + z.length)]) (fun _ => rfl) fun v13 hw => st_nilck_p rfl (g_faddr_p rfl (g_sp (v := .list (bytesOf v13) (.own 1 1 1)) (h' := [.cells [.list (bytesOf v13) (.own 1 1 1)], .tok (1 + v13.length)]) rfl rfl rfl (g_end [(0, .ptr 0 0), (1, .int .u64 v4)] rfl ?_)))))))))))))))
    refine bl_n (sq_n (s_reg (st_mv rfl (g_bin rfl rfl (.inr (.inr rfl)) ⟨_, rfl⟩ hw fun v14 hw => st_mv rfl (g_end [(0, .ptr 0 0), (1, .int .u64 v14)] rfl ?_)))))
    exact lo_n ⟨(v13, v14), hw.1⟩ hw.2 ws
  · refine s_cond_f rfl (sc_exit (sq_x (lo_x (bl_x (sq_n (s_reg (st_mv rfl (st_mv rfl (st_nilck_p rfl (g_faddr_p rfl (g_load_p rfl rfl rfl (st_mv rfl (g_conv rfl hw fun v15 hw => g_mkb (ms := [v15]) (ec rfl en) hw fun hw => g_appo enc_byte rfl rfl rfl hw (fun z => [.cells [.list (bytesOf v3) (.own 1 1 1)], .tok (1 + z.length)]) (fun _ => rfl) fun v16 hw => st_nilck_p rfl (g_faddr_p rfl (g_sp (v := .list (bytesOf v16) (.own 1 1 1)) (h' := [.cells [.list (bytesOf v16) (.own 1 1 1)], .tok (1 + v16.length)]) rfl rfl rfl (g_end [] rfl ?_))))))))))))))))
    exact gr1 (g := zg50) (ho := zo50) [] hw (.inl rfl) ws
def hc52 : C := (.reg [mo 4 0, mo 5 1, oo 6 (.conv (.int .u64) 5), oo 7 (.bin .shl 6 (.c (.int .u64 1))), mo 8 1, oo 9 (.bin .shr 8 (.c (.int .u64 63))), oo 10 (.conv (.int .u64) 9), oo 11 (.bin .xor 7 10), co 12 (.call 50 [4, 11])] [])
def ha52 : Ann := ⟨[], [50], [(0, [])], []⟩
theorem hk52 : comp Try.prog ha52 Try.f52.ntmps Try.f52.code = some hc52 := by kernel_rfl
def w52 (p1 : Gvwriter) (p2 : Int) (Q : Gvwriter → Prop) : Prop :=
  ∀ v3 : Int, v3 = IntKind.wrap .u64 p2 → (ibinOk .shl (1 : Int)) ∧ ∀ v4 : Int, v4 = iop .shl .u64 v3 (1 : Int) → (ibinOk .shr (63 : Int)) ∧ ∀ v5 : Int, v5 = iop .shr .i64 p2 (63 : Int) → ∀ v6 : Int, v6 = IntKind.wrap .u64 v5 → (ibinOk .xor v6) ∧ ∀ v7 : Int, v7 = iop .xor .u64 v4 v6 → ∃ r8 : Gvwriter, sp50 (Gvwriter.mk p1.f_b) v7 r8 ∧ Q (Gvwriter.mk r8.f_b)
theorem ok52 (p1 : Gvwriter) (p2 : Int) (r : Gvwriter) (hw : w52 p1 p2 fun r' => r' = r) : sp52 p1 p2 r := by
  refine zh (rs := []) Try.func52 hk52 ?_
  unfold w52 at hw
  show SC Try.prog Try.f52.ntmps 2 hc52 _ [(0, .ptr 0 0), (1, ii p2)] [.cells [.list (bytesOf p1.f_b) (.own 1 1 1)], .tok (1 + p1.f_b.length)]
  unfold hc52
  refine s_reg (st_mv rfl (st_mv rfl (g_conv rfl hw fun v3 hw => g_bin rfl rfl (.inr (.inl rfl)) ⟨_, rfl⟩ hw fun v4 hw => st_mv rfl (g_bin rfl rfl (.inr (.inr rfl)) ⟨_, rfl⟩ hw fun v5 hw => g_conv rfl hw fun v6 hw => g_bin rfl rfl (.inl rfl) ⟨_, rfl⟩ hw fun v7 hw => kh hh (g2 := fun r8 : Gvwriter => .tuple []) (H2 := fun r8 : Gvwriter => [.cells [.list (bytesOf r8.f_b) (.own 1 1 1)], .tok (1 + r8.f_b.length)]) [0, 1] [0, 1] 2 0 (ec rfl (ec rfl en)) hw fun r8 hw => g_end [] rfl ?_))))
  exact gr1 (g := zg52) (ho := zo52) [] hw (.inl rfl) ws
def hc54 : C := (.seq (.reg [oo 2 (.mv (.c (.int .u64 0)))] [0]) (.seq (.reg [oo 3 (.mv (.c (.int .u64 0)))] [0, 3]) (.seq (.seq (.reg [oo 4 (.mv (.c (.int .i64 0)))] [0, 3, 4]) (.block 0 (.loop (.seq (.seq (.reg [mo 6 4, oo 7 (.bin .lss 6 (.c (.int .i64 70))), mo 8 7, og 9 (.mv 0) 8 true, og 10 (.nilck 9) 8 true, og 11 (.faddr 1 1 10) 8 true, og 12 (.load none 11) 8 true, og 13 (.un .not 12) 8 true, oo 14 (.pick 8 13 (.c (.bool false)))] [0, 3, 4, 14]) (.cond 14 .skip (.exit 0))) (.seq (.block 1 (.seq (.reg [mo 17 0, co 18 (.call 90 [17]), mo 5 18] [0, 3, 4, 5]) (.seq (.reg [mo 19 3, mo 20 5, oo 21 (.bin .and 20 (.c (.int .u8 127))), oo 22 (.conv (.int .u64) 21), mo 23 4, oo 24 (.bin .shl 22 23), oo 25 (.bin .or 19 24), mo 3 25] [0, 3, 4, 5]) (.seq (.reg [mo 26 5, oo 27 (.bin .lss 26 (.c (.int .u8 128)))] [0, 3, 4, 27]) (.cond 27 (.seq (.reg [mo 28 3, mo 2 28] [2]) .ret) .skip))))) (.reg [mo 15 4, oo 16 (.bin .add 15 (.c (.int .i64 7))), mo 4 16] [0, 3, 4])))))) (.seq (.reg [mo 29 0, oo 30 (.nilck 29), oo 31 (.faddr 1 1 30), os (.store 1 31 (.c (.bool true)))] []) (.seq (.reg [oo 2 (.mv (.c (.int .u64 0)))] [2]) .ret)))))
def ha54 : Ann := ⟨[], [90], [(0, [0]), (1, [0, 3]), (2, [0, 3, 4]), (3, [0, 3, 4, 14]), (5, [0, 3, 4, 5]), (6, [0, 3, 4, 5]), (7, [0, 3, 4, 27]), (8, [2]), (4, [0, 3, 4]), (9, []), (10, [2])], []⟩
theorem hk54 : comp Try.prog ha54 Try.f54.ntmps Try.f54.code = some hc54 := by kernel_rfl
def w54 (p1 : Gvreader) (Q : Int × Gvreader → Prop) : Prop :=
  ∃ J8 : (List UInt8) → Bool → Int → Int → Int → Bool → Prop, (∃ (I20 : (List UInt8) → Bool → Int → Int → Int → Prop) (M21 : (List UInt8) → Bool → Int → Int → Int → Nat), I20 p1.rest p1.bad p1.left (0 : Int) (0 : Int) ∧ ∀ (v9 : List UInt8) (v10 : Bool) (v11 : Int) (v12 : Int) (v13 : Int), I20 v9 v10 v11 v12 v13 → ((v13 < (70 : Int) → (((!v10) = true → ∃ r22 : Int × Gvreader, sp90 (Gvreader.mk v9 v10 v11) r22 ∧ (ibinOk .and (127 : Int)) ∧ ∀ v23 : Int, v23 = iop .and .u8 r22.1 (127 : Int) → ∀ v24 : Int, v24 = IntKind.wrap .u64 v23 → (ibinOk .shl v13) ∧ ∀ v25 : Int, v25 = iop .shl .u64 v24 v13 → (ibinOk .or v25) ∧ ∀ v26 : Int, v26 = iop .or .u64 v12 v25 → ((r22.1 < (128 : Int) → Q (v26, (Gvreader.mk r22.2.rest r22.2.bad r22.2.left))) ∧ ((128 : Int) ≤ r22.1 → (R64 (v13 + (7 : Int))) ∧ ∀ v27 : Int, v27 = v13 + (7 : Int) → (I20 r22.2.rest r22.2.bad r22.2.left v26 v27 ∧ M21 r22.2.rest r22.2.bad r22.2.left v26 v27 < M21 v9 v10 v11 v12 v13)))) ∧ ((!v10) = false → J8 v9 v10 v11 v12 v13 (!v10)))) ∧ ((70 : Int) ≤ v13 → J8 v9 v10 v11 v12 v13 false))) ∧ ∀ (v2 : List UInt8) (v3 : Bool) (v4 : Int) (v5 : Int) (v6 : Int) (v7 : Bool), J8 v2 v3 v4 v5 v6 v7 → Q ((0 : Int), (Gvreader.mk v2 true v4))
theorem ok54 (p1 : Gvreader) (r : Int × Gvreader) (hw : w54 p1 fun r' => r' = r) : sp54 p1 r := by
  refine zh (rs := [.t 2]) Try.func54 hk54 ?_
  unfold w54 at hw
  show SC Try.prog Try.f54.ntmps 1 hc54 _ [(0, .ptr 0 0)] [.cells [bn p1.rest, .bool p1.bad, ii p1.left]]
  unfold hc54
  refine q_reg (st_mv rfl (g_endq [(0, .ptr 0 0)] rfl ?_))
  refine q_reg (st_mv rfl (g_endq [(0, .ptr 0 0), (3, .int .u64 0)] rfl ?_))
  obtain ⟨J8, hw, hk⟩ := hw
  refine sc_join (A := List UInt8 × Bool × Int × Int × Int × Bool) (fun x => J8 x.1 x.2.1 x.2.2.1 x.2.2.2.1 x.2.2.2.2.1 x.2.2.2.2.2) (fun x => ([(0, .ptr 0 0), (3, .int .u64 x.2.2.2.1), (4, ii x.2.2.2.2.1), (14, .bool x.2.2.2.2.2)], [.cells [bn x.1, .bool x.2.1, ii x.2.2.1]])) ?_ ?_
  · rintro ⟨v2, v3, v4, v5, v6, v7⟩ hj
    have hw := hk v2 v3 v4 v5 v6 v7 hj
    clear hk hj
    refine q_reg (st_mv rfl (st_nilck_p rfl (g_faddr_p rfl (g_sp (v := .bool true) (h' := [.cells [bn v2, .bool true, ii v4]]) rfl rfl rfl (g_endq [] rfl ?_)))))
    refine q_reg (st_mv rfl (g_endq [(2, .int .u64 0)] rfl ?_))
    exact sc_ret (gr1 (g := zg54) (ho := zo54) [.int .u64 0] hw (.inr rfl) ws)
  · clear hk
    refine q_reg (st_mv rfl (g_endq [(0, .ptr 0 0), (3, .int .u64 0), (4, ii 0)] rfl ?_))
    refine sc_block ?_
    obtain ⟨I20, M21, hi, hw⟩ := hw
    refine sc_loop (X := { x : List UInt8 × Bool × Int × Int × Int // I20 x.1 x.2.1 x.2.2.1 x.2.2.2.1 x.2.2.2.2 }) (fun x => ([(0, .ptr 0 0), (3, .int .u64 x.1.2.2.2.1), (4, ii x.1.2.2.2.2)], [.cells [bn x.1.1, .bool x.1.2.1, ii x.1.2.2.1]])) (fun x => M21 x.1.1 x.1.2.1 x.1.2.2.1 x.1.2.2.2.1 x.1.2.2.2.2) ⟨(p1.rest, p1.bad, p1.left, (0 : Int), (0 : Int)), hi⟩ ws ?_
    rintro ⟨⟨v9, v10, v11, v12, v13⟩, hi2⟩
    have hw := hw v9 v10 v11 v12 v13 hi2
    clear hi
    refine sc_seq (q_reg (st_mv rfl (g_lss rfl rfl hw (fun hw => st_mv rfl (st_g rfl (st_mv rfl (st_g rfl (st_nilck_p rfl (st_g rfl (g_faddr_p rfl (st_g rfl (g_load_p rfl rfl rfl (st_g rfl (st_not rfl (st_pick_t rfl rfl rfl (g_endq [(0, .ptr 0 0), (3, .int .u64 v12), (4, ii v13), (14, .bool (!v10))] rfl ?_))))))))))))) (fun hw => st_mv rfl (st_gft rfl (st_gft rfl (st_gft rfl (st_gft rfl (st_gft rfl (st_pick_f rfl rfl rfl (g_endq [(0, .ptr 0 0), (3, .int .u64 v12), (4, ii v13), (14, .bool false)] rfl ?_)))))))))))
    · refine s_cond rfl hw (fun hw => ?_) (fun hw => ?_)
      · refine sc_skip (sq_n (sc_seq (sc_block (q_reg (st_mv rfl (kh hh (g2 := fun r22 : Int × Gvreader => .int .u8 r22.1) (H2 := fun r22 : Int × Gvreader => [.cells [bn r22.2.rest, .bool r22.2.bad, ii r22.2.left]]) [0] [0] 1 0 (ec rfl en) hw fun r22 hw => st_mv rfl (g_endq [(0, .ptr 0 0), (3, .int .u64 v12), (4, ii v13), (5, .int .u8 r22.1)] rfl ?_)))))))
        refine q_reg (st_mv rfl (st_mv rfl (g_bin rfl rfl (.inl rfl) ⟨_, rfl⟩ hw fun v23 hw => g_conv rfl hw fun v24 hw => st_mv rfl (g_bin rfl rfl (.inr (.inl rfl)) ⟨_, rfl⟩ hw fun v25 hw => g_bin rfl rfl (.inl rfl) ⟨_, rfl⟩ hw fun v26 hw => st_mv rfl (g_endq [(0, .ptr 0 0), (3, .int .u64 v26), (4, ii v13), (5, .int .u8 r22.1)] rfl ?_)))))
        refine q_reg (st_mv rfl (g_lss rfl rfl hw (fun hw => g_endq [(0, .ptr 0 0), (3, .int .u64 v26), (4, ii v13), (27, .bool true)] rfl ?_) (fun hw => g_endq [(0, .ptr 0 0), (3, .int .u64 v26), (4, ii v13), (27, .bool false)] rfl ?_)))
        · refine s_cond_t rfl (q_reg (st_mv rfl (st_mv rfl (g_endq [(2, .int .u64 v26)] rfl ?_))))
          exact sc_ret (bl_r (sq_r (lo_r (bl_r (jo_r (gr1 (g := zg54) (ho := zo54) [.int .u64 v26] hw (.inr rfl) ws))))))
        · refine s_cond_f rfl (sc_skip (bl_n (sq_n (s_reg (st_mv rfl (g_add rfl rfl hw fun v27 hw => st_mv rfl (g_end [(0, .ptr 0 0), (3, .int .u64 v26), (4, ii v27)] rfl ?_)))))))
          exact lo_n ⟨(r22.2.rest, r22.2.bad, r22.2.left, v26, v27), hw.1⟩ hw.2 ws
      · exact sc_exit (sq_x (lo_x (bl_x (jo_n (v9, v10, v11, v12, v13, (!v10)) hw ws))))
    · exact s_cond_f rfl (sc_exit (sq_x (lo_x (bl_x (jo_n (v9, v10, v11, v12, v13, false) hw ws)))))
def hc56 : C := (.seq (.reg [oo 4 (.mv (.c (.int .i64 0)))] [0, 1]) (.seq (.reg [mo 6 0, co 7 (.call 54 [6]), mo 5 7] [0, 1, 5]) (.seq (.seq (.reg [mo 8 5, mo 9 1, oo 10 (.conv (.int .u64) 9), oo 11 (.bin .gtr 8 10)] [0, 5, 11]) (.cond 11 (.seq (.reg [mo 12 0, oo 13 (.nilck 12), oo 14 (.faddr 1 1 13), os (.store 1 14 (.c (.bool true)))] []) (.seq (.reg [oo 4 (.mv (.c (.int .i64 0)))] [4]) .ret)) .skip)) (.seq (.reg [mo 15 5, oo 16 (.conv (.int .i64) 15), mo 4 16] [4]) .ret))))
def ha56 : Ann := ⟨[], [54], [(0, [0, 1]), (1, [0, 1, 5]), (2, [0, 5, 11]), (3, []), (4, [4]), (5, [4])], []⟩
theorem hk56 : comp Try.prog ha56 Try.f56.ntmps Try.f56.code = some hc56 := by kernel_rfl
def w56 (p1 : Gvreader) (p2 : Int) (Q : Int × Gvreader → Prop) : Prop :=
  ∃ r3 : Int × Gvreader, sp54 (Gvreader.mk p1.rest p1.bad p1.left) r3 ∧ ∀ v4 : Int, v4 = IntKind.wrap .u64 p2 → ((v4 < r3.1 → Q ((0 : Int), (Gvreader.mk r3.2.rest true r3.2.left))) ∧ (r3.1 ≤ v4 → ∀ v5 : Int, v5 = IntKind.wrap .i64 r3.1 → Q (v5, (Gvreader.mk r3.2.rest r3.2.bad r3.2.left))))
theorem ok56 (p1 : Gvreader) (p2 : Int) (r : Int × Gvreader) (hw : w56 p1 p2 fun r' => r' = r) : sp56 p1 p2 r := by
  refine zh (rs := [.t 4]) Try.func56 hk56 ?_
  unfold w56 at hw
  show SC Try.prog Try.f56.ntmps 1 hc56 _ [(0, .ptr 0 0), (1, ii p2)] [.cells [bn p1.rest, .bool p1.bad, ii p1.left]]
  unfold hc56
  refine q_reg (st_mv rfl (g_endq [(0, .ptr 0 0), (1, ii p2)] rfl ?_))
  refine q_reg (st_mv rfl (kh hh (g2 := fun r3 : Int × Gvreader => .int .u64 r3.1) (H2 := fun r3 : Int × Gvreader => [.cells [bn r3.2.rest, .bool r3.2.bad, ii r3.2.left]]) [0] [0] 1 0 (ec rfl en) hw fun r3 hw => st_mv rfl (g_endq [(0, .ptr 0 0), (1, ii p2), (5, .int .u64 r3.1)] rfl ?_)))
  refine sc_seq (q_reg (st_mv rfl (st_mv rfl (g_conv rfl hw fun v4 hw => g_gtr rfl rfl hw (fun hw => g_endq [(0, .ptr 0 0), (5, .int .u64 r3.1), (11, .bool true)] rfl ?_) (fun hw => g_endq [(0, .ptr 0 0), (5, .int .u64 r3.1), (11, .bool false)] rfl ?_)))))
  · refine s_cond_t rfl (q_reg (st_mv rfl (st_nilck_p rfl (g_faddr_p rfl (g_sp (v := .bool true) (h' := [.cells [bn r3.2.rest, .bool true, ii r3.2.left]]) rfl rfl rfl (g_endq [] rfl ?_))))))
    refine q_reg (st_mv rfl (g_endq [(4, ii 0)] rfl ?_))
    exact sc_ret (sq_r (gr1 (g := zg56) (ho := zo56) [ii 0] hw (.inr rfl) ws))
  · refine s_cond_f rfl (sc_skip (sq_n (q_reg (st_mv rfl (g_conv rfl hw fun v5 hw => st_mv rfl (g_endq [(4, ii v5)] rfl ?_))))))
    exact sc_ret (gr1 (g := zg56) (ho := zo56) [ii v5] hw (.inr rfl) ws)
def hc57 : C := (.seq (.reg [oo 2 (.mv (.c (.int .i64 0)))] [0]) (.seq (.reg [mo 4 0, co 5 (.call 54 [4]), mo 3 5] [3]) (.seq (.reg [mo 6 3, oo 7 (.bin .shr 6 (.c (.int .u64 1))), oo 8 (.conv (.int .i64) 7), mo 9 3, oo 10 (.bin .and 9 (.c (.int .u64 1))), oo 11 (.conv (.int .i64) 10), oo 12 (.un .neg 11), oo 13 (.bin .xor 8 12), mo 2 13] [2]) .ret)))
def ha57 : Ann := ⟨[], [54], [(0, [0]), (1, [3]), (2, [2])], []⟩
theorem hk57 : comp Try.prog ha57 Try.f57.ntmps Try.f57.code = some hc57 := by kernel_rfl
def w57 (p1 : Gvreader) (Q : Int × Gvreader → Prop) : Prop :=
  ∃ r2 : Int × Gvreader, sp54 (Gvreader.mk p1.rest p1.bad p1.left) r2 ∧ (ibinOk .shr (1 : Int)) ∧ ∀ v3 : Int, v3 = iop .shr .u64 r2.1 (1 : Int) → ∀ v4 : Int, v4 = IntKind.wrap .i64 v3 → (ibinOk .and (1 : Int)) ∧ ∀ v5 : Int, v5 = iop .and .u64 r2.1 (1 : Int) → ∀ v6 : Int, v6 = IntKind.wrap .i64 v5 → (-9223372036854775807 ≤ v6 ∧ v6 ≤ 9223372036854775807) ∧ ∀ v7 : Int, v7 = -(v6) → (ibinOk .xor v7) ∧ ∀ v8 : Int, v8 = iop .xor .i64 v4 v7 → Q (v8, (Gvreader.mk r2.2.rest r2.2.bad r2.2.left))
theorem ok57 (p1 : Gvreader) (r : Int × Gvreader) (hw : w57 p1 fun r' => r' = r) : sp57 p1 r := by
  refine zh (rs := [.t 2]) Try.func57 hk57 ?_
  unfold w57 at hw
  show SC Try.prog Try.f57.ntmps 1 hc57 _ [(0, .ptr 0 0)] [.cells [bn p1.rest, .bool p1.bad, ii p1.left]]
  unfold hc57
  refine q_reg (st_mv rfl (g_endq [(0, .ptr 0 0)] rfl ?_))
  refine q_reg (st_mv rfl (kh hh (g2 := fun r2 : Int × Gvreader => .int .u64 r2.1) (H2 := fun r2 : Int × Gvreader => [.cells [bn r2.2.rest, .bool r2.2.bad, ii r2.2.left]]) [0] [0] 1 0 (ec rfl en) hw fun r2 hw => st_mv rfl (g_endq [(3, .int .u64 r2.1)] rfl ?_)))
  refine q_reg (st_mv rfl (g_bin rfl rfl (.inr (.inr rfl)) ⟨_, rfl⟩ hw fun v3 hw => g_conv rfl hw fun v4 hw => st_mv rfl (g_bin rfl rfl (.inl rfl) ⟨_, rfl⟩ hw fun v5 hw => g_conv rfl hw fun v6 hw => g_neg rfl hw fun v7 hw => g_bin rfl rfl (.inl rfl) ⟨_, rfl⟩ hw fun v8 hw => st_mv rfl (g_endq [(2, ii v8)] rfl ?_))))
  exact sc_ret (gr1 (g := zg57) (ho := zo57) [ii v8] hw (.inr rfl) ws)
def hc71 : C := (.seq (.reg [oo 4 (.mv (.c (.bool false)))] [0, 1]) (.seq (.reg [mo 5 0, oo 6 (.conv .ofBytes 5), mo 7 1, oo 8 (.conv .ofBytes 7), oo 9 (.eqv false .str 6 8), mo 4 9] [4]) .ret))
def ha71 : Ann := ⟨[], [], [(0, [0, 1]), (1, [4])], []⟩
theorem hk71 : comp Try.prog ha71 Try.f71.ntmps Try.f71.code = some hc71 := by kernel_rfl
def w71 (p1 : List UInt8) (p2 : List UInt8) (Q : Bool → Prop) : Prop :=
  ∀ v3 : Bool, v3 = (if false then !(p1 == p2) else (p1 == p2)) → Q v3
theorem ok71 (p1 : List UInt8) (p2 : List UInt8) (r : Bool) (hw : w71 p1 p2 fun r' => r' = r) : sp71 p1 p2 r := by
  refine zf (rs := [.t 4]) (g := zg71) Try.func71 hk71 ?_
  unfold w71 at hw
  show SC Try.prog Try.f71.ntmps 0 hc71 _ [(0, bn p1), (1, bn p2)] []
  unfold hc71
  refine q_reg (st_mv rfl (g_endq [(0, bn p1), (1, bn p2)] rfl ?_))
  refine q_reg (st_mv rfl (st_ofbytes rfl (st_mv rfl (st_ofbytes rfl (gb_eqs rfl rfl hw fun v3 hw => st_mv rfl (g_endq [(4, .bool v3)] rfl ?_))))))
  exact sc_ret (gr1 (g := zg71) (ho := fun _ => []) [.bool v3] hw (.inr rfl) ws)
def hc84 : C := (.seq (.reg [oo 1 (.box none 4 0), oo 2 (.mv (.c (.int .i64 0))), oo 3 (.mv (.c (.int .i64 0))), oo 4 (.mv (.c (.int .i64 0)))] [1]) (.seq (.dreg [oo 13 (.faddr 2 1 1), oo 14 (.load none 13), oo 15 (.len true 14), oo 5 (.mv (.c (.int .i64 1))), oo 6 (.mv (.c (.int .i64 0))), mo 7 15] [] 0 [1, 5, 6, 7]) (.seq (.seq (.reg [oo 16 (.faddr 3 1 1), oo 17 (.load none 16), oo 18 (.len false 17), oo 19 (.mv (.c (.int .i64 0)))] [5, 6, 7, 17, 18, 19]) (.block 0 (.loop (.seq (.reg [oo 20 (.bin .lss 19 18)] [5, 6, 7, 17, 18, 19, 20]) (.seq (.cond 20 .skip (.exit 0)) (.seq (.block 1 (.seq (.reg [oo 21 (.iaddr 4 17 19), oo 22 (.load (some 4) 21), oo 9 (.alloc none [(.int .i64 0), (.int .i64 0), (.str []), (.list [] .full)]), os (.store 4 9 22)] [5, 6, 7, 9, 17, 18, 19]) (.seq (.reg [oo 24 (.load (some 4) 9), co 25 (.call 84 [24]), mo 23 25, oo 26 (.extract 23 0), oo 27 (.extract 23 1), oo 28 (.extract 23 2), mo 10 26, mo 11 27, mo 12 28] [5, 6, 7, 10, 11, 12, 17, 18, 19]) (.reg [mo 29 5, mo 30 10, oo 31 (.bin .add 29 30), mo 32 6, mo 33 11, oo 34 (.max [32, 33]), mo 35 7, mo 36 12, oo 37 (.max [35, 36]), mo 5 31, mo 6 34, mo 7 37] [5, 6, 7, 17, 18, 19])))) (.reg [oo 38 (.bin .add 19 (.c (.int .i64 1))), mo 19 38] [5, 6, 7, 17, 18, 19]))))))) (.seq (.reg [mo 39 5, mo 40 6, oo 41 (.bin .add 40 (.c (.int .i64 1))), mo 42 7, mo 2 39, mo 3 41, mo 4 42] [2, 3, 4]) .ret))))
def ha84 : Ann := ⟨[], [], [(0, [1]), (1, [1, 5, 6, 7]), (2, [5, 6, 7, 17, 18, 19]), (3, [5, 6, 7, 17, 18, 19, 20]), (4, [5, 6, 7, 9, 17, 18, 19]), (5, [5, 6, 7, 10, 11, 12, 17, 18, 19]), (6, [5, 6, 7, 17, 18, 19]), (7, [5, 6, 7, 17, 18, 19]), (8, [2, 3, 4])], []⟩
theorem hk84 : comp Try.prog ha84 Try.f84.ntmps Try.f84.code = some hc84 := by kernel_rfl
def w84 (p1 : GaValue) (Q : Int × Int × Int → Prop) : Prop :=
  ∃ (I13 : Int → Int → Int → Int → Prop) (M14 : Int → Int → Int → Int → Nat), I13 (1 : Int) (0 : Int) (p1.Text.length : Int) (0 : Int) ∧ ∀ (v2 : Int) (v3 : Int) (v4 : Int) (v5 : Int), I13 v2 v3 v4 v5 → ∀ v15 : Bool, v15 = decide (v5 < (p1.Args.length : Int)) → ((v15 = true → (0 ≤ v5 ∧ v5 < (p1.Args.length : Int)) ∧ ∀ a16 : GaValue, p1.Args[(v5 : Int).toNat]? = some a16 → ∃ r17 : Int × Int × Int, sp84 (GaValue.mk a16.Kind a16.Num a16.Text a16.Args) r17 ∧ (R64 (v2 + r17.1)) ∧ ∀ v18 : Int, v18 = v2 + r17.1 → ∀ v19 : Int, v19 = max v3 r17.2.1 → ∀ v20 : Int, v20 = max v4 r17.2.2 → (R64 (v5 + (1 : Int))) ∧ ∀ v21 : Int, v21 = v5 + (1 : Int) → (I13 v18 v19 v20 v21 ∧ M14 v18 v19 v20 v21 < M14 v2 v3 v4 v5)) ∧ (v15 = false → (R64 (v3 + (1 : Int))) ∧ ∀ v22 : Int, v22 = v3 + (1 : Int) → Q (v2, v22, v4)))
theorem ok84 (p1 : GaValue) (r : Int × Int × Int) (hw : w84 p1 fun r' => r' = r) : sp84 p1 r := by
  refine zf (rs := [.t 2, .t 3, .t 4]) (g := zg84) Try.func84 hk84 ?_
  unfold w84 at hw
  show SC Try.prog Try.f84.ntmps 0 hc84 _ [(0, .agg [ii p1.Kind, ii p1.Num, .str p1.Text, ln eGaValue p1.Args])] []
  unfold hc84
  refine q_reg (g_box (v := .agg [ii p1.Kind, ii p1.Num, .str p1.Text, ln eGaValue p1.Args]) rfl rfl rfl (n := 0) rfl rfl (st_mv rfl (st_mv rfl (st_mv rfl (g_endq [(1, .ptr 0 0)] rfl ?_)))))
  refine sc_seq (s_dreg Try.mixed rfl (g_faddr_p rfl (g_load_p rfl rfl rfl (st_slen rfl (st_mv rfl (st_mv rfl (st_mv rfl (st_mid (g_end [(1, .ptr 0 0), (5, ii 1), (6, ii 0), (7, ii (p1.Text.length : Int))] rfl ?_)))))))))
  refine sq_n (sc_seq (q_reg (g_faddr_p rfl (g_load_p rfl rfl rfl (g_len rfl (st_mv rfl (g_endq [(5, ii 1), (6, ii 0), (7, ii (p1.Text.length : Int)), (17, ln eGaValue p1.Args), (18, ii (p1.Args.length : Int)), (19, ii 0)] rfl ?_)))))))
  refine sc_block ?_
  obtain ⟨I13, M14, hi, hw⟩ := hw
  refine sc_loop (X := { x : Int × Int × Int × Int // I13 x.1 x.2.1 x.2.2.1 x.2.2.2 }) (fun x => ([(5, ii x.1.1), (6, ii x.1.2.1), (7, ii x.1.2.2.1), (17, ln eGaValue p1.Args), (18, ii (p1.Args.length : Int)), (19, ii x.1.2.2.2)], [])) (fun x => M14 x.1.1 x.1.2.1 x.1.2.2.1 x.1.2.2.2) ⟨((1 : Int), (0 : Int), (p1.Text.length : Int), (0 : Int)), hi⟩ (wr []) ?_
  rintro ⟨⟨v2, v3, v4, v5⟩, hi2⟩
  have hw := hw v2 v3 v4 v5 hi2
  clear hi
  refine q_reg (gb_cmp rfl rfl trivial rfl hw fun v15 hw => g_endq [(5, ii v2), (6, ii v3), (7, ii v4), (17, ln eGaValue p1.Args), (18, ii (p1.Args.length : Int)), (19, ii v5), (20, .bool v15)] rfl ?_)
  refine sc_seq (s_cond rfl hw (fun hw => ?_) (fun hw => ?_))
  · refine sc_skip (sq_n (sc_seq (sc_block (q_reg (g_iaddrE enc_GaValue (fun a16 => [ii a16.Kind, ii a16.Num, .str a16.Text, ln eGaValue a16.Args]) cGaValue_eq rfl rfl hw fun a16 hw => st_load_r (v := .agg [ii a16.Kind, ii a16.Num, .str a16.Text, ln eGaValue a16.Args]) rfl rfl (g_alloc (n := 0) rfl rfl (g_sp (v := .agg [ii a16.Kind, ii a16.Num, .str a16.Text, ln eGaValue a16.Args]) (h' := [.cells [ii a16.Kind, ii a16.Num, .str a16.Text, ln eGaValue a16.Args]]) rfl rfl rfl (g_endq [(5, ii v2), (6, ii v3), (7, ii v4), (9, .ptr 0 0), (17, ln eGaValue p1.Args), (18, ii (p1.Args.length : Int)), (19, ii v5)] rfl ?_))))))))
    refine q_reg (g_load_p (v := .agg [ii a16.Kind, ii a16.Num, .str a16.Text, ln eGaValue a16.Args]) rfl rfl rfl (k_call dh (ec rfl en) rfl hw fun r17 hw => st_mv rfl (st_extract rfl rfl (st_extract rfl rfl (st_extract rfl rfl (st_mv rfl (st_mv rfl (st_mv rfl (g_endq [(5, ii v2), (6, ii v3), (7, ii v4), (10, ii r17.1), (11, ii r17.2.1), (12, ii r17.2.2), (17, ln eGaValue p1.Args), (18, ii (p1.Args.length : Int)), (19, ii v5)] rfl ?_)))))))))
    refine s_reg (st_mv rfl (st_mv rfl (g_add rfl rfl hw fun v18 hw => st_mv rfl (st_mv rfl (g_max rfl rfl hw fun v19 hw => st_mv rfl (st_mv rfl (g_max rfl rfl hw fun v20 hw => st_mv rfl (st_mv rfl (st_mv rfl (g_end [(5, ii v18), (6, ii v19), (7, ii v20), (17, ln eGaValue p1.Args), (18, ii (p1.Args.length : Int)), (19, ii v5)] rfl ?_))))))))))
    refine bl_n (sq_n (s_reg (g_add rfl rfl hw fun v21 hw => st_mv rfl (g_end [(5, ii v18), (6, ii v19), (7, ii v20), (17, ln eGaValue p1.Args), (18, ii (p1.Args.length : Int)), (19, ii v21)] rfl ?_))))
    exact lo_n ⟨(v18, v19, v20, v21), hw.1⟩ hw.2 (wr [])
  · refine sc_exit (sq_x (lo_x (bl_x (sq_n (q_reg (st_mv rfl (st_mv rfl (g_add rfl rfl hw fun v22 hw => st_mv rfl (st_mv rfl (st_mv rfl (st_mv rfl (g_endq [(2, ii v2), (3, ii v22), (4, ii v4)] rfl ?_))))))))))))
    exact sc_ret (gr1 (g := zg84) (ho := fun _ => []) [ii v2, ii v22, ii v4] hw (.inr rfl) ws)
def hc85 : C := (.seq (.reg [oo 1 (.box none 4 0), oo 2 (.mv (.c (.bool false)))] [1]) (.seq (.seq (.reg [oo 5 (.load (some 4) 1), co 6 (.call 102 [5]), oo 7 (.un .not 6)] [1, 7]) (.cond 7 (.seq (.reg [oo 2 (.mv (.c (.bool false)))] [2]) .ret) .skip)) (.seq (.seq (.reg [oo 8 (.faddr 3 1 1), oo 9 (.load none 8), oo 10 (.len false 9), oo 11 (.mv (.c (.int .i64 0)))] [9, 10, 11]) (.block 0 (.loop (.seq (.reg [oo 12 (.bin .lss 11 10)] [9, 10, 11, 12]) (.seq (.cond 12 .skip (.exit 0)) (.seq (.block 1 (.seq (.reg [oo 13 (.iaddr 4 9 11), oo 14 (.load (some 4) 13), oo 4 (.alloc none [(.int .i64 0), (.int .i64 0), (.str []), (.list [] .full)]), os (.store 4 4 14)] [4, 9, 10, 11]) (.seq (.reg [oo 15 (.load (some 4) 4), co 16 (.call 85 [15]), oo 17 (.un .not 16)] [9, 10, 11, 17]) (.cond 17 (.seq (.reg [oo 2 (.mv (.c (.bool false)))] [2]) .ret) .skip)))) (.reg [oo 18 (.bin .add 11 (.c (.int .i64 1))), mo 11 18] [9, 10, 11]))))))) (.seq (.reg [oo 2 (.mv (.c (.bool true)))] [2]) .ret))))
def ha85 : Ann := ⟨[], [], [(0, [1]), (1, [1, 7]), (2, [2]), (3, [9, 10, 11]), (4, [9, 10, 11, 12]), (5, [4, 9, 10, 11]), (6, [9, 10, 11, 17]), (7, [2]), (8, [9, 10, 11]), (9, [2])], []⟩
theorem hk85 : comp Try.prog ha85 Try.f85.ntmps Try.f85.code = some hc85 := by kernel_rfl
def w85 (p1 : GaValue) (Q : Bool → Prop) : Prop :=
  ∃ r2 : Bool, sp102 (GaValue.mk p1.Kind p1.Num p1.Text p1.Args) r2 ∧ (((!r2) = true → Q false) ∧ ((!r2) = false → ∃ (I8 : Int → Prop) (M9 : Int → Nat), I8 (0 : Int) ∧ ∀ (v3 : Int), I8 v3 → ∀ v10 : Bool, v10 = decide (v3 < (p1.Args.length : Int)) → ((v10 = true → (0 ≤ v3 ∧ v3 < (p1.Args.length : Int)) ∧ ∀ a11 : GaValue, p1.Args[(v3 : Int).toNat]? = some a11 → ∃ r12 : Bool, sp85 (GaValue.mk a11.Kind a11.Num a11.Text a11.Args) r12 ∧ (((!r12) = true → Q false) ∧ ((!r12) = false → (R64 (v3 + (1 : Int))) ∧ ∀ v13 : Int, v13 = v3 + (1 : Int) → (I8 v13 ∧ M9 v13 < M9 v3)))) ∧ (v10 = false → Q true))))
theorem ok85 (p1 : GaValue) (r : Bool) (hw : w85 p1 fun r' => r' = r) : sp85 p1 r := by
  refine zf (rs := [.t 2]) (g := zg85) Try.func85 hk85 ?_
  unfold w85 at hw
  show SC Try.prog Try.f85.ntmps 0 hc85 _ [(0, .agg [ii p1.Kind, ii p1.Num, .str p1.Text, ln eGaValue p1.Args])] []
  unfold hc85
  refine q_reg (g_box (v := .agg [ii p1.Kind, ii p1.Num, .str p1.Text, ln eGaValue p1.Args]) rfl rfl rfl (n := 0) rfl rfl (st_mv rfl (g_endq [(1, .ptr 0 0)] rfl ?_)))
  refine sc_seq (q_reg (g_load_p (v := .agg [ii p1.Kind, ii p1.Num, .str p1.Text, ln eGaValue p1.Args]) rfl rfl rfl (k_call dh (ec rfl en) rfl hw fun r2 hw => st_not rfl (g_endq [(1, .ptr 0 0), (7, .bool (!r2))] rfl ?_))))
  refine s_cond rfl hw (fun hw => ?_) (fun hw => ?_)
  · refine q_reg (st_mv rfl (g_endq [(2, .bool false)] rfl ?_))
    exact sc_ret (sq_r (gr1 (g := zg85) (ho := fun _ => []) [.bool false] hw (.inr rfl) (wr [])))
  · refine sc_skip (sq_n (sc_seq (q_reg (g_faddr_p rfl (g_load_p rfl rfl rfl (g_len rfl (st_mv rfl (g_endq [(9, ln eGaValue p1.Args), (10, ii (p1.Args.length : Int)), (11, ii 0)] rfl ?_))))))))
    refine sc_block ?_
    obtain ⟨I8, M9, hi, hw⟩ := hw
    refine sc_loop (X := { x : Int // I8 x }) (fun x => ([(9, ln eGaValue p1.Args), (10, ii (p1.Args.length : Int)), (11, ii x.1)], [])) (fun x => M9 x.1) ⟨(0 : Int), hi⟩ (wr []) ?_
    rintro ⟨v3, hi2⟩
    have hw := hw v3 hi2
    clear hi
    refine q_reg (gb_cmp rfl rfl trivial rfl hw fun v10 hw => g_endq [(9, ln eGaValue p1.Args), (10, ii (p1.Args.length : Int)), (11, ii v3), (12, .bool v10)] rfl ?_)
    refine sc_seq (s_cond rfl hw (fun hw => ?_) (fun hw => ?_))
    · refine sc_skip (sq_n (sc_seq (sc_block (q_reg (g_iaddrE enc_GaValue (fun a11 => [ii a11.Kind, ii a11.Num, .str a11.Text, ln eGaValue a11.Args]) cGaValue_eq rfl rfl hw fun a11 hw => st_load_r (v := .agg [ii a11.Kind, ii a11.Num, .str a11.Text, ln eGaValue a11.Args]) rfl rfl (g_alloc (n := 0) rfl rfl (g_sp (v := .agg [ii a11.Kind, ii a11.Num, .str a11.Text, ln eGaValue a11.Args]) (h' := [.cells [ii a11.Kind, ii a11.Num, .str a11.Text, ln eGaValue a11.Args]]) rfl rfl rfl (g_endq [(4, .ptr 0 0), (9, ln eGaValue p1.Args), (10, ii (p1.Args.length : Int)), (11, ii v3)] rfl ?_))))))))
      refine q_reg (g_load_p (v := .agg [ii a11.Kind, ii a11.Num, .str a11.Text, ln eGaValue a11.Args]) rfl rfl rfl (k_call dh (ec rfl en) rfl hw fun r12 hw => st_not rfl (g_endq [(9, ln eGaValue p1.Args), (10, ii (p1.Args.length : Int)), (11, ii v3), (17, .bool (!r12))] rfl ?_)))
      refine s_cond rfl hw (fun hw => ?_) (fun hw => ?_)
      · refine q_reg (st_mv rfl (g_endq [(2, .bool false)] rfl ?_))
        exact sc_ret (bl_r (sq_r (lo_r (bl_r (sq_r (gr1 (g := zg85) (ho := fun _ => []) [.bool false] hw (.inr rfl) (wr [])))))))
      · refine sc_skip (bl_n (sq_n (s_reg (g_add rfl rfl hw fun v13 hw => st_mv rfl (g_end [(9, ln eGaValue p1.Args), (10, ii (p1.Args.length : Int)), (11, ii v13)] rfl ?_)))))
        exact lo_n ⟨v13, hw.1⟩ hw.2 (wr [])
    · refine sc_exit (sq_x (lo_x (bl_x (sq_n (q_reg (st_mv rfl (g_endq [(2, .bool true)] rfl ?_)))))))
      exact sc_ret (gr1 (g := zg85) (ho := fun _ => []) [.bool true] hw (.inr rfl) ws)
def hc86 : C := (.seq (.reg [mo 4 0, mo 5 1, oo 6 (.len true 5), oo 7 (.conv (.int .u64) 6), co 8 (.call 50 [4, 7])] [0, 1]) (.reg [mo 9 0, mo 10 0, oo 11 (.nilck 10), oo 12 (.faddr 0 1 11), oo 13 (.load none 12), mo 14 1, oo 15 (.append 1 1 13 14), oo 16 (.nilck 9), oo 17 (.faddr 0 1 16), os (.store 1 17 15)] []))
def ha86 : Ann := ⟨[], [50], [(0, [0, 1]), (1, [])], []⟩
theorem hk86 : comp Try.prog ha86 Try.f86.ntmps Try.f86.code = some hc86 := by kernel_rfl
def w86 (p1 : Gvwriter) (p2 : List UInt8) (Q : Gvwriter → Prop) : Prop :=
  ∀ v3 : Int, v3 = IntKind.wrap .u64 (p2.length : Int) → ∃ r4 : Gvwriter, sp50 (Gvwriter.mk p1.f_b) v3 r4 ∧ ((r4.f_b.length + p2.length) * 1 ≤ 140737488355328) ∧ ∀ v5 : List UInt8, v5 = r4.f_b ++ p2 → Q (Gvwriter.mk v5)
theorem ok86 (p1 : Gvwriter) (p2 : List UInt8) (r : Gvwriter) (hw : w86 p1 p2 fun r' => r' = r) : sp86 p1 p2 r := by
  refine zh (rs := []) Try.func86 hk86 ?_
  unfold w86 at hw
  show SC Try.prog Try.f86.ntmps 2 hc86 _ [(0, .ptr 0 0), (1, .str p2)] [.cells [.list (bytesOf p1.f_b) (.own 1 1 1)], .tok (1 + p1.f_b.length)]
  unfold hc86
  refine q_reg (st_mv rfl (st_mv rfl (st_slen rfl (g_conv rfl hw fun v3 hw => kh hh (g2 := fun r4 : Gvwriter => .tuple []) (H2 := fun r4 : Gvwriter => [.cells [.list (bytesOf r4.f_b) (.own 1 1 1)], .tok (1 + r4.f_b.length)]) [0, 1] [0, 1] 2 0 (ec rfl (ec rfl en)) hw fun r4 hw => g_endq [(0, .ptr 0 0), (1, .str p2)] rfl ?_))))
  refine s_reg (st_mv rfl (st_mv rfl (st_nilck_p rfl (g_faddr_p rfl (g_load_p rfl rfl rfl (st_mv rfl (g_appos rfl rfl rfl hw (fun z => [.cells [.list (bytesOf r4.f_b) (.own 1 1 1)], .tok (1 + z.length)]) (fun _ => rfl) fun v5 hw => st_nilck_p rfl (g_faddr_p rfl (g_sp (v := .list (bytesOf v5) (.own 1 1 1)) (h' := [.cells [.list (bytesOf v5) (.own 1 1 1)], .tok (1 + v5.length)]) rfl rfl rfl (g_end [] rfl ?_))))))))))
  exact gr1 (g := zg86) (ho := zo86) [] hw (.inl rfl) ws
def hc87 : C := (.seq (.reg [mo 6 0, mo 7 1, oo 8 (.len false 7), oo 9 (.conv (.int .u64) 8), co 10 (.call 50 [6, 9])] [0, 1]) (.seq (.reg [mo 11 1, oo 12 (.len false 11), oo 13 (.mv (.c (.int .i64 0)))] [0, 11, 12, 13]) (.block 0 (.loop (.seq (.reg [oo 14 (.bin .lss 13 12)] [0, 11, 12, 13, 14]) (.seq (.cond 14 .skip (.exit 0)) (.seq (.block 1 (.seq (.reg [oo 15 (.iaddr 4 11 13), oo 16 (.load (some 4) 15), oo 5 (.alloc none [(.int .i64 0), (.int .i64 0), (.str []), (.list [] .full)]), os (.store 4 5 16)] [0, 5, 11, 12, 13]) (.reg [mo 17 0, oo 18 (.load (some 4) 5), co 19 (.call 41 [17, 18])] [0, 11, 12, 13]))) (.reg [oo 20 (.bin .add 13 (.c (.int .i64 1))), mo 13 20] [0, 11, 12, 13]))))))))
def ha87 : Ann := ⟨[], [41, 50], [(0, [0, 1]), (1, [0, 11, 12, 13]), (2, [0, 11, 12, 13, 14]), (3, [0, 5, 11, 12, 13]), (4, [0, 11, 12, 13]), (5, [0, 11, 12, 13])], []⟩
theorem hk87 : comp Try.prog ha87 Try.f87.ntmps Try.f87.code = some hc87 := by kernel_rfl
def w87 (p1 : Gvwriter) (p2 : List (GaValue)) (Q : Gvwriter → Prop) : Prop :=
  ∀ v3 : Int, v3 = IntKind.wrap .u64 (p2.length : Int) → ∃ r4 : Gvwriter, sp50 (Gvwriter.mk p1.f_b) v3 r4 ∧ ∃ (I11 : (List UInt8) → Int → Prop) (M12 : (List UInt8) → Int → Nat), I11 r4.f_b (0 : Int) ∧ ∀ (v5 : List UInt8) (v6 : Int), I11 v5 v6 → ∀ v13 : Bool, v13 = decide (v6 < (p2.length : Int)) → ((v13 = true → (0 ≤ v6 ∧ v6 < (p2.length : Int)) ∧ ∀ a14 : GaValue, p2[(v6 : Int).toNat]? = some a14 → ∃ r15 : Gvwriter, sp41 (Gvwriter.mk v5) (GaValue.mk a14.Kind a14.Num a14.Text a14.Args) r15 ∧ (R64 (v6 + (1 : Int))) ∧ ∀ v16 : Int, v16 = v6 + (1 : Int) → (I11 r15.f_b v16 ∧ M12 r15.f_b v16 < M12 v5 v6)) ∧ (v13 = false → Q (Gvwriter.mk v5)))
theorem ok87 (p1 : Gvwriter) (p2 : List (GaValue)) (r : Gvwriter) (hw : w87 p1 p2 fun r' => r' = r) : sp87 p1 p2 r := by
  refine zh (rs := []) Try.func87 hk87 ?_
  unfold w87 at hw
  show SC Try.prog Try.f87.ntmps 2 hc87 _ [(0, .ptr 0 0), (1, ln eGaValue p2)] [.cells [.list (bytesOf p1.f_b) (.own 1 1 1)], .tok (1 + p1.f_b.length)]
  unfold hc87
  refine q_reg (st_mv rfl (st_mv rfl (g_len rfl (g_conv rfl hw fun v3 hw => kh hh (g2 := fun r4 : Gvwriter => .tuple []) (H2 := fun r4 : Gvwriter => [.cells [.list (bytesOf r4.f_b) (.own 1 1 1)], .tok (1 + r4.f_b.length)]) [0, 1] [0, 1] 2 0 (ec rfl (ec rfl en)) hw fun r4 hw => g_endq [(0, .ptr 0 0), (1, ln eGaValue p2)] rfl ?_))))
  refine q_reg (st_mv rfl (g_len rfl (st_mv rfl (g_endq [(0, .ptr 0 0), (11, ln eGaValue p2), (12, ii (p2.length : Int)), (13, ii 0)] rfl ?_))))
  refine sc_block ?_
  obtain ⟨I11, M12, hi, hw⟩ := hw
  refine sc_loop (X := { x : List UInt8 × Int // I11 x.1 x.2 }) (fun x => ([(0, .ptr 0 0), (11, ln eGaValue p2), (12, ii (p2.length : Int)), (13, ii x.1.2)], [.cells [.list (bytesOf x.1.1) (.own 1 1 1)], .tok (1 + x.1.1.length)])) (fun x => M12 x.1.1 x.1.2) ⟨(r4.f_b, (0 : Int)), hi⟩ ws ?_
  rintro ⟨⟨v5, v6⟩, hi2⟩
  have hw := hw v5 v6 hi2
  clear hi
  refine q_reg (gb_cmp rfl rfl trivial rfl hw fun v13 hw => g_endq [(0, .ptr 0 0), (11, ln eGaValue p2), (12, ii (p2.length : Int)), (13, ii v6), (14, .bool v13)] rfl ?_)
  refine sc_seq (s_cond rfl hw (fun hw => ?_) (fun hw => ?_))
  · refine sc_skip (sq_n (sc_seq (sc_block (q_reg (g_iaddrE enc_GaValue (fun a14 => [ii a14.Kind, ii a14.Num, .str a14.Text, ln eGaValue a14.Args]) cGaValue_eq rfl rfl hw fun a14 hw => st_load_r (v := .agg [ii a14.Kind, ii a14.Num, .str a14.Text, ln eGaValue a14.Args]) rfl rfl (g_alloc (n := 2) rfl rfl (g_sp (v := .agg [ii a14.Kind, ii a14.Num, .str a14.Text, ln eGaValue a14.Args]) (h' := [.cells [.list (bytesOf v5) (.own 1 1 1)], .tok (1 + v5.length), .cells [ii a14.Kind, ii a14.Num, .str a14.Text, ln eGaValue a14.Args]]) rfl rfl rfl (g_endq [(0, .ptr 0 0), (5, .ptr 2 0), (11, ln eGaValue p2), (12, ii (p2.length : Int)), (13, ii v6)] rfl ?_))))))))
    refine s_reg (st_mv rfl (g_load_p (v := .agg [ii a14.Kind, ii a14.Num, .str a14.Text, ln eGaValue a14.Args]) rfl rfl rfl (kh hh (g2 := fun r15 : Gvwriter => .tuple []) (H2 := fun r15 : Gvwriter => [.cells [.list (bytesOf r15.f_b) (.own 1 1 1)], .tok (1 + r15.f_b.length), .cells [ii a14.Kind, ii a14.Num, .str a14.Text, ln eGaValue a14.Args]]) [0, 1] [0, 1] 3 0 (ec rfl (ec rfl en)) hw fun r15 hw => g_end [(0, .ptr 0 0), (11, ln eGaValue p2), (12, ii (p2.length : Int)), (13, ii v6)] rfl ?_)))
    refine bl_n (sq_n (s_reg (g_add rfl rfl hw fun v16 hw => st_mv rfl (g_end [(0, .ptr 0 0), (11, ln eGaValue p2), (12, ii (p2.length : Int)), (13, ii v16)] rfl ?_))))
    exact lo_n ⟨(r15.f_b, v16), hw.1⟩ hw.2 (wrm 2 [0, 1])
  · exact sc_exit (sq_x (lo_x (bl_x (gr1 (g := zg87) (ho := zo87) [] hw (.inl rfl) ws))))
end Go.Hw.VB

