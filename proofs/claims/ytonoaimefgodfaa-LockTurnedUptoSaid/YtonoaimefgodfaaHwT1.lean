import Derived.Test.YtonoaimefgodfaaHwStep
import Derived.Test.YtonoaimefgodfaaProg
set_option linter.unusedVariables false
namespace Go.Hw
open Go.Proofs
theorem Try.mixed : Try.prog.follows .mixedOrders = true := by kernel_rfl

/-- roadstead/roadkeep5.cut -/
def hc14 : C := .seq
  (.reg [⟨some 4, .op (.mv (.c (.list [] (.full)))), none⟩] [0, 1])
  (.seq
    (.reg
      [⟨some 5, .op (.mv (.t 0)), none⟩,
       ⟨some 6, .op (.mv (.t 0)), none⟩,
       ⟨some 7, .op (.len false (.t 6)), none⟩,
       ⟨some 8, .op (.mv (.t 1)), none⟩,
       ⟨some 9, .op (.min [.t 7, .t 8]), none⟩,
       ⟨some 10, .op (.slice 1 (.t 5) none (some (.t 9)) none), none⟩,
       ⟨some 11, .call 43 [.t 10], none⟩,
       ⟨some 4, .op (.mv (.t 11)), none⟩]
      [4])
    (.ret))
def ha14 : Ann := ⟨[], [], [(0, [0, 1]), (1, [4])]⟩
theorem hk14 : comp Try.prog ha14 Try.f14.ntmps Try.f14.code = some hc14 := by kernel_rfl
theorem hi14 {args : List HV} {h : Heap} {R : HV → Heap → Prop} (hl : args.length ≤ 12) (hw : HCp Try.prog Try.f14.ntmps hc14 (RetK [4] R) (argEnv args) h) : HCalls Try.prog 14 args h R :=
  HCalls.intro (ts := [4]) Try.mixed Try.func14 rfl (by decide) rfl hl hk14 hw.out
/-- slices.Clone[[]byte,byte] -/
def hc43 : C := .seq
  (.reg [⟨some 2, .op (.mv (.c (.list [] (.full)))), none⟩] [0])
  (.seq
    (.seq
      (.reg
        [⟨some 3, .op (.mv (.t 0)), none⟩,
         ⟨some 4, .op (.eqv false (.slice) (.t 3) (.c (.nilslice))), none⟩]
        [0, 4])
      (.cond
        (.t 4)
        (.seq (.reg [⟨some 2, .op (.mv (.c (.list [] (.full)))), none⟩] [2]) (.ret))
        (.skip)))
    (.seq
      (.reg
        [⟨some 5, .op (.mklist 1 []), none⟩,
         ⟨some 6, .op (.mv (.t 0)), none⟩,
         ⟨some 7, .op (.append 1 1 (.t 5) (.t 6)), none⟩,
         ⟨some 2, .op (.mv (.t 7)), none⟩]
        [2])
      (.ret)))
def ha43 : Ann := ⟨[], [], [(0, [0]), (1, [0, 4]), (2, [2]), (3, [2])]⟩
theorem hk43 : comp Try.prog ha43 Try.f43.ntmps Try.f43.code = some hc43 := by kernel_rfl
theorem hi43 {args : List HV} {h : Heap} {R : HV → Heap → Prop} (hl : args.length ≤ 8) (hw : HCp Try.prog Try.f43.ntmps hc43 (RetK [2] R) (argEnv args) h) : HCalls Try.prog 43 args h R :=
  HCalls.intro (ts := [2]) Try.mixed Try.func43 rfl (by decide) rfl hl hk43 hw.out
/-- bytes.Clone -/
def hc44 : C := .seq
  (.reg [⟨some 2, .op (.mv (.c (.list [] (.full)))), none⟩] [0])
  (.seq
    (.seq
      (.reg
        [⟨some 3, .op (.mv (.t 0)), none⟩,
         ⟨some 4, .op (.eqv false (.slice) (.t 3) (.c (.nilslice))), none⟩]
        [0, 4])
      (.cond
        (.t 4)
        (.seq (.reg [⟨some 2, .op (.mv (.c (.list [] (.full)))), none⟩] [2]) (.ret))
        (.skip)))
    (.seq
      (.reg
        [⟨some 5, .op (.mklist 1 []), none⟩,
         ⟨some 6, .op (.mv (.t 0)), none⟩,
         ⟨some 7, .op (.append 1 1 (.t 5) (.t 6)), none⟩,
         ⟨some 2, .op (.mv (.t 7)), none⟩]
        [2])
      (.ret)))
def ha44 : Ann := ⟨[], [], [(0, [0]), (1, [0, 4]), (2, [2]), (3, [2])]⟩
theorem hk44 : comp Try.prog ha44 Try.f44.ntmps Try.f44.code = some hc44 := by kernel_rfl
theorem hi44 {args : List HV} {h : Heap} {R : HV → Heap → Prop} (hl : args.length ≤ 8) (hw : HCp Try.prog Try.f44.ntmps hc44 (RetK [2] R) (argEnv args) h) : HCalls Try.prog 44 args h R :=
  HCalls.intro (ts := [2]) Try.mixed Try.func44 rfl (by decide) rfl hl hk44 hw.out
/-- roadstead/chunk.Pack -/
def hc15 : C := .seq
  (.reg
    [⟨some 2, .op (.mv (.c (.list [] (.full)))), none⟩,
     ⟨some 3, .op (.mv (.c (.int (.i64) 0))), none⟩]
    [0])
  (.seq
    (.reg [⟨some 4, .op (.mv (.c (.list [] (.full)))), none⟩] [0, 4])
    (.seq
      (.seq
        (.reg
          [⟨some 7, .op (.mv (.t 0)), none⟩,
           ⟨some 8, .op (.len false (.t 7)), none⟩,
           ⟨some 9, .op (.mv (.c (.int (.i64) 0))), none⟩]
          [4, 7, 8, 9])
        (.block
          0
          (.loop
            (.seq
              (.reg [⟨some 10, .op (.bin (.lss) (.t 9) (.t 8)), none⟩] [4, 7, 8, 9, 10])
              (.seq
                (.cond (.t 10) (.skip) (.exit 0))
                (.seq
                  (.block
                    1
                    (.seq
                      (.reg
                        [⟨some 11, .op (.iaddr 1 (.t 7) (.t 9)), none⟩,
                         ⟨some 12, .op (.load none (.t 11)), none⟩,
                         ⟨some 6, .op (.mv (.t 12)), none⟩]
                        [4, 6, 7, 8, 9])
                      (.seq
                        (.seq
                          (.reg
                            [⟨some 13, .op (.mv (.t 6)), none⟩,
                             ⟨some 14, .op (.len false (.t 13)), none⟩,
                             ⟨some 15, .op (.bin (.gtr) (.t 14) (.c (.int (.i64) 65535))), none⟩]
                            [4, 6, 7, 8, 9, 15])
                          (.cond
                            (.t 15)
                            (.seq
                              (.reg
                                [⟨some 2, .op (.mv (.c (.list [] (.full)))), none⟩,
                                 ⟨some 3, .op (.mv (.c (.int (.i64) 2))), none⟩]
                                [2, 3])
                              (.ret))
                            (.skip)))
                        (.reg
                          [⟨some 16, .op (.mv (.t 4)), none⟩,
                           ⟨some 17, .op (.mv (.t 6)), none⟩,
                           ⟨some 18, .op (.len false (.t 17)), none⟩,
                           ⟨some 19, .op (.bin (.shr) (.t 18) (.c (.int (.u64) 8))), none⟩,
                           ⟨some 20, .op (.conv (.int (.u8)) (.t 19)), none⟩,
                           ⟨some 21, .op (.mv (.t 6)), none⟩,
                           ⟨some 22, .op (.len false (.t 21)), none⟩,
                           ⟨some 23, .op (.conv (.int (.u8)) (.t 22)), none⟩,
                           ⟨some 24, .op (.mklist 1 [.t 20, .t 23]), none⟩,
                           ⟨some 25, .op (.append 1 1 (.t 16) (.t 24)), none⟩,
                           ⟨some 26, .op (.mv (.t 6)), none⟩,
                           ⟨some 27, .op (.append 1 1 (.t 25) (.t 26)), none⟩,
                           ⟨some 4, .op (.mv (.t 27)), none⟩]
                          [4, 7, 8, 9]))))
                  (.reg
                    [⟨some 28, .op (.bin (.add) (.t 9) (.c (.int (.i64) 1))), none⟩,
                     ⟨some 9, .op (.mv (.t 28)), none⟩]
                    [4, 7, 8, 9])))))))
      (.seq
        (.reg
          [⟨some 29, .op (.mv (.t 4)), none⟩,
           ⟨some 30, .call 44 [.t 29], none⟩,
           ⟨some 2, .op (.mv (.t 30)), none⟩,
           ⟨some 3, .op (.mv (.c (.int (.i64) 0))), none⟩]
          [2, 3])
        (.ret))))
def ha15 : Ann := ⟨[], [], [(0, [0]), (1, [0, 4]), (2, [4, 7, 8, 9]), (3, [4, 7, 8, 9, 10]), (4, [4, 6, 7, 8, 9]), (5, [4, 6, 7, 8, 9, 15]), (6, [2, 3]), (7, [4, 7, 8, 9]), (8, [4, 7, 8, 9]), (9, [2, 3])]⟩
theorem hk15 : comp Try.prog ha15 Try.f15.ntmps Try.f15.code = some hc15 := by kernel_rfl
theorem hi15 {args : List HV} {h : Heap} {R : HV → Heap → Prop} (hl : args.length ≤ 31) (hw : HCp Try.prog Try.f15.ntmps hc15 (RetK [2, 3] R) (argEnv args) h) : HCalls Try.prog 15 args h R :=
  HCalls.intro (ts := [2, 3]) Try.mixed Try.func15 rfl (by decide) rfl hl hk15 hw.out
/-- roadstead/chunk.Scan -/
def hc16 : C := .seq
  (.reg
    [⟨some 2, .op (.mv (.c (.list [] (.full)))), none⟩,
     ⟨some 3, .op (.mv (.c (.int (.i64) 0))), none⟩]
    [0])
  (.seq
    (.reg [⟨some 4, .op (.mv (.c (.list [] (.full)))), none⟩] [0, 4])
    (.seq
      (.reg [⟨some 5, .op (.mv (.c (.int (.i64) 0))), none⟩] [0, 4, 5])
      (.seq
        (.block
          0
          (.loop
            (.seq
              (.seq
                (.reg
                  [⟨some 7, .op (.mv (.t 0)), none⟩,
                   ⟨some 8, .op (.len false (.t 7)), none⟩,
                   ⟨some 9, .op (.mv (.t 5)), none⟩,
                   ⟨some 10, .op (.bin (.sub) (.t 8) (.t 9)), none⟩,
                   ⟨some 11, .op (.bin (.geq) (.t 10) (.c (.int (.i64) 2))), none⟩]
                  [0, 4, 5, 11])
                (.cond (.t 11) (.skip) (.exit 0)))
              (.block
                1
                (.seq
                  (.dreg
                    [⟨some 12, .op (.mv (.t 0)), none⟩,
                     ⟨some 13, .op (.mv (.t 5)), none⟩,
                     ⟨some 14, .op (.iaddr 1 (.t 12) (.t 13)), none⟩,
                     ⟨some 15, .op (.load none (.t 14)), none⟩,
                     ⟨some 16, .op (.conv (.int (.i64)) (.t 15)), none⟩,
                     ⟨some 17, .op (.bin (.shl) (.t 16) (.c (.int (.u64) 8))), none⟩,
                     ⟨some 18, .op (.mv (.t 0)), none⟩,
                     ⟨some 19, .op (.mv (.t 5)), none⟩,
                     ⟨some 20, .op (.bin (.add) (.t 19) (.c (.int (.i64) 1))), none⟩,
                     ⟨some 21, .op (.iaddr 1 (.t 18) (.t 20)), none⟩,
                     ⟨some 22, .op (.load none (.t 21)), none⟩,
                     ⟨some 23, .op (.conv (.int (.i64)) (.t 22)), none⟩,
                     ⟨some 24, .op (.bin (.or) (.t 17) (.t 23)), none⟩,
                     ⟨some 6, .op (.mv (.t 24)), none⟩]
                    []
                    0
                    [0, 4, 5, 6])
                  (.seq
                    (.seq
                      (.reg
                        [⟨some 25, .op (.mv (.t 0)), none⟩,
                         ⟨some 26, .op (.len false (.t 25)), none⟩,
                         ⟨some 27, .op (.mv (.t 5)), none⟩,
                         ⟨some 28, .op (.bin (.sub) (.t 26) (.t 27)), none⟩,
                         ⟨some 29, .op (.bin (.sub) (.t 28) (.c (.int (.i64) 2))), none⟩,
                         ⟨some 30, .op (.mv (.t 6)), none⟩,
                         ⟨some 31, .op (.bin (.lss) (.t 29) (.t 30)), none⟩]
                        [0, 4, 5, 6, 31])
                      (.cond (.t 31) (.exit 0) (.skip)))
                    (.seq
                      (.reg
                        [⟨some 32, .op (.mv (.t 4)), none⟩,
                         ⟨some 33, .op (.mv (.t 0)), none⟩,
                         ⟨some 34, .op (.mv (.t 5)), none⟩,
                         ⟨some 35, .op (.bin (.add) (.t 34) (.c (.int (.i64) 2))), none⟩,
                         ⟨some 36, .op (.mv (.t 5)), none⟩,
                         ⟨some 37, .op (.bin (.add) (.t 36) (.c (.int (.i64) 2))), none⟩,
                         ⟨some 38, .op (.mv (.t 6)), none⟩,
                         ⟨some 39, .op (.bin (.add) (.t 37) (.t 38)), none⟩,
                         ⟨some 40, .op (.slice 1 (.t 33) (some (.t 35)) (some (.t 39)) none), none⟩,
                         ⟨some 41, .call 44 [.t 40], none⟩,
                         ⟨some 42, .op (.mklist 1 [.t 41]), none⟩,
                         ⟨some 43, .op (.append 1 24 (.t 32) (.t 42)), none⟩,
                         ⟨some 4, .op (.mv (.t 43)), none⟩]
                        [0, 4, 5, 6])
                      (.reg
                        [⟨some 44, .op (.mv (.t 5)), none⟩,
                         ⟨some 45, .op (.mv (.t 6)), none⟩,
                         ⟨some 46, .op (.bin (.add) (.c (.int (.i64) 2)) (.t 45)), none⟩,
                         ⟨some 47, .op (.bin (.add) (.t 44) (.t 46)), none⟩,
                         ⟨some 5, .op (.mv (.t 47)), none⟩]
                        [0, 4, 5]))))))))
        (.seq
          (.reg
            [⟨some 48, .op (.mv (.t 4)), none⟩,
             ⟨some 49, .op (.mv (.t 5)), none⟩,
             ⟨some 2, .op (.mv (.t 48)), none⟩,
             ⟨some 3, .op (.mv (.t 49)), none⟩]
            [2, 3])
          (.ret)))))
def ha16 : Ann := ⟨[], [], [(0, [0]), (1, [0, 4]), (2, [0, 4, 5]), (3, [0, 4, 5, 11]), (4, [0, 4, 5, 6]), (5, [0, 4, 5, 6, 31]), (6, [0, 4, 5, 6]), (7, [0, 4, 5]), (8, [2, 3])]⟩
theorem hk16 : comp Try.prog ha16 Try.f16.ntmps Try.f16.code = some hc16 := by kernel_rfl
theorem hi16 {args : List HV} {h : Heap} {R : HV → Heap → Prop} (hl : args.length ≤ 50) (hw : HCp Try.prog Try.f16.ntmps hc16 (RetK [2, 3] R) (argEnv args) h) : HCalls Try.prog 16 args h R :=
  HCalls.intro (ts := [2, 3]) Try.mixed Try.func16 rfl (by decide) rfl hl hk16 hw.out
/-- roadstead/roadkeep5.rest -/
def hc17 : C := .seq
  (.reg [⟨some 4, .op (.mv (.c (.int (.i64) 0))), none⟩] [0, 1])
  (.seq
    (.seq
      (.reg
        [⟨some 5, .op (.mv (.t 0)), none⟩,
         ⟨some 6, .op (.bin (.lss) (.t 5) (.c (.int (.i64) 0))), none⟩]
        [0, 1, 6])
      (.cond
        (.t 6)
        (.reg
          [⟨some 7, .op (.mv (.t 0)), none⟩,
           ⟨some 8, .op (.bin (.add) (.t 7) (.c (.int (.i64) 1))), none⟩,
           ⟨some 9, .op (.un (.neg) (.t 8)), none⟩,
           ⟨some 0, .op (.mv (.t 9)), none⟩]
          [0, 1])
        (.skip)))
    (.seq
      (.reg
        [⟨some 10, .op (.mv (.t 0)), none⟩,
         ⟨some 11, .op (.mv (.t 1)), none⟩,
         ⟨some 12, .op (.bin (.rem) (.t 10) (.t 11)), none⟩,
         ⟨some 4, .op (.mv (.t 12)), none⟩]
        [4])
      (.ret)))
def ha17 : Ann := ⟨[], [], [(0, [0, 1]), (1, [0, 1, 6]), (2, [0, 1]), (3, [4])]⟩
theorem hk17 : comp Try.prog ha17 Try.f17.ntmps Try.f17.code = some hc17 := by kernel_rfl
theorem hi17 {args : List HV} {h : Heap} {R : HV → Heap → Prop} (hl : args.length ≤ 13) (hw : HCp Try.prog Try.f17.ntmps hc17 (RetK [4] R) (argEnv args) h) : HCalls Try.prog 17 args h R :=
  HCalls.intro (ts := [4]) Try.mixed Try.func17 rfl (by decide) rfl hl hk17 hw.out
/-- roadstead/roadkeep5.ChunkTorn -/
def hc3 : C := .seq
  (.reg [⟨some 4, .op (.mv (.c (.bool false))), none⟩] [0, 1])
  (.seq
    (.reg [⟨some 5, .op (.mv (.c (.list [] (.full)))), none⟩] [0, 1, 5])
    (.seq
      (.seq
        (.reg
          [⟨some 17, .op (.mv (.t 0)), none⟩,
           ⟨some 18, .op (.len false (.t 17)), none⟩,
           ⟨some 19, .op (.mv (.c (.int (.i64) 0))), none⟩]
          [1, 5, 17, 18, 19])
        (.block
          0
          (.loop
            (.seq
              (.reg [⟨some 20, .op (.bin (.lss) (.t 19) (.t 18)), none⟩] [1, 5, 17, 18, 19, 20])
              (.seq
                (.cond (.t 20) (.skip) (.exit 0))
                (.seq
                  (.block
                    1
                    (.seq
                      (.reg
                        [⟨some 21, .op (.mv (.t 19)), none⟩,
                         ⟨some 22, .op (.iaddr 1 (.t 17) (.t 19)), none⟩,
                         ⟨some 23, .op (.load none (.t 22)), none⟩,
                         ⟨some 6, .op (.mv (.t 21)), none⟩,
                         ⟨some 7, .op (.mv (.t 23)), none⟩]
                        [1, 5, 6, 7, 17, 18, 19])
                      (.seq
                        (.reg
                          [⟨some 24, .op (.mv (.t 6)), none⟩,
                           ⟨some 25, .op (.bin (.lss) (.t 24) (.c (.int (.i64) 20))), none⟩]
                          [1, 5, 7, 17, 18, 19, 25])
                        (.cond
                          (.t 25)
                          (.reg
                            [⟨some 26, .op (.mv (.t 5)), none⟩,
                             ⟨some 27, .op (.mv (.t 7)), none⟩,
                             ⟨some 28, .call 14 [.t 27, .c (.int (.i64) 40)], none⟩,
                             ⟨some 29, .op (.mklist 1 [.t 28]), none⟩,
                             ⟨some 30, .op (.append 1 24 (.t 26) (.t 29)), none⟩,
                             ⟨some 5, .op (.mv (.t 30)), none⟩]
                            [1, 5, 17, 18, 19])
                          (.skip)))))
                  (.reg
                    [⟨some 31, .op (.bin (.add) (.t 19) (.c (.int (.i64) 1))), none⟩,
                     ⟨some 19, .op (.mv (.t 31)), none⟩]
                    [1, 5, 17, 18, 19])))))))
      (.seq
        (.reg
          [⟨some 33, .op (.mv (.t 5)), none⟩,
           ⟨some 34, .call 15 [.t 33], none⟩,
           ⟨some 32, .op (.mv (.t 34)), none⟩,
           ⟨some 35, .op (.extract (.t 32) 0), none⟩,
           ⟨some 36, .op (.extract (.t 32) 1), none⟩,
           ⟨some 8, .op (.mv (.t 35)), none⟩,
           ⟨some 9, .op (.mv (.t 36)), none⟩]
          [1, 5, 8, 9])
        (.seq
          (.reg
            [⟨some 38,
               .op
                      (.mklist
                        1
                        [.c (.int (.u8) 0),
                         .c (.int (.u8) 1),
                         .c (.int (.u8) 7),
                         .c (.int (.u8) 0)]),
               none⟩,
             ⟨some 39, .call 16 [.t 38], none⟩,
             ⟨some 37, .op (.mv (.t 39)), none⟩,
             ⟨some 40, .op (.extract (.t 37) 0), none⟩,
             ⟨some 41, .op (.extract (.t 37) 1), none⟩,
             ⟨some 10, .op (.mv (.t 40)), none⟩,
             ⟨some 11, .op (.mv (.t 41)), none⟩]
            [1, 5, 8, 9, 10, 11])
          (.seq
            (.seq
              (.reg
                [⟨some 42, .op (.mv (.t 9)), none⟩,
                 ⟨some 43, .op (.eqv true (.int) (.t 42) (.c (.int (.i64) 0))), none⟩,
                 ⟨some 44, .op (.mv (.t 43)), none⟩,
                 ⟨some 45, .op (.mv (.t 10)), some (44, false)⟩,
                 ⟨some 46, .op (.len false (.t 45)), some (44, false)⟩,
                 ⟨some 47, .op (.eqv true (.int) (.t 46) (.c (.int (.i64) 1))), some (44, false)⟩,
                 ⟨some 48, .op (.pick (.t 44) (.c (.bool true)) (.t 47)), none⟩,
                 ⟨some 49, .op (.mv (.t 48)), none⟩,
                 ⟨some 50, .op (.mv (.t 11)), some (49, false)⟩,
                 ⟨some 51, .op (.eqv true (.int) (.t 50) (.c (.int (.i64) 3))), some (49, false)⟩,
                 ⟨some 52, .op (.pick (.t 49) (.c (.bool true)) (.t 51)), none⟩]
                [1, 5, 8, 52])
              (.cond
                (.t 52)
                (.seq (.reg [⟨some 4, .op (.mv (.c (.bool false))), none⟩] [4]) (.ret))
                (.skip)))
            (.seq
              (.reg
                [⟨some 53, .op (.mv (.t 8)), none⟩,
                 ⟨some 54, .op (.mv (.t 1)), none⟩,
                 ⟨some 55, .op (.mv (.t 8)), none⟩,
                 ⟨some 56, .op (.len false (.t 55)), none⟩,
                 ⟨some 57, .op (.bin (.add) (.t 56) (.c (.int (.i64) 1))), none⟩,
                 ⟨some 58, .call 17 [.t 54, .t 57], none⟩,
                 ⟨some 59, .op (.slice 1 (.t 53) none (some (.t 58)) none), none⟩,
                 ⟨some 8, .op (.mv (.t 59)), none⟩]
                [5, 8])
              (.seq
                (.reg
                  [⟨some 61, .op (.mv (.t 8)), none⟩,
                   ⟨some 62, .call 16 [.t 61], none⟩,
                   ⟨some 60, .op (.mv (.t 62)), none⟩,
                   ⟨some 63, .op (.extract (.t 60) 0), none⟩,
                   ⟨some 64, .op (.extract (.t 60) 1), none⟩,
                   ⟨some 12, .op (.mv (.t 63)), none⟩,
                   ⟨some 13, .op (.mv (.t 64)), none⟩]
                  [5, 8, 12, 13])
                (.seq
                  (.reg [⟨some 14, .op (.mv (.c (.int (.i64) 0))), none⟩] [5, 8, 12, 13, 14])
                  (.seq
                    (.seq
                      (.reg
                        [⟨some 65, .op (.mv (.t 12)), none⟩,
                         ⟨some 66, .op (.len false (.t 65)), none⟩,
                         ⟨some 67, .op (.mv (.c (.int (.i64) 0))), none⟩]
                        [5, 8, 12, 13, 14, 65, 66, 67])
                      (.block
                        2
                        (.loop
                          (.seq
                            (.reg [⟨some 68, .op (.bin (.lss) (.t 67) (.t 66)), none⟩] [5, 8, 12, 13, 14, 65, 66, 67, 68])
                            (.seq
                              (.cond (.t 68) (.skip) (.exit 2))
                              (.seq
                                (.block
                                  3
                                  (.seq
                                    (.reg
                                      [⟨some 69, .op (.mv (.t 67)), none⟩,
                                       ⟨some 70, .op (.iaddr 1 (.t 65) (.t 67)), none⟩,
                                       ⟨some 71, .op (.load none (.t 70)), none⟩,
                                       ⟨some 15, .op (.mv (.t 69)), none⟩,
                                       ⟨some 16, .op (.mv (.t 71)), none⟩]
                                      [5, 8, 12, 13, 14, 15, 16, 65, 66, 67])
                                    (.seq
                                      (.seq
                                        (.dreg
                                          [⟨some 72, .op (.mv (.t 15)), none⟩,
                                           ⟨some 73, .op (.mv (.t 5)), none⟩,
                                           ⟨some 74, .op (.len false (.t 73)), none⟩,
                                           ⟨some 75, .op (.bin (.geq) (.t 72) (.t 74)), none⟩,
                                           ⟨some 76, .op (.mv (.t 75)), none⟩,
                                           ⟨some 77, .op (.mv (.t 16)), some (76, false)⟩,
                                           ⟨some 78, .op (.conv (.ofBytes) (.t 77)), some (76, false)⟩,
                                           ⟨some 79, .op (.mv (.t 5)), some (76, false)⟩,
                                           ⟨some 80, .op (.mv (.t 15)), some (76, false)⟩,
                                           ⟨some 81, .op (.iaddr 1 (.t 79) (.t 80)), some (76, false)⟩,
                                           ⟨some 82, .op (.load none (.t 81)), some (76, false)⟩,
                                           ⟨some 83, .op (.conv (.ofBytes) (.t 82)), some (76, false)⟩,
                                           ⟨some 84, .op (.eqv true (.str) (.t 78) (.t 83)), some (76, false)⟩,
                                           ⟨some 85, .op (.pick (.t 76) (.c (.bool true)) (.t 84)), none⟩]
                                          []
                                          0
                                          [5, 8, 12, 13, 14, 16, 65, 66, 67, 85])
                                        (.cond
                                          (.t 85)
                                          (.seq (.reg [⟨some 4, .op (.mv (.c (.bool false))), none⟩] [4]) (.ret))
                                          (.skip)))
                                      (.reg
                                        [⟨some 86, .op (.mv (.t 14)), none⟩,
                                         ⟨some 87, .op (.mv (.t 16)), none⟩,
                                         ⟨some 88, .op (.len false (.t 87)), none⟩,
                                         ⟨some 89, .op (.bin (.add) (.c (.int (.i64) 2)) (.t 88)), none⟩,
                                         ⟨some 90, .op (.bin (.add) (.t 86) (.t 89)), none⟩,
                                         ⟨some 14, .op (.mv (.t 90)), none⟩]
                                        [5, 8, 12, 13, 14, 65, 66, 67]))))
                                (.reg
                                  [⟨some 91, .op (.bin (.add) (.t 67) (.c (.int (.i64) 1))), none⟩,
                                   ⟨some 67, .op (.mv (.t 91)), none⟩]
                                  [5, 8, 12, 13, 14, 65, 66, 67])))))))
                    (.seq
                      (.reg
                        [⟨some 92, .op (.mv (.t 14)), none⟩,
                         ⟨some 93, .op (.mv (.t 13)), none⟩,
                         ⟨some 94, .op (.eqv false (.int) (.t 92) (.t 93)), none⟩,
                         ⟨some 95, .op (.mv (.t 94)), none⟩,
                         ⟨some 96, .op (.mv (.t 13)), some (95, true)⟩,
                         ⟨some 97, .op (.mv (.t 8)), some (95, true)⟩,
                         ⟨some 98, .op (.len false (.t 97)), some (95, true)⟩,
                         ⟨some 99, .op (.bin (.leq) (.t 96) (.t 98)), some (95, true)⟩,
                         ⟨some 100, .op (.pick (.t 95) (.t 99) (.c (.bool false))), none⟩,
                         ⟨some 101, .op (.mv (.t 100)), none⟩,
                         ⟨some 102, .op (.mv (.t 12)), some (101, true)⟩,
                         ⟨some 103, .op (.len false (.t 102)), some (101, true)⟩,
                         ⟨some 104, .op (.mv (.t 5)), some (101, true)⟩,
                         ⟨some 105, .op (.len false (.t 104)), some (101, true)⟩,
                         ⟨some 106, .op (.eqv false (.int) (.t 103) (.t 105)), some (101, true)⟩,
                         ⟨some 107, .op (.mv (.t 106)), some (101, true)⟩,
                         ⟨some 108, .op (.mv (.t 13)), some (107, false)⟩,
                         ⟨some 109, .op (.bin (.add) (.t 108) (.c (.int (.i64) 2))), some (107, false)⟩,
                         ⟨some 110, .op (.mv (.t 5)), some (107, false)⟩,
                         ⟨some 111, .op (.mv (.t 12)), some (107, false)⟩,
                         ⟨some 112, .op (.len false (.t 111)), some (107, false)⟩,
                         ⟨some 113, .op (.iaddr 1 (.t 110) (.t 112)), some (107, false)⟩,
                         ⟨some 114, .op (.load none (.t 113)), some (107, false)⟩,
                         ⟨some 115, .op (.len false (.t 114)), some (107, false)⟩,
                         ⟨some 116, .op (.bin (.add) (.t 109) (.t 115)), some (107, false)⟩,
                         ⟨some 117, .op (.mv (.t 8)), some (107, false)⟩,
                         ⟨some 118, .op (.len false (.t 117)), some (107, false)⟩,
                         ⟨some 119, .op (.bin (.gtr) (.t 116) (.t 118)), some (107, false)⟩,
                         ⟨some 120, .op (.pick (.t 107) (.c (.bool true)) (.t 119)), some (101, true)⟩,
                         ⟨some 121, .op (.pick (.t 101) (.t 120) (.c (.bool false))), none⟩,
                         ⟨some 4, .op (.mv (.t 121)), none⟩]
                        [4])
                      (.ret)))))))))))
def ha3 : Ann := ⟨[], [], [(0, [0, 1]),
 (1, [0, 1, 5]),
 (2, [1, 5, 17, 18, 19]),
 (3, [1, 5, 17, 18, 19, 20]),
 (4, [1, 5, 6, 7, 17, 18, 19]),
 (5, [1, 5, 7, 17, 18, 19, 25]),
 (6, [1, 5, 17, 18, 19]),
 (7, [1, 5, 17, 18, 19]),
 (8, [1, 5, 8, 9]),
 (9, [1, 5, 8, 9, 10, 11]),
 (10, [1, 5, 8, 52]),
 (11, [4]),
 (12, [5, 8]),
 (13, [5, 8, 12, 13]),
 (14, [5, 8, 12, 13, 14]),
 (15, [5, 8, 12, 13, 14, 65, 66, 67]),
 (16, [5, 8, 12, 13, 14, 65, 66, 67, 68]),
 (17, [5, 8, 12, 13, 14, 15, 16, 65, 66, 67]),
 (18, [5, 8, 12, 13, 14, 16, 65, 66, 67, 85]),
 (19, [4]),
 (20, [5, 8, 12, 13, 14, 65, 66, 67]),
 (21, [5, 8, 12, 13, 14, 65, 66, 67]),
 (22, [4])]⟩
theorem hk3 : comp Try.prog ha3 Try.f3.ntmps Try.f3.code = some hc3 := by kernel_rfl
theorem hi3 {args : List HV} {h : Heap} {R : HV → Heap → Prop} (hl : args.length ≤ 122) (hw : HCp Try.prog Try.f3.ntmps hc3 (RetK [4] R) (argEnv args) h) : HCalls Try.prog 3 args h R :=
  HCalls.intro (ts := [4]) Try.mixed Try.func3 rfl (by decide) rfl hl hk3 hw.out
end Go.Hw
