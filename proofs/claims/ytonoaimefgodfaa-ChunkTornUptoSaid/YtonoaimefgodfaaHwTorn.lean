import Derived.Test.YtonoaimefgodfaaHwG2
import Derived.Test.YtonoaimefgodfaaHwT2
set_option linter.unusedVariables false
set_option linter.unusedSimpArgs false
namespace Go.Hw
open Go Go.Proofs
theorem enc_length (a : List UInt8) : (enc a).length = a.length + 2 := rfl
theorem packed_cons (a : List UInt8) (l : List (List UInt8)) : packed (a :: l) = enc a ++ packed l := rfl
/-- What Scan tells of the head of packed pieces. -/
theorem scan_pre : ∀ (x : List (List UInt8)), (∀ a ∈ x, a.length ≤ 65535) → ∀ (r : Nat), r ≤ (packed x).length → ∃ j, j ≤ x.length ∧ scan ((packed x).take r) = (x.take j, (packed (x.take j)).length) ∧ (packed (x.take j)).length ≤ r ∧ (∀ a, x[j]? = some a → r < (packed (x.take j)).length + 2 + a.length)
  | [], _, r, hr => ⟨0, by simp, by simp [packed, scan_stop], by simp [packed], by simp⟩
  | a :: x, h, r, hr => by
    have ha := h a (by simp)
    by_cases hlt : r < a.length + 2
    · refine ⟨0, by simp, ?_, by simp [packed], fun b hb => ?_⟩
      · simp only [List.take_zero]
        by_cases h2 : r < 2
        · exact scan_stop (by rw [List.length_take]; omega)
        · obtain ⟨m, rfl⟩ : ∃ m, r = m + 2 := ⟨r - 2, by omega⟩
          rw [packed_cons, enc, List.cons_append, List.cons_append, List.take_succ_cons, List.take_succ_cons]
          refine scan_short ?_
          rw [List.length_take]
          simp
          omega
      · simp at hb
        subst hb
        simp [packed]
        omega
    · obtain ⟨m, rfl⟩ : ∃ m, r = a.length + 2 + m := ⟨r - (a.length + 2), by omega⟩
      rw [packed_cons, List.length_append, enc_length] at hr
      obtain ⟨j, h1, h2, h3, h4⟩ := scan_pre x (fun b hb => h b (by simp [hb])) m (by omega)
      have he : (packed (a :: x)).take (a.length + 2 + m) = UInt8.ofNat (a.length / 256 % 256) :: UInt8.ofNat (a.length % 256) :: (a ++ (packed x).take m) := by
        rw [packed_cons, List.take_append, enc_length, List.take_of_length_le (by rw [enc_length]; omega), show a.length + 2 + m - (a.length + 2) = m by omega]
        rfl
      have hn : (UInt8.ofNat (a.length / 256 % 256)).toNat * 256 + (UInt8.ofNat (a.length % 256)).toNat = a.length := by
        simp
        omega
      refine ⟨j + 1, by simp; omega, ?_, ?_, fun b hb => ?_⟩
      · rw [he, scan_step (by rw [hn]; simp), hn, List.take_left, List.drop_left, h2, List.take_succ_cons, packed_cons, List.length_append, enc_length]
        simp only [Prod.mk.injEq, true_and]
        omega
      · rw [List.take_succ_cons, packed_cons, List.length_append, enc_length]
        omega
      · have := h4 b (by simpa using hb)
        rw [List.take_succ_cons, packed_cons, List.length_append, enc_length]
        omega
theorem scan1_call : PCall Try.prog 16 [eB [0, 1, 7, 0]] (.tuple [eL [[7]], .int .i64 3]) := scan_call [0, 1, 7, 0] (by decide)

def pieces (l : List (List UInt8)) : List (List UInt8) := (l.take 20).map (List.take 40)
theorem pieces_snoc (l : List (List UInt8)) (i : Nat) (a : List UInt8) (h : l[i]? = some a) (hi : i < 20) : pieces (l.take (i + 1)) = pieces (l.take i) ++ [a.take 40] := by
  have : (l.take i).length ≤ 20 := by rw [List.length_take]; omega
  rw [List.take_add_one, h, Option.toList_some, pieces, pieces, List.take_of_length_le this, List.take_of_length_le (by rw [List.length_append, List.length_take]; simp; omega), List.map_append]
  rfl
theorem pieces_stay (l : List (List UInt8)) (i : Nat) (hi : 20 ≤ i) : pieces (l.take (i + 1)) = pieces (l.take i) := by
  simp only [pieces, List.take_take]
  rw [Nat.min_eq_left (by omega), Nat.min_eq_left (by omega)]
theorem pieces_le (l : List (List UInt8)) : (pieces l).length ≤ 20 := by simp [pieces]; omega
theorem pieces_each (l : List (List UInt8)) : ∀ a ∈ pieces l, a.length ≤ 40 := by
  intro a ha
  simp only [pieces, List.mem_map] at ha
  obtain ⟨b, _, rfl⟩ := ha
  simp
  omega
theorem packed_small : ∀ (x : List (List UInt8)), (∀ a ∈ x, a.length ≤ 40) → (packed x).length ≤ 42 * x.length
  | [], _ => by simp [packed]
  | a :: x, h => by
    have := packed_small x fun b hb => h b (by simp [hb])
    have := h a (by simp)
    rw [packed_cons, List.length_append, enc_length, List.length_cons]
    omega

namespace G3

abbrev sp3 (p45 : List (List UInt8)) (p46 : Int) (r : Bool) : Prop := PCall Try.prog 3 [.list (List.map eB p45) .none, .int .i64 p46] (.bool r)
abbrev sp14 (p47 : List UInt8) (p48 : Int) (r : List UInt8) : Prop := PCall Try.prog 14 [.list (bytesOf p47) .none, .int .i64 p48] (.list (bytesOf r) .none)
abbrev sp15 (p49 : List (List UInt8)) (r : List UInt8 × Int) : Prop := PCall Try.prog 15 [.list (List.map eB p49) .none] (.tuple [.list (bytesOf r.1) .none, .int .i64 r.2])
abbrev sp16 (p50 : List UInt8) (r : List (List UInt8) × Int) : Prop := PCall Try.prog 16 [.list (bytesOf p50) .none] (.tuple [.list (List.map eB r.1) .none, .int .i64 r.2])
abbrev sp17 (p51 : Int) (p52 : Int) (r : Int) : Prop := PCall Try.prog 17 [.int .i64 p51, .int .i64 p52] (.int .i64 r)
/-- roadstead/roadkeep5.ChunkTorn -/
def hc3 : C := (.seq (.reg [⟨(some 4), (.op (.mv (.c (.bool false)))), none⟩] [0, 1]) (.seq (.reg [⟨(some 5), (.op (.mv (.c (.list [] .full)))), none⟩] [0, 1, 5]) (.seq (.seq (.reg [⟨(some 17), (.op (.mv (.t 0))), none⟩, ⟨(some 18), (.op (.len false (.t 17))), none⟩, ⟨(some 19), (.op (.mv (.c (.int .i64 0)))), none⟩] [1, 5, 17, 18, 19]) (.block 0 (.loop (.seq (.reg [⟨(some 20), (.op (.bin .lss (.t 19) (.t 18))), none⟩] [1, 5, 17, 18, 19, 20]) (.seq (.cond (.t 20) .skip (.exit 0)) (.seq (.block 1 (.seq (.reg [⟨(some 21), (.op (.mv (.t 19))), none⟩, ⟨(some 22), (.op (.iaddr 1 (.t 17) (.t 19))), none⟩, ⟨(some 23), (.op (.load none (.t 22))), none⟩, ⟨(some 6), (.op (.mv (.t 21))), none⟩, ⟨(some 7), (.op (.mv (.t 23))), none⟩] [1, 5, 6, 7, 17, 18, 19]) (.seq (.reg [⟨(some 24), (.op (.mv (.t 6))), none⟩, ⟨(some 25), (.op (.bin .lss (.t 24) (.c (.int .i64 20)))), none⟩] [1, 5, 7, 17, 18, 19, 25]) (.cond (.t 25) (.reg [⟨(some 26), (.op (.mv (.t 5))), none⟩, ⟨(some 27), (.op (.mv (.t 7))), none⟩, ⟨(some 28), (.call 14 [(.t 27), (.c (.int .i64 40))]), none⟩, ⟨(some 29), (.op (.mklist 1 [(.t 28)])), none⟩, ⟨(some 30), (.op (.append 1 24 (.t 26) (.t 29))), none⟩, ⟨(some 5), (.op (.mv (.t 30))), none⟩] [1, 5, 17, 18, 19]) .skip)))) (.reg [⟨(some 31), (.op (.bin .add (.t 19) (.c (.int .i64 1)))), none⟩, ⟨(some 19), (.op (.mv (.t 31))), none⟩] [1, 5, 17, 18, 19]))))))) (.seq (.reg [⟨(some 33), (.op (.mv (.t 5))), none⟩, ⟨(some 34), (.call 15 [(.t 33)]), none⟩, ⟨(some 32), (.op (.mv (.t 34))), none⟩, ⟨(some 35), (.op (.extract (.t 32) 0)), none⟩, ⟨(some 36), (.op (.extract (.t 32) 1)), none⟩, ⟨(some 8), (.op (.mv (.t 35))), none⟩, ⟨(some 9), (.op (.mv (.t 36))), none⟩] [1, 5, 8, 9]) (.seq (.reg [⟨(some 38), (.op (.mklist 1 [(.c (.int .u8 0)), (.c (.int .u8 1)), (.c (.int .u8 7)), (.c (.int .u8 0))])), none⟩, ⟨(some 39), (.call 16 [(.t 38)]), none⟩, ⟨(some 37), (.op (.mv (.t 39))), none⟩, ⟨(some 40), (.op (.extract (.t 37) 0)), none⟩, ⟨(some 41), (.op (.extract (.t 37) 1)), none⟩, ⟨(some 10), (.op (.mv (.t 40))), none⟩, ⟨(some 11), (.op (.mv (.t 41))), none⟩] [1, 5, 8, 9, 10, 11]) (.seq (.seq (.reg [⟨(some 42), (.op (.mv (.t 9))), none⟩, ⟨(some 43), (.op (.eqv true .int (.t 42) (.c (.int .i64 0)))), none⟩, ⟨(some 44), (.op (.mv (.t 43))), none⟩, ⟨(some 45), (.op (.mv (.t 10))), (some (44, false))⟩, ⟨(some 46), (.op (.len false (.t 45))), (some (44, false))⟩, ⟨(some 47), (.op (.eqv true .int (.t 46) (.c (.int .i64 1)))), (some (44, false))⟩, ⟨(some 48), (.op (.pick (.t 44) (.c (.bool true)) (.t 47))), none⟩, ⟨(some 49), (.op (.mv (.t 48))), none⟩, ⟨(some 50), (.op (.mv (.t 11))), (some (49, false))⟩, ⟨(some 51), (.op (.eqv true .int (.t 50) (.c (.int .i64 3)))), (some (49, false))⟩, ⟨(some 52), (.op (.pick (.t 49) (.c (.bool true)) (.t 51))), none⟩] [1, 5, 8, 52]) (.cond (.t 52) (.seq (.reg [⟨(some 4), (.op (.mv (.c (.bool false)))), none⟩] [4]) .ret) .skip)) (.seq (.reg [⟨(some 53), (.op (.mv (.t 8))), none⟩, ⟨(some 54), (.op (.mv (.t 1))), none⟩, ⟨(some 55), (.op (.mv (.t 8))), none⟩, ⟨(some 56), (.op (.len false (.t 55))), none⟩, ⟨(some 57), (.op (.bin .add (.t 56) (.c (.int .i64 1)))), none⟩, ⟨(some 58), (.call 17 [(.t 54), (.t 57)]), none⟩, ⟨(some 59), (.op (.slice 1 (.t 53) none (some (.t 58)) none)), none⟩, ⟨(some 8), (.op (.mv (.t 59))), none⟩] [5, 8]) (.seq (.reg [⟨(some 61), (.op (.mv (.t 8))), none⟩, ⟨(some 62), (.call 16 [(.t 61)]), none⟩, ⟨(some 60), (.op (.mv (.t 62))), none⟩, ⟨(some 63), (.op (.extract (.t 60) 0)), none⟩, ⟨(some 64), (.op (.extract (.t 60) 1)), none⟩, ⟨(some 12), (.op (.mv (.t 63))), none⟩, ⟨(some 13), (.op (.mv (.t 64))), none⟩] [5, 8, 12, 13]) (.seq (.reg [⟨(some 14), (.op (.mv (.c (.int .i64 0)))), none⟩] [5, 8, 12, 13, 14]) (.seq (.seq (.reg [⟨(some 65), (.op (.mv (.t 12))), none⟩, ⟨(some 66), (.op (.len false (.t 65))), none⟩, ⟨(some 67), (.op (.mv (.c (.int .i64 0)))), none⟩] [5, 8, 12, 13, 14, 65, 66, 67]) (.block 2 (.loop (.seq (.reg [⟨(some 68), (.op (.bin .lss (.t 67) (.t 66))), none⟩] [5, 8, 12, 13, 14, 65, 66, 67, 68]) (.seq (.cond (.t 68) .skip (.exit 2)) (.seq (.block 3 (.seq (.reg [⟨(some 69), (.op (.mv (.t 67))), none⟩, ⟨(some 70), (.op (.iaddr 1 (.t 65) (.t 67))), none⟩, ⟨(some 71), (.op (.load none (.t 70))), none⟩, ⟨(some 15), (.op (.mv (.t 69))), none⟩, ⟨(some 16), (.op (.mv (.t 71))), none⟩] [5, 8, 12, 13, 14, 15, 16, 65, 66, 67]) (.seq (.seq (.dreg [⟨(some 72), (.op (.mv (.t 15))), none⟩, ⟨(some 73), (.op (.mv (.t 5))), none⟩, ⟨(some 74), (.op (.len false (.t 73))), none⟩, ⟨(some 75), (.op (.bin .geq (.t 72) (.t 74))), none⟩, ⟨(some 76), (.op (.mv (.t 75))), none⟩, ⟨(some 77), (.op (.mv (.t 16))), (some (76, false))⟩, ⟨(some 78), (.op (.conv .ofBytes (.t 77))), (some (76, false))⟩, ⟨(some 79), (.op (.mv (.t 5))), (some (76, false))⟩, ⟨(some 80), (.op (.mv (.t 15))), (some (76, false))⟩, ⟨(some 81), (.op (.iaddr 1 (.t 79) (.t 80))), (some (76, false))⟩, ⟨(some 82), (.op (.load none (.t 81))), (some (76, false))⟩, ⟨(some 83), (.op (.conv .ofBytes (.t 82))), (some (76, false))⟩, ⟨(some 84), (.op (.eqv true .str (.t 78) (.t 83))), (some (76, false))⟩, ⟨(some 85), (.op (.pick (.t 76) (.c (.bool true)) (.t 84))), none⟩] [] 0 [5, 8, 12, 13, 14, 16, 65, 66, 67, 85]) (.cond (.t 85) (.seq (.reg [⟨(some 4), (.op (.mv (.c (.bool false)))), none⟩] [4]) .ret) .skip)) (.reg [⟨(some 86), (.op (.mv (.t 14))), none⟩, ⟨(some 87), (.op (.mv (.t 16))), none⟩, ⟨(some 88), (.op (.len false (.t 87))), none⟩, ⟨(some 89), (.op (.bin .add (.c (.int .i64 2)) (.t 88))), none⟩, ⟨(some 90), (.op (.bin .add (.t 86) (.t 89))), none⟩, ⟨(some 14), (.op (.mv (.t 90))), none⟩] [5, 8, 12, 13, 14, 65, 66, 67])))) (.reg [⟨(some 91), (.op (.bin .add (.t 67) (.c (.int .i64 1)))), none⟩, ⟨(some 67), (.op (.mv (.t 91))), none⟩] [5, 8, 12, 13, 14, 65, 66, 67]))))))) (.seq (.reg [⟨(some 92), (.op (.mv (.t 14))), none⟩, ⟨(some 93), (.op (.mv (.t 13))), none⟩, ⟨(some 94), (.op (.eqv false .int (.t 92) (.t 93))), none⟩, ⟨(some 95), (.op (.mv (.t 94))), none⟩, ⟨(some 96), (.op (.mv (.t 13))), (some (95, true))⟩, ⟨(some 97), (.op (.mv (.t 8))), (some (95, true))⟩, ⟨(some 98), (.op (.len false (.t 97))), (some (95, true))⟩, ⟨(some 99), (.op (.bin .leq (.t 96) (.t 98))), (some (95, true))⟩, ⟨(some 100), (.op (.pick (.t 95) (.t 99) (.c (.bool false)))), none⟩, ⟨(some 101), (.op (.mv (.t 100))), none⟩, ⟨(some 102), (.op (.mv (.t 12))), (some (101, true))⟩, ⟨(some 103), (.op (.len false (.t 102))), (some (101, true))⟩, ⟨(some 104), (.op (.mv (.t 5))), (some (101, true))⟩, ⟨(some 105), (.op (.len false (.t 104))), (some (101, true))⟩, ⟨(some 106), (.op (.eqv false .int (.t 103) (.t 105))), (some (101, true))⟩, ⟨(some 107), (.op (.mv (.t 106))), (some (101, true))⟩, ⟨(some 108), (.op (.mv (.t 13))), (some (107, false))⟩, ⟨(some 109), (.op (.bin .add (.t 108) (.c (.int .i64 2)))), (some (107, false))⟩, ⟨(some 110), (.op (.mv (.t 5))), (some (107, false))⟩, ⟨(some 111), (.op (.mv (.t 12))), (some (107, false))⟩, ⟨(some 112), (.op (.len false (.t 111))), (some (107, false))⟩, ⟨(some 113), (.op (.iaddr 1 (.t 110) (.t 112))), (some (107, false))⟩, ⟨(some 114), (.op (.load none (.t 113))), (some (107, false))⟩, ⟨(some 115), (.op (.len false (.t 114))), (some (107, false))⟩, ⟨(some 116), (.op (.bin .add (.t 109) (.t 115))), (some (107, false))⟩, ⟨(some 117), (.op (.mv (.t 8))), (some (107, false))⟩, ⟨(some 118), (.op (.len false (.t 117))), (some (107, false))⟩, ⟨(some 119), (.op (.bin .gtr (.t 116) (.t 118))), (some (107, false))⟩, ⟨(some 120), (.op (.pick (.t 107) (.c (.bool true)) (.t 119))), (some (101, true))⟩, ⟨(some 121), (.op (.pick (.t 101) (.t 120) (.c (.bool false)))), none⟩, ⟨(some 4), (.op (.mv (.t 121))), none⟩] [4]) .ret)))))))))))
def ha3 : Ann := ⟨[], [], [(0, [0, 1]), (1, [0, 1, 5]), (2, [1, 5, 17, 18, 19]), (3, [1, 5, 17, 18, 19, 20]), (4, [1, 5, 6, 7, 17, 18, 19]), (5, [1, 5, 7, 17, 18, 19, 25]), (6, [1, 5, 17, 18, 19]), (7, [1, 5, 17, 18, 19]), (8, [1, 5, 8, 9]), (9, [1, 5, 8, 9, 10, 11]), (10, [1, 5, 8, 52]), (11, [4]), (12, [5, 8]), (13, [5, 8, 12, 13]), (14, [5, 8, 12, 13, 14]), (15, [5, 8, 12, 13, 14, 65, 66, 67]), (16, [5, 8, 12, 13, 14, 65, 66, 67, 68]), (17, [5, 8, 12, 13, 14, 15, 16, 65, 66, 67]), (18, [5, 8, 12, 13, 14, 16, 65, 66, 67, 85]), (19, [4]), (20, [5, 8, 12, 13, 14, 65, 66, 67]), (21, [5, 8, 12, 13, 14, 65, 66, 67]), (22, [4])]⟩
theorem hk3 : comp Try.prog ha3 Try.f3.ntmps Try.f3.code = some hc3 := by kernel_rfl
def w3 (p1 : List (List UInt8)) (p2 : Int) (Q : Bool → Prop) : Prop :=
  ∃ (I11 : (List (List UInt8)) → Int → Prop) (M12 : (List (List UInt8)) → Int → Nat), I11 ([] : List (List UInt8)) 0 ∧ ∀ (v3 : List (List UInt8)) (v4 : Int), I11 v3 v4 → ∀ v13 : Bool, v13 = decide (v4 < (p1.length : Int)) → ((v13 = true → (0 ≤ v4 ∧ v4 < (p1.length : Int)) ∧ ∀ a14 : List UInt8, p1[(v4).toNat]? = some a14 → ((v4 < 20 → ∃ r15 : List UInt8, sp14 a14 40 r15 ∧ ((v3.length + ([r15] : List (List UInt8)).length) * 24 ≤ 140737488355328) ∧ ∀ v16 : List (List UInt8), v16 = v3 ++ ([r15] : List (List UInt8)) → (-9223372036854775808 ≤ v4 + 1 ∧ v4 + 1 ≤ 9223372036854775807) ∧ ∀ v17 : Int, v17 = v4 + 1 → (I11 v16 v17 ∧ M12 v16 v17 < M12 v3 v4)) ∧ (20 ≤ v4 → (-9223372036854775808 ≤ v4 + 1 ∧ v4 + 1 ≤ 9223372036854775807) ∧ ∀ v18 : Int, v18 = v4 + 1 → (I11 v3 v18 ∧ M12 v3 v18 < M12 v3 v4)))) ∧ (v13 = false → ∃ r19 : List UInt8 × Int, sp15 v3 r19 ∧ ∃ r20 : List (List UInt8) × Int, sp16 ([0, 1, 7, 0] : List UInt8) r20 ∧ ((r19.2 ≠ 0 → Q false) ∧ (r19.2 = 0 → (((r20.1.length : Int) ≠ 1 → Q false) ∧ ((r20.1.length : Int) = 1 → ((r20.2 ≠ 3 → Q false) ∧ (r20.2 = 3 → (-9223372036854775808 ≤ (r19.1.length : Int) + 1 ∧ (r19.1.length : Int) + 1 ≤ 9223372036854775807) ∧ ∀ v21 : Int, v21 = (r19.1.length : Int) + 1 → ∃ r22 : Int, sp17 p2 v21 r22 ∧ (0 ≤ (0 : Int) ∧ 0 ≤ r22 ∧ r22 ≤ (r19.1.length : Int)) ∧ ∀ v23 : List UInt8, v23 = (r19.1.take (r22).toNat).drop (0 : Int).toNat → ∃ r24 : List (List UInt8) × Int, sp16 v23 r24 ∧ ∃ (I33 : Int → Int → Prop) (M34 : Int → Int → Nat), I33 0 0 ∧ ∀ (v25 : Int) (v26 : Int), I33 v25 v26 → ∀ v35 : Bool, v35 = decide (v26 < (r24.1.length : Int)) → ((v35 = true → (0 ≤ v26 ∧ v26 < (r24.1.length : Int)) ∧ ∀ a36 : List UInt8, r24.1[(v26).toNat]? = some a36 → (((v3.length : Int) ≤ v26 → Q false) ∧ (v26 < (v3.length : Int) → (0 ≤ v26 ∧ v26 < (v3.length : Int)) ∧ ∀ a37 : List UInt8, v3[(v26).toNat]? = some a37 → ((a36 ≠ a37 → Q false) ∧ (a36 = a37 → (-9223372036854775808 ≤ 2 + (a36.length : Int) ∧ 2 + (a36.length : Int) ≤ 9223372036854775807) ∧ ∀ v38 : Int, v38 = 2 + (a36.length : Int) → (-9223372036854775808 ≤ v25 + v38 ∧ v25 + v38 ≤ 9223372036854775807) ∧ ∀ v39 : Int, v39 = v25 + v38 → (-9223372036854775808 ≤ v26 + 1 ∧ v26 + 1 ≤ 9223372036854775807) ∧ ∀ v40 : Int, v40 = v26 + 1 → (I33 v39 v40 ∧ M34 v39 v40 < M34 v25 v26)))))) ∧ (v35 = false → ((v25 = r24.2 → ((r24.2 ≤ (v23.length : Int) → (((r24.1.length : Int) = (v3.length : Int) → Q true) ∧ ((r24.1.length : Int) ≠ (v3.length : Int) → (-9223372036854775808 ≤ r24.2 + 2 ∧ r24.2 + 2 ≤ 9223372036854775807) ∧ ∀ v41 : Int, v41 = r24.2 + 2 → (0 ≤ (r24.1.length : Int) ∧ (r24.1.length : Int) < (v3.length : Int)) ∧ ∀ a42 : List UInt8, v3[((r24.1.length : Int)).toNat]? = some a42 → (-9223372036854775808 ≤ v41 + (a42.length : Int) ∧ v41 + (a42.length : Int) ≤ 9223372036854775807) ∧ ∀ v43 : Int, v43 = v41 + (a42.length : Int) → ∀ v44 : Bool, v44 = decide (v43 > (v23.length : Int)) → Q v44))) ∧ ((v23.length : Int) < r24.2 → Q false))) ∧ (v25 ≠ r24.2 → Q false))))))))))))
theorem ok3 (p1 : List (List UInt8)) (p2 : Int) (r : Bool) (hw : w3 p1 p2 fun r' => r' = r) : sp3 p1 p2 r := by
  refine p_func (rs := [.t 4]) (g := fun r : Bool => .bool r) Try.func3 rfl (by decide) (by kernel_rfl) (Nat.le_of_ble_eq_true rfl) hk3 (pvc ((enc_lst enc_bytes).all _) (pvc (.int _ _) pvn)) (.bool _) ?_
  unfold w3 at hw
  show SC Try.prog Try.f3.ntmps 0 hc3 _ [(0, .list (List.map eB p1) .none), (1, .int .i64 p2)] []
  unfold hc3
  refine sc_seq ?_
  refine s_reg (st_mv rfl (g_end [(0, .list (List.map eB p1) .none), (1, .int .i64 p2)] rfl ?_))
  refine sq_n ?_
  refine sc_seq ?_
  refine s_reg (st_mv rfl (g_end [(0, .list (List.map eB p1) .none), (1, .int .i64 p2), (5, .list (List.map eB ([] : List (List UInt8))) .full)] rfl ?_))
  refine sq_n ?_
  refine sc_seq ?_
  refine sc_seq ?_
  refine s_reg (st_mv rfl (g_len rfl (st_mv rfl (g_end [(1, .int .i64 p2), (5, .list (List.map eB ([] : List (List UInt8))) .full), (17, .list (List.map eB p1) .none), (18, .int .i64 (p1.length : Int)), (19, .int .i64 0)] rfl ?_))))
  refine sq_n ?_
  refine sc_block ?_
  obtain ⟨I11, M12, hi, hw⟩ := hw
  refine sc_loop (X := { x : List (List UInt8) × Int // I11 x.1 x.2 }) (fun x => ([(1, .int .i64 p2), (5, .list (List.map eB x.1.1) (.own 0 1 1)), (17, .list (List.map eB p1) .none), (18, .int .i64 (p1.length : Int)), (19, .int .i64 x.1.2)], [.tok (1 + x.1.1.length)])) (fun x => M12 x.1.1 x.1.2) ⟨(([] : List (List UInt8)), 0), hi⟩ ((w_acc 5 1 (n := 0) rfl enc_bytes rfl).trans (WeakF.of (Weak.sub (sub_cons rfl (.inl rfl) (sub_cons rfl (.inl rfl) (sub_cons rfl (.inl rfl) (sub_cons rfl (.inl rfl) (sub_cons rfl (.inl rfl) sub_nil)))))))) ?_
  rintro ⟨⟨v3, v4⟩, hi2⟩
  have hw := hw v3 v4 hi2
  clear hi
  refine sc_seq ?_
  refine s_reg (gb_cmp rfl rfl trivial rfl hw fun v13 hw => g_end [(1, .int .i64 p2), (5, .list (List.map eB v3) (.own 0 1 1)), (17, .list (List.map eB p1) .none), (18, .int .i64 (p1.length : Int)), (19, .int .i64 v4), (20, .bool v13)] rfl ?_)
  refine sq_n ?_
  refine sc_seq ?_
  refine s_cond rfl hw (fun hw => ?_) (fun hw => ?_)
  · refine sc_skip ?_
    refine sq_n ?_
    refine sc_seq ?_
    refine sc_block ?_
    refine sc_seq ?_
    refine s_reg (st_mv rfl (g_iaddr enc_bytes rfl rfl hw fun a14 hw => st_load_r (v := .list (bytesOf a14) .none) rfl rfl (st_mv rfl (st_mv rfl (g_end [(1, .int .i64 p2), (5, .list (List.map eB v3) (.own 0 1 1)), (6, .int .i64 v4), (7, .list (bytesOf a14) .none), (17, .list (List.map eB p1) .none), (18, .int .i64 (p1.length : Int)), (19, .int .i64 v4)] rfl ?_)))))
    refine sq_n ?_
    refine sc_seq ?_
    refine s_reg (st_mv rfl (g_lss rfl rfl hw (fun hw => g_end [(1, .int .i64 p2), (5, .list (List.map eB v3) (.own 0 1 1)), (7, .list (bytesOf a14) .none), (17, .list (List.map eB p1) .none), (18, .int .i64 (p1.length : Int)), (19, .int .i64 v4), (25, .bool true)] rfl ?_) (fun hw => g_end [(1, .int .i64 p2), (5, .list (List.map eB v3) (.own 0 1 1)), (7, .list (bytesOf a14) .none), (17, .list (List.map eB p1) .none), (18, .int .i64 (p1.length : Int)), (19, .int .i64 v4), (25, .bool false)] rfl ?_)))
    · refine sq_n ?_
      refine s_cond_t rfl ?_
      refine s_reg (st_mv rfl (st_mv rfl (g_call (ev_cons rfl (ev_cons rfl ev_nil)) rfl hw fun r15 hw => g_mkl enc_bytes [r15] (ev_cons rfl ev_nil) rfl (mkc ⟨rfl, rfl⟩ mkn) (g_appo enc_bytes rfl rfl rfl hw (fun z => [.tok (1 + z.length)]) (fun _ => rfl) fun v16 hw => st_mv rfl (g_end [(1, .int .i64 p2), (5, .list (List.map eB v16) (.own 0 1 1)), (17, .list (List.map eB p1) .none), (18, .int .i64 (p1.length : Int)), (19, .int .i64 v4)] rfl ?_)))))
      refine bl_n ?_
      refine sq_n ?_
      refine s_reg (g_add rfl rfl hw fun v17 hw => st_mv rfl (g_end [(1, .int .i64 p2), (5, .list (List.map eB v16) (.own 0 1 1)), (17, .list (List.map eB p1) .none), (18, .int .i64 (p1.length : Int)), (19, .int .i64 v17)] rfl ?_))
      exact lo_n ⟨(v16, v17), hw.1⟩ hw.2 (WeakF.of (Weak.sub (sub_cons rfl (.inl rfl) (sub_cons rfl (.inl rfl) (sub_cons rfl (.inl rfl) (sub_cons rfl (.inl rfl) (sub_cons rfl (.inl rfl) sub_nil)))))))
    · refine sq_n ?_
      refine s_cond_f rfl ?_
      refine sc_skip ?_
      refine bl_n ?_
      refine sq_n ?_
      refine s_reg (g_add rfl rfl hw fun v18 hw => st_mv rfl (g_end [(1, .int .i64 p2), (5, .list (List.map eB v3) (.own 0 1 1)), (17, .list (List.map eB p1) .none), (18, .int .i64 (p1.length : Int)), (19, .int .i64 v18)] rfl ?_))
      exact lo_n ⟨(v3, v18), hw.1⟩ hw.2 (WeakF.of (Weak.sub (sub_cons rfl (.inl rfl) (sub_cons rfl (.inl rfl) (sub_cons rfl (.inl rfl) (sub_cons rfl (.inl rfl) (sub_cons rfl (.inl rfl) sub_nil)))))))
  · refine sc_exit ?_
    refine sq_x ?_
    refine lo_x ?_
    refine bl_x ?_
    refine sq_n ?_
    refine sc_seq ?_
    refine s_reg (st_mv rfl (g_call (ev_cons rfl ev_nil) rfl hw fun r19 hw => st_mv rfl (st_extract rfl rfl (st_extract rfl rfl (st_mv rfl (st_mv rfl (g_end [(1, .int .i64 p2), (5, .list (List.map eB v3) (.own 0 1 1)), (8, .list (bytesOf r19.1) .none), (9, .int .i64 r19.2)] rfl ?_)))))))
    refine sq_n ?_
    refine sc_seq ?_
    refine s_reg (g_mkl enc_byte [0, 1, 7, 0] (ev_cons rfl (ev_cons rfl (ev_cons rfl (ev_cons rfl ev_nil)))) rfl (mkc ⟨rfl, rfl⟩ (mkc ⟨rfl, rfl⟩ (mkc ⟨rfl, rfl⟩ (mkc ⟨rfl, rfl⟩ mkn)))) (g_call (ev_cons rfl ev_nil) rfl hw fun r20 hw => st_mv rfl (st_extract rfl rfl (st_extract rfl rfl (st_mv rfl (st_mv rfl (g_end [(1, .int .i64 p2), (5, .list (List.map eB v3) (.own 0 1 1)), (8, .list (bytesOf r19.1) .none), (9, .int .i64 r19.2), (10, .list (List.map eB r20.1) .none), (11, .int .i64 r20.2)] rfl ?_)))))))
    refine sq_n ?_
    refine sc_seq ?_
    refine sc_seq ?_
    refine s_reg (st_mv rfl (g_nei rfl rfl hw (fun hw => st_mv rfl (st_gtf rfl (st_gtf rfl (st_gtf rfl (st_pick_t rfl rfl rfl (st_mv rfl (st_gtf rfl (st_gtf rfl (st_pick_t rfl rfl rfl (g_end [(1, .int .i64 p2), (5, .list (List.map eB v3) (.own 0 1 1)), (8, .list (bytesOf r19.1) .none), (52, .bool true)] rfl ?_)))))))))) (fun hw => st_mv rfl (st_g rfl (st_mv rfl (st_g rfl (g_len rfl (st_g rfl (g_nei rfl rfl hw (fun hw => st_pick_f rfl rfl rfl (st_mv rfl (st_gtf rfl (st_gtf rfl (st_pick_t rfl rfl rfl (g_end [(1, .int .i64 p2), (5, .list (List.map eB v3) (.own 0 1 1)), (8, .list (bytesOf r19.1) .none), (52, .bool true)] rfl ?_)))))) (fun hw => st_pick_f rfl rfl rfl (st_mv rfl (st_g rfl (st_mv rfl (st_g rfl (g_nei rfl rfl hw (fun hw => st_pick_f rfl rfl rfl (g_end [(1, .int .i64 p2), (5, .list (List.map eB v3) (.own 0 1 1)), (8, .list (bytesOf r19.1) .none), (52, .bool true)] rfl ?_)) (fun hw => st_pick_f rfl rfl rfl (g_end [(1, .int .i64 p2), (5, .list (List.map eB v3) (.own 0 1 1)), (8, .list (bytesOf r19.1) .none), (52, .bool false)] rfl ?_)))))))))))))))))
    · refine sq_n ?_
      refine s_cond_t rfl ?_
      refine sc_seq ?_
      refine s_reg (st_mv rfl (g_end [(4, .bool false)] rfl ?_))
      refine sq_n ?_
      refine sc_ret ?_
      refine sq_r ?_
      exact g_ret (.inr rfl) rfl false hw rfl
    · refine sq_n ?_
      refine s_cond_t rfl ?_
      refine sc_seq ?_
      refine s_reg (st_mv rfl (g_end [(4, .bool false)] rfl ?_))
      refine sq_n ?_
      refine sc_ret ?_
      refine sq_r ?_
      exact g_ret (.inr rfl) rfl false hw rfl
    · refine sq_n ?_
      refine s_cond_t rfl ?_
      refine sc_seq ?_
      refine s_reg (st_mv rfl (g_end [(4, .bool false)] rfl ?_))
      refine sq_n ?_
      refine sc_ret ?_
      refine sq_r ?_
      exact g_ret (.inr rfl) rfl false hw rfl
    · refine sq_n ?_
      refine s_cond_f rfl ?_
      refine sc_skip ?_
      refine sq_n ?_
      refine sc_seq ?_
      refine s_reg (st_mv rfl (st_mv rfl (st_mv rfl (g_len rfl (g_add rfl rfl hw fun v21 hw => g_call (ev_cons rfl (ev_cons rfl ev_nil)) rfl hw fun r22 hw => g_slice enc_byte rfl bnd_none (bnd_some rfl) hw fun v23 hw => st_mv rfl (g_end [(5, .list (List.map eB v3) (.own 0 1 1)), (8, .list (bytesOf v23) .none)] rfl ?_))))))
      refine sq_n ?_
      refine sc_seq ?_
      refine s_reg (st_mv rfl (g_call (ev_cons rfl ev_nil) rfl hw fun r24 hw => st_mv rfl (st_extract rfl rfl (st_extract rfl rfl (st_mv rfl (st_mv rfl (g_end [(5, .list (List.map eB v3) (.own 0 1 1)), (8, .list (bytesOf v23) .none), (12, .list (List.map eB r24.1) .none), (13, .int .i64 r24.2)] rfl ?_)))))))
      refine sq_n ?_
      refine sc_seq ?_
      refine s_reg (st_mv rfl (g_end [(5, .list (List.map eB v3) (.own 0 1 1)), (8, .list (bytesOf v23) .none), (12, .list (List.map eB r24.1) .none), (13, .int .i64 r24.2), (14, .int .i64 0)] rfl ?_))
      refine sq_n ?_
      refine sc_seq ?_
      refine sc_seq ?_
      refine s_reg (st_mv rfl (g_len rfl (st_mv rfl (g_end [(5, .list (List.map eB v3) (.own 0 1 1)), (8, .list (bytesOf v23) .none), (12, .list (List.map eB r24.1) .none), (13, .int .i64 r24.2), (14, .int .i64 0), (65, .list (List.map eB r24.1) .none), (66, .int .i64 (r24.1.length : Int)), (67, .int .i64 0)] rfl ?_))))
      refine sq_n ?_
      refine sc_block ?_
      obtain ⟨I33, M34, hi, hw⟩ := hw
      refine sc_loop (X := { x : Int × Int // I33 x.1 x.2 }) (fun x => ([(5, .list (List.map eB v3) (.own 0 1 1)), (8, .list (bytesOf v23) .none), (12, .list (List.map eB r24.1) .none), (13, .int .i64 r24.2), (14, .int .i64 x.1.1), (65, .list (List.map eB r24.1) .none), (66, .int .i64 (r24.1.length : Int)), (67, .int .i64 x.1.2)], [.tok (1 + v3.length)])) (fun x => M34 x.1.1 x.1.2) ⟨(0, 0), hi⟩ (WeakF.of (Weak.sub (sub_cons rfl (.inl rfl) (sub_cons rfl (.inl rfl) (sub_cons rfl (.inl rfl) (sub_cons rfl (.inl rfl) (sub_cons rfl (.inl rfl) (sub_cons rfl (.inl rfl) (sub_cons rfl (.inl rfl) (sub_cons rfl (.inl rfl) sub_nil)))))))))) ?_
      rintro ⟨⟨v25, v26⟩, hi2⟩
      have hw := hw v25 v26 hi2
      clear hi
      refine sc_seq ?_
      refine s_reg (gb_cmp rfl rfl trivial rfl hw fun v35 hw => g_end [(5, .list (List.map eB v3) (.own 0 1 1)), (8, .list (bytesOf v23) .none), (12, .list (List.map eB r24.1) .none), (13, .int .i64 r24.2), (14, .int .i64 v25), (65, .list (List.map eB r24.1) .none), (66, .int .i64 (r24.1.length : Int)), (67, .int .i64 v26), (68, .bool v35)] rfl ?_)
      refine sq_n ?_
      refine sc_seq ?_
      refine s_cond rfl hw (fun hw => ?_) (fun hw => ?_)
      · refine sc_skip ?_
        refine sq_n ?_
        refine sc_seq ?_
        refine sc_block ?_
        refine sc_seq ?_
        refine s_reg (st_mv rfl (g_iaddr enc_bytes rfl rfl hw fun a36 hw => st_load_r (v := .list (bytesOf a36) .none) rfl rfl (st_mv rfl (st_mv rfl (g_end [(5, .list (List.map eB v3) (.own 0 1 1)), (8, .list (bytesOf v23) .none), (12, .list (List.map eB r24.1) .none), (13, .int .i64 r24.2), (14, .int .i64 v25), (15, .int .i64 v26), (16, .list (bytesOf a36) .none), (65, .list (List.map eB r24.1) .none), (66, .int .i64 (r24.1.length : Int)), (67, .int .i64 v26)] rfl ?_)))))
        refine sq_n ?_
        refine sc_seq ?_
        refine sc_seq ?_
        refine s_dreg Try.mixed rfl (st_mv rfl (st_mv rfl (g_len rfl (g_geq rfl rfl hw (fun hw => st_mv rfl (st_gtf rfl (st_gtf rfl (st_gtf rfl (st_gtf rfl (st_gtf rfl (st_gtf rfl (st_gtf rfl (st_gtf rfl (st_pick_t rfl rfl rfl (st_mid (g_end [(5, .list (List.map eB v3) (.own 0 1 1)), (8, .list (bytesOf v23) .none), (12, .list (List.map eB r24.1) .none), (13, .int .i64 r24.2), (14, .int .i64 v25), (16, .list (bytesOf a36) .none), (65, .list (List.map eB r24.1) .none), (66, .int .i64 (r24.1.length : Int)), (67, .int .i64 v26), (85, .bool true)] rfl ?_)))))))))))) (fun hw => st_mv rfl (st_g rfl (st_mv rfl (st_g rfl (st_ofbytes rfl (st_g rfl (st_mv rfl (st_g rfl (st_mv rfl (st_g rfl (g_iaddr enc_bytes rfl rfl hw fun a37 hw => st_g rfl (st_load_r (v := .list (bytesOf a37) .none) rfl rfl (st_g rfl (st_ofbytes rfl (st_g rfl (g_nes rfl rfl hw (fun hw => st_pick_f rfl rfl rfl (st_mid (g_end [(5, .list (List.map eB v3) (.own 0 1 1)), (8, .list (bytesOf v23) .none), (12, .list (List.map eB r24.1) .none), (13, .int .i64 r24.2), (14, .int .i64 v25), (16, .list (bytesOf a36) .none), (65, .list (List.map eB r24.1) .none), (66, .int .i64 (r24.1.length : Int)), (67, .int .i64 v26), (85, .bool true)] rfl ?_))) (fun hw => st_pick_f rfl rfl rfl (st_mid (g_end [(5, .list (List.map eB v3) (.own 0 1 1)), (8, .list (bytesOf v23) .none), (12, .list (List.map eB r24.1) .none), (13, .int .i64 r24.2), (14, .int .i64 v25), (16, .list (bytesOf a36) .none), (65, .list (List.map eB r24.1) .none), (66, .int .i64 (r24.1.length : Int)), (67, .int .i64 v26), (85, .bool false)] rfl ?_)))))))))))))))))))))))
        · refine sq_n ?_
          refine s_cond_t rfl ?_
          refine sc_seq ?_
          refine s_reg (st_mv rfl (g_end [(4, .bool false)] rfl ?_))
          refine sq_n ?_
          refine sc_ret ?_
          refine sq_r ?_
          refine bl_r ?_
          refine sq_r ?_
          refine lo_r ?_
          refine bl_r ?_
          refine sq_r ?_
          exact g_ret (.inr rfl) rfl false hw rfl
        · refine sq_n ?_
          refine s_cond_t rfl ?_
          refine sc_seq ?_
          refine s_reg (st_mv rfl (g_end [(4, .bool false)] rfl ?_))
          refine sq_n ?_
          refine sc_ret ?_
          refine sq_r ?_
          refine bl_r ?_
          refine sq_r ?_
          refine lo_r ?_
          refine bl_r ?_
          refine sq_r ?_
          exact g_ret (.inr rfl) rfl false hw rfl
        · refine sq_n ?_
          refine s_cond_f rfl ?_
          refine sc_skip ?_
          refine sq_n ?_
          refine s_reg (st_mv rfl (st_mv rfl (g_len rfl (g_add rfl rfl hw fun v38 hw => g_add rfl rfl hw fun v39 hw => st_mv rfl (g_end [(5, .list (List.map eB v3) (.own 0 1 1)), (8, .list (bytesOf v23) .none), (12, .list (List.map eB r24.1) .none), (13, .int .i64 r24.2), (14, .int .i64 v39), (65, .list (List.map eB r24.1) .none), (66, .int .i64 (r24.1.length : Int)), (67, .int .i64 v26)] rfl ?_)))))
          refine bl_n ?_
          refine sq_n ?_
          refine s_reg (g_add rfl rfl hw fun v40 hw => st_mv rfl (g_end [(5, .list (List.map eB v3) (.own 0 1 1)), (8, .list (bytesOf v23) .none), (12, .list (List.map eB r24.1) .none), (13, .int .i64 r24.2), (14, .int .i64 v39), (65, .list (List.map eB r24.1) .none), (66, .int .i64 (r24.1.length : Int)), (67, .int .i64 v40)] rfl ?_))
          exact lo_n ⟨(v39, v40), hw.1⟩ hw.2 (WeakF.of (Weak.sub (sub_cons rfl (.inl rfl) (sub_cons rfl (.inl rfl) (sub_cons rfl (.inl rfl) (sub_cons rfl (.inl rfl) (sub_cons rfl (.inl rfl) (sub_cons rfl (.inl rfl) (sub_cons rfl (.inl rfl) (sub_cons rfl (.inl rfl) sub_nil))))))))))
      · refine sc_exit ?_
        refine sq_x ?_
        refine lo_x ?_
        refine bl_x ?_
        refine sq_n ?_
        refine sc_seq ?_
        refine s_reg (st_mv rfl (st_mv rfl (g_eqi rfl rfl hw (fun hw => st_mv rfl (st_g rfl (st_mv rfl (st_g rfl (st_mv rfl (st_g rfl (g_len rfl (st_g rfl (g_leq rfl rfl hw (fun hw => st_pick_t rfl rfl rfl (st_mv rfl (st_g rfl (st_mv rfl (st_g rfl (g_len rfl (st_g rfl (st_mv rfl (st_g rfl (g_len rfl (st_g rfl (g_eqi rfl rfl hw (fun hw => st_g rfl (st_mv rfl (st_gtf rfl (st_gtf rfl (st_gtf rfl (st_gtf rfl (st_gtf rfl (st_gtf rfl (st_gtf rfl (st_gtf rfl (st_gtf rfl (st_gtf rfl (st_gtf rfl (st_gtf rfl (st_g rfl (st_pick_t rfl rfl rfl (st_pick_t rfl rfl rfl (st_mv rfl (g_end [(4, .bool true)] rfl ?_))))))))))))))))))) (fun hw => st_g rfl (st_mv rfl (st_g rfl (st_mv rfl (st_g rfl (g_add rfl rfl hw fun v41 hw => st_g rfl (st_mv rfl (st_g rfl (st_mv rfl (st_g rfl (g_len rfl (st_g rfl (g_iaddr enc_bytes rfl rfl hw fun a42 hw => st_g rfl (st_load_r (v := .list (bytesOf a42) .none) rfl rfl (st_g rfl (g_len rfl (st_g rfl (g_add rfl rfl hw fun v43 hw => st_g rfl (st_mv rfl (st_g rfl (g_len rfl (st_g rfl (gb_cmp rfl rfl trivial rfl hw fun v44 hw => st_g rfl (st_pick_f rfl rfl rfl (st_pick_t rfl rfl rfl (st_mv rfl (g_end [(4, .bool v44)] rfl ?_))))))))))))))))))))))))))))))))))))))) (fun hw => st_pick_t rfl rfl rfl (st_mv rfl (st_gft rfl (st_gft rfl (st_gft rfl (st_gft rfl (st_gft rfl (st_gft rfl (st_gu rfl (st_gu rfl (st_gu rfl (st_gu rfl (st_gu rfl (st_gu rfl (st_gu rfl (st_gu rfl (st_gu rfl (st_gu rfl (st_gu rfl (st_gu rfl (st_gft rfl (st_pick_f rfl rfl rfl (st_mv rfl (g_end [(4, .bool false)] rfl ?_))))))))))))))))))))))))))))))))) (fun hw => st_mv rfl (st_gft rfl (st_gft rfl (st_gft rfl (st_gft rfl (st_pick_f rfl rfl rfl (st_mv rfl (st_gft rfl (st_gft rfl (st_gft rfl (st_gft rfl (st_gft rfl (st_gft rfl (st_gu rfl (st_gu rfl (st_gu rfl (st_gu rfl (st_gu rfl (st_gu rfl (st_gu rfl (st_gu rfl (st_gu rfl (st_gu rfl (st_gu rfl (st_gu rfl (st_gft rfl (st_pick_f rfl rfl rfl (st_mv rfl (g_end [(4, .bool false)] rfl ?_))))))))))))))))))))))))))))))))
        · refine sq_n ?_
          refine sc_ret ?_
          exact g_ret (.inr rfl) rfl true hw rfl
        · refine sq_n ?_
          refine sc_ret ?_
          exact g_ret (.inr rfl) rfl v44 hw rfl
        · refine sq_n ?_
          refine sc_ret ?_
          exact g_ret (.inr rfl) rfl false hw rfl
        · refine sq_n ?_
          refine sc_ret ?_
          exact g_ret (.inr rfl) rfl false hw rfl

end G3
end Go.Hw
