import Derived.Test.YtonoaimefgodfaaHwMoM
set_option linter.unusedVariables false
set_option linter.unusedSimpArgs false
namespace Go.Hw.VM
open Go Go.Proofs

def I0 (w nid mid K m : Nat) (a b c : Nat → Nat) : Ids := ⟨w, nid, mid, K, m, a, b, c, fun _ => 0, fun _ => 0, fun _ => 0⟩
abbrev z4 : List HV := [.list [] .none, .list [] .none, .list [] .none, .list [] .none]
def nodC (I : Ids) (k i : Nat) : List HV := if i < k then nodeC I (fun _ => RW.nil) i else z4
theorem nodC_len (I : Ids) (k i : Nat) : (nodC I k i).length = 4 := by
  unfold nodC
  split <;> rfl
theorem nodC_next {w nid mid K m k v0 v1 v2 : Nat} {a b c : Nat → Nat} : fupd (nodC (I0 w nid mid K m a b c) k) k (putAt (nodC (I0 w nid mid K m a b c) k k) 0 [.arr v0 0 m 1, .arr v1 0 m 2, .arr v2 0 m 1, .list [] .full]) = nodC (I0 w nid mid K m (fupd a k v0) (fupd b k v1) (fupd c k v2)) (k + 1) := by
  funext i
  by_cases h : i = k
  · subst h
    rw [fupd_eq]
    simp only [nodC, Nat.lt_irrefl, if_false, Nat.lt_succ_self, if_true, nodeC, I0, fupd_eq]
    rfl
  · rw [fupd_ne h]
    have : (i < k + 1) ↔ i < k := by omega
    simp only [nodC, this, nodeC, I0, fupd_ne h]
def LA (wh : Nat → Nat) (I : Ids) (k : Nat) : Lay := (I.w, netO I) :: (I.mid, (GM.nil : GM Key (RW It)).obj eKey (RW.hv (eIt fun _ => 0))) :: (I.nid, .cells ((List.range I.K).flatMap (nodC I k))) :: ((List.range k).flatMap (nodeL I (ct0 wh 0)) ++ [(0, told0)])
def t33a : C := (.seq (.seq (.reg [mo 37 8, oo 38 (.nilck 37), oo 39 (.faddr 0 1 38), oo 40 (.load none 39), oo 41 (.len false 40), oo 42 (.mv (.c (.int .i64 0)))] [0, 1, 2, 6, 8, 41, 42]) (.block 0 (.loop (.seq (.reg [oo 43 (.bin .lss 42 41)] [0, 1, 2, 6, 8, 41, 42, 43]) (.seq (.cond 43 .skip (.exit 0)) (.seq (.block 1 (.seq (.reg [mo 44 42, mo 9 44] [0, 1, 2, 6, 8, 9, 41, 42]) (.dreg [mo 45 8, oo 46 (.nilck 45), oo 47 (.faddr 0 1 46), oo 48 (.load none 47), mo 49 9, mo 50 1, oo 51 (.len false 50), oo 52 (.mkslice (some 0) 1 8 [.nilptr] 51 51), mo 53 1, oo 54 (.len false 53), oo 55 (.mkslice (some 1) 2 16 [(.int .i64 0), (.int .i64 0)] 54 54), mo 56 1, oo 57 (.len false 56), oo 58 (.mkslice (some 2) 1 8 [(.int .i64 0)] 57 57), oo 59 (.build [(.list [] .full), (.list [] .full), (.list [] .full), (.list [] .full)] [(0, 1, 52), (1, 1, 55), (2, 1, 58)]), oo 60 (.iaddr 4 48 49), os (.store 4 60 59)] [] 3 [0, 1, 2, 6, 8, 41, 42]))) (.reg [oo 61 (.bin .add 42 (.c (.int .i64 1))), mo 42 61] [0, 1, 2, 6, 8, 41, 42]))))))) (.seq (.seq (.reg [mo 62 1, oo 63 (.len false 62), oo 64 (.mv (.c (.int .i64 0)))] [0, 1, 2, 6, 8, 62, 63, 64]) (.block 2 (.loop (.seq (.reg [oo 65 (.bin .lss 64 63)] [0, 1, 2, 6, 8, 62, 63, 64, 65]) (.seq (.cond 65 .skip (.exit 2)) (.seq (.block 3 (.seq (.reg [mo 66 64, oo 67 (.iaddr 1 62 64), oo 68 (.load none 67), mo 10 66, mo 11 68] [0, 1, 2, 6, 8, 10, 11, 62, 63, 64]) (.seq (.seq (.reg [mo 69 11, oo 70 (.bin .lss 69 (.c (.int .i64 1))), mo 71 70, og 72 (.mv 11) 71 false, og 73 (.mv 0) 71 false, og 74 (.bin .gtr 72 73) 71 false, oo 75 (.pick 71 (.c (.bool true)) 74)] [0, 1, 2, 6, 8, 10, 11, 62, 63, 64, 75]) (.cond 75 (.seq (.reg [oo 76 (.build [(.list [] .full), (.list [] .full), (.int .i64 0), (.int .i64 0)] []), os (.store 4 6 76), oo 7 (.mv (.c (.int .i64 1)))] [6, 7]) .ret) .skip)) (.seq (.seq (.reg [mo 77 8, oo 78 (.nilck 77), oo 79 (.faddr 0 1 78), oo 80 (.load none 79), oo 81 (.len false 80), oo 82 (.mv (.c (.int .i64 0)))] [0, 1, 2, 6, 8, 10, 11, 62, 63, 64, 81, 82]) (.block 4 (.loop (.seq (.reg [oo 83 (.bin .lss 82 81)] [0, 1, 2, 6, 8, 10, 11, 62, 63, 64, 81, 82, 83]) (.seq (.cond 83 .skip (.exit 4)) (.seq (.block 5 (.seq (.reg [mo 84 82, mo 12 84] [0, 1, 2, 6, 8, 10, 11, 12, 62, 63, 64, 81, 82]) (.reg [mo 85 8, oo 86 (.nilck 85), oo 87 (.faddr 0 1 86), oo 88 (.load none 87), mo 89 12, oo 90 (.iaddr 4 88 89), oo 91 (.faddr 1 1 90), oo 92 (.load none 91), mo 93 10, mo 94 11, oo 95 (.build [(.int .i64 0), (.int .i64 0)] [(0, 1, 94)]), oo 96 (.iaddr 2 92 93), os (.store 2 96 95)] [0, 1, 2, 6, 8, 10, 11, 62, 63, 64, 81, 82]))) (.reg [oo 97 (.bin .add 82 (.c (.int .i64 1))), mo 82 97] [0, 1, 2, 6, 8, 10, 11, 62, 63, 64, 81, 82]))))))) (.dreg [mo 98 8, oo 99 (.nilck 98), oo 100 (.faddr 0 1 99), oo 101 (.load none 100), mo 102 11, oo 103 (.iaddr 4 101 102), oo 104 (.faddr 0 1 103), oo 105 (.load none 104), mo 106 10, mo 107 0, oo 108 (.bin .add 107 (.c (.int .i64 1))), oo 109 (.mkslice (some 0) 1 8 [(.int .i64 0)] 108 108), oo 110 (.mkmap (some 1)), oo 111 (.build [(.list [] .full), (.list [] .full), .nilmap] [(1, 1, 109), (2, 1, 110)]), oo 112 (.box (some 2) 3 111), oo 113 (.iaddr 1 105 106), os (.store 1 113 112)] [] 3 [0, 1, 2, 6, 8, 62, 63, 64]))))) (.reg [oo 114 (.bin .add 64 (.c (.int .i64 1))), mo 64 114] [0, 1, 2, 6, 8, 62, 63, 64]))))))) (.seq (.seq (.reg [mo 115 2, oo 116 (.len false 115), oo 117 (.mv (.c (.int .i64 0)))] [1, 6, 8, 115, 116, 117]) (.block 6 (.loop (.seq (.reg [oo 118 (.bin .lss 117 116)] [1, 6, 8, 115, 116, 117, 118]) (.seq (.cond 118 .skip (.exit 6)) (.seq (.block 7 (.seq (.reg [oo 119 (.iaddr 5 115 117), oo 120 (.load (some 5) 119), oo 14 (.alloc none [(.int .i64 0), (.int .i64 0), (.int .i64 0), (.int .i64 0), (.int .i64 0)]), os (.store 5 14 120)] [1, 6, 8, 14, 115, 116, 117]) (.reg [mo 121 8, oo 122 (.load (some 5) 14), co 123 (.call 57 [121, 122])] [1, 6, 8, 115, 116, 117]))) (.reg [oo 124 (.bin .add 117 (.c (.int .i64 1))), mo 117 124] [1, 6, 8, 115, 116, 117]))))))) (.seq (.reg [mo 125 8, mo 126 1, oo 127 (.len false 126), co 128 (.call 58 [125, 127]), os (.store 4 6 128), oo 7 (.mv (.c (.int .i64 0)))] [6, 7]) .ret))))
theorem run_a {h : Heap} {QQ : Ex → Env → Heap → Prop} {at_ : List Int} {deeds : List GMove_Deed} {wh : Nat → Nat} {n w nid mid K m : Nat} {a0 b0 c0' : Nat → Nat} (hK : K ≤ 9) (hm : at_.length = m) (hm5 : m ≤ 5) (hs : Sep h (LA wh (I0 w nid mid K m a0 b0 c0') 0))
    (kk : ∀ (h' : Heap) (I : Ids), I.K = K → I.m = m → I.w = w → Sep h' (layB I (ct0 wh 0) ++ [(0, told0)]) → SC Try.prog Try.f33.ntmps 0 t33b QQ [(0, ii (n : Int)), (1, ln (eInt .i64) at_), (2, ln eGMove_Deed deeds), (6, .ptr 0 0), (8, .ptr w 0)] h') :
    SC Try.prog Try.f33.ntmps 0 t33a QQ [(0, ii (n : Int)), (1, ln (eInt .i64) at_), (2, ln eGMove_Deed deeds), (6, .ptr 0 0), (8, .ptr w 0)] h := by
  unfold t33a
  have gw : h[w]? = some (netO (I0 w nid mid K m a0 b0 c0')) := hs.get (by simp [LA, I0])
  refine sc_seq (q_reg ?_)
  repeat (first | refine a_op (fun _ => rfl) ?_ | refine a_load rfl (by assumption) rfl ?_ | refine a_load_at rfl (by assumption) (by assumption) ?_ | refine a_iaddr_at rfl rfl (by assumption) ?_ | refine a_iaddr_l rfl rfl (by assumption) rfl ?_ | refine st_load_r rfl rfl ?_ | refine a_cmp rfl rfl rfl ?_ | refine a_eqi rfl rfl ?_ | refine st_not rfl ?_ | refine st_pick_t rfl rfl rfl ?_ | refine st_pick_f rfl rfl rfl ?_ | refine st_g rfl ?_ | refine a_gtf rfl ?_ | refine a_gft rfl ?_ | refine a_gu rfl ?_ | refine a_mklist (ec rfl en) (mz mkn) ?_ | refine a_mid ?_)
  first | refine a_endq (by repeat (first | exact pr_nil | (apply pr_cons; rfl))) ?_ | refine a_end (by repeat (first | exact pr_nil | (apply pr_cons; rfl))) ?_
  refine sc_block (sc_loop (X := { y : Nat × (Nat → Nat) × (Nat → Nat) × (Nat → Nat) × Heap // y.1 ≤ K ∧ Sep y.2.2.2.2 (LA wh (I0 w nid mid K m y.2.1 y.2.2.1 y.2.2.2.1) y.1) })
      (fun y => ([(0, ii (n : Int)), (1, ln (eInt .i64) at_), (2, ln eGMove_Deed deeds), (6, .ptr 0 0), (8, .ptr w 0), (41, ii K), (42, ii y.1.1)], y.1.2.2.2.2)) (fun y => K - y.1.1)
      ⟨(0, a0, b0, c0', h), Nat.zero_le _, hs⟩ (WeakF.refl _ _) ?_)
  rintro ⟨⟨k, a, b, c, h1⟩, hk, s1⟩
  simp only at hk s1
  refine q_reg ?_
  repeat (first | refine a_op (fun _ => rfl) ?_ | refine a_load rfl (by assumption) rfl ?_ | refine a_load_at rfl (by assumption) (by assumption) ?_ | refine a_iaddr_at rfl rfl (by assumption) ?_ | refine a_iaddr_l rfl rfl (by assumption) rfl ?_ | refine st_load_r rfl rfl ?_ | refine a_cmp rfl rfl rfl ?_ | refine a_eqi rfl rfl ?_ | refine st_not rfl ?_ | refine st_pick_t rfl rfl rfl ?_ | refine st_pick_f rfl rfl rfl ?_ | refine st_g rfl ?_ | refine a_gtf rfl ?_ | refine a_gft rfl ?_ | refine a_gu rfl ?_ | refine a_mklist (ec rfl en) (mz mkn) ?_ | refine a_mid ?_)
  first | refine a_endq (by repeat (first | exact pr_nil | (apply pr_cons; rfl))) ?_ | refine a_end (by repeat (first | exact pr_nil | (apply pr_cons; rfl))) ?_
  refine sc_seq (sc_cond rfl (fun hz => ?_) (fun hz => ?_))
  · have hkl : k < K := by have := of_decide_eq_true hz; dsimp only at this; omega
    refine sc_skip (sq_n (sc_seq (sc_block (q_reg ?_))))
    repeat (first | refine a_op (fun _ => rfl) ?_ | refine a_load rfl (by assumption) rfl ?_ | refine a_load_at rfl (by assumption) (by assumption) ?_ | refine a_iaddr_at rfl rfl (by assumption) ?_ | refine a_iaddr_l rfl rfl (by assumption) rfl ?_ | refine st_load_r rfl rfl ?_ | refine a_cmp rfl rfl rfl ?_ | refine a_eqi rfl rfl ?_ | refine st_not rfl ?_ | refine st_pick_t rfl rfl rfl ?_ | refine st_pick_f rfl rfl rfl ?_ | refine st_g rfl ?_ | refine a_gtf rfl ?_ | refine a_gft rfl ?_ | refine a_gu rfl ?_ | refine a_mklist (ec rfl en) (mz mkn) ?_ | refine a_mid ?_)
    first | refine a_endq (by repeat (first | exact pr_nil | (apply pr_cons; rfl))) ?_ | refine a_end (by repeat (first | exact pr_nil | (apply pr_cons; rfl))) ?_
    refine a_dregl Try.mixed ?_
    obtain ⟨I1, hI1⟩ : ∃ I1, I1 = I0 w nid mid K m a b c := ⟨_, rfl⟩
    have q3 : I1.K = K := by rw [hI1]; rfl
    have q4 : I1.m = m := by rw [hI1]; rfl
    rw [← hI1] at s1
    have t1 := ((s1.new .res).new .res).new .res
    have l1 : (h1 ++ [HObj.res]).length = h1.length + 1 := by simp
    have l2 : (h1 ++ [HObj.res] ++ [HObj.res]).length = h1.length + 2 := by simp
    rw [l1, l2] at t1
    have eh : h1 ++ List.replicate 3 HObj.res = h1 ++ [HObj.res] ++ [HObj.res] ++ [HObj.res] := by simp
    change HO _ h1.length _ _ (h1 ++ List.replicate 3 HObj.res) _
    rw [eh]
    generalize h1 ++ [HObj.res] ++ [HObj.res] ++ [HObj.res] = h3 at t1 ⊢
    generalize hv0 : h1.length = v0 at t1 ⊢
    have gw : h3[w]? = some (.cells [.arr nid 0 K 4, .map mid]) := t1.get (by rw [hI1]; simp [LA, I0])
    have elen : (at_.map (eInt .i64)).length = m := by rw [List.length_map, hm]
    repeat (first | refine a_op (fun _ => rfl) ?_ | refine a_load rfl (by assumption) rfl ?_ | refine a_load_at rfl (by assumption) (by assumption) ?_ | refine a_iaddr_at rfl rfl (by assumption) ?_ | refine a_iaddr_l rfl rfl (by assumption) rfl ?_ | refine st_load_r rfl rfl ?_ | refine a_cmp rfl rfl rfl ?_ | refine a_eqi rfl rfl ?_ | refine st_not rfl ?_ | refine st_pick_t rfl rfl rfl ?_ | refine st_pick_f rfl rfl rfl ?_ | refine st_g rfl ?_ | refine a_gtf rfl ?_ | refine a_gft rfl ?_ | refine a_gu rfl ?_ | refine a_mklist (ec rfl en) (mz mkn) ?_ | refine a_mid ?_)
    have g0 : h3[v0]? = some .res := t1.get (by simp)
    refine a_mksl (id := v0) (n := m) rfl g0 (by show some (ii ((at_.map (eInt .i64)).length : Int)) = _; rw [elen]) (by show some (ii ((at_.map (eInt .i64)).length : Int)) = _; rw [elen]) rfl (by omega) ?_
    have t2 := Sep.set (A := [(v0 + 2, .res), (v0 + 1, .res)]) (B := LA wh I1 k) t1 (.cells (List.replicate m [HV.nilptr]).flatten)
    generalize h3.set v0 _ = h4 at t2 ⊢
    repeat (first | refine a_op (fun _ => rfl) ?_ | refine a_load rfl (by assumption) rfl ?_ | refine a_load_at rfl (by assumption) (by assumption) ?_ | refine a_iaddr_at rfl rfl (by assumption) ?_ | refine a_iaddr_l rfl rfl (by assumption) rfl ?_ | refine st_load_r rfl rfl ?_ | refine a_cmp rfl rfl rfl ?_ | refine a_eqi rfl rfl ?_ | refine st_not rfl ?_ | refine st_pick_t rfl rfl rfl ?_ | refine st_pick_f rfl rfl rfl ?_ | refine st_g rfl ?_ | refine a_gtf rfl ?_ | refine a_gft rfl ?_ | refine a_gu rfl ?_ | refine a_mklist (ec rfl en) (mz mkn) ?_ | refine a_mid ?_)
    have g1 : h4[v0 + 1]? = some .res := t2.get (by simp)
    refine a_mksl (id := v0 + 1) (n := m) rfl g1 (by show some (ii ((at_.map (eInt .i64)).length : Int)) = _; rw [elen]) (by show some (ii ((at_.map (eInt .i64)).length : Int)) = _; rw [elen]) rfl (by omega) ?_
    have t3 := Sep.set (A := [(v0 + 2, .res)]) (B := (v0, .cells (List.replicate m [HV.nilptr]).flatten) :: LA wh I1 k) t2 (.cells (List.replicate m [ii 0, ii 0]).flatten)
    change HO _ _ _ _ (h4.set (v0 + 1) (.cells (List.replicate m [ii 0, ii 0]).flatten)) _
    generalize h4.set (v0 + 1) _ = h5 at t3 ⊢
    repeat (first | refine a_op (fun _ => rfl) ?_ | refine a_load rfl (by assumption) rfl ?_ | refine a_load_at rfl (by assumption) (by assumption) ?_ | refine a_iaddr_at rfl rfl (by assumption) ?_ | refine a_iaddr_l rfl rfl (by assumption) rfl ?_ | refine st_load_r rfl rfl ?_ | refine a_cmp rfl rfl rfl ?_ | refine a_eqi rfl rfl ?_ | refine st_not rfl ?_ | refine st_pick_t rfl rfl rfl ?_ | refine st_pick_f rfl rfl rfl ?_ | refine st_g rfl ?_ | refine a_gtf rfl ?_ | refine a_gft rfl ?_ | refine a_gu rfl ?_ | refine a_mklist (ec rfl en) (mz mkn) ?_ | refine a_mid ?_)
    have g2 : h5[v0 + 2]? = some .res := t3.get (by simp)
    refine a_mksl (id := v0 + 2) (n := m) rfl g2 (by show some (ii ((at_.map (eInt .i64)).length : Int)) = _; rw [elen]) (by show some (ii ((at_.map (eInt .i64)).length : Int)) = _; rw [elen]) rfl (by omega) ?_
    have t4 := Sep.set (A := []) (B := (v0 + 1, .cells (List.replicate m [ii 0, ii 0]).flatten) :: (v0, .cells (List.replicate m [HV.nilptr]).flatten) :: LA wh I1 k) t3 (.cells (List.replicate m [ii 0]).flatten)
    change HO _ _ _ _ (h5.set (v0 + 2) (.cells (List.replicate m [ii 0]).flatten)) _
    generalize h5.set (v0 + 2) _ = h6 at t4 ⊢
    simp only [List.nil_append] at t4
    have gn : h6[nid]? = some (.cells ((List.range K).flatMap (nodC I1 k))) := t4.get (by rw [hI1]; simp [LA, I0])
    repeat (first | refine a_op (fun _ => rfl) ?_ | refine a_load rfl (by assumption) rfl ?_ | refine a_load_at rfl (by assumption) (by assumption) ?_ | refine a_iaddr_at rfl rfl (by assumption) ?_ | refine a_iaddr_l rfl rfl (by assumption) rfl ?_ | refine st_load_r rfl rfl ?_ | refine a_cmp rfl rfl rfl ?_ | refine a_eqi rfl rfl ?_ | refine st_not rfl ?_ | refine st_pick_t rfl rfl rfl ?_ | refine st_pick_f rfl rfl rfl ?_ | refine st_g rfl ?_ | refine a_gtf rfl ?_ | refine a_gft rfl ?_ | refine a_gu rfl ?_ | refine a_mklist (ec rfl en) (mz mkn) ?_ | refine a_mid ?_)
    refine a_iaddr_n (i := k) rfl rfl hkl ?_
    refine a_store_fm (i := k) (w := 4) (j := 0) (F := nodC I1 k) rfl rfl gn (nodC_len _ _) hkl (by rfl) (by decide) rfl ?_
    repeat (first | refine a_op (fun _ => rfl) ?_ | refine a_load rfl (by assumption) rfl ?_ | refine a_load_at rfl (by assumption) (by assumption) ?_ | refine a_iaddr_at rfl rfl (by assumption) ?_ | refine a_iaddr_l rfl rfl (by assumption) rfl ?_ | refine st_load_r rfl rfl ?_ | refine a_cmp rfl rfl rfl ?_ | refine a_eqi rfl rfl ?_ | refine st_not rfl ?_ | refine st_pick_t rfl rfl rfl ?_ | refine st_pick_f rfl rfl rfl ?_ | refine st_g rfl ?_ | refine a_gtf rfl ?_ | refine a_gft rfl ?_ | refine a_gu rfl ?_ | refine a_mklist (ec rfl en) (mz mkn) ?_ | refine a_mid ?_)
    first | refine a_endq (by repeat (first | exact pr_nil | (apply pr_cons; rfl))) ?_ | refine a_end (by repeat (first | exact pr_nil | (apply pr_cons; rfl))) ?_
    have e1 : fupd (nodC I1 k) k (putAt (nodC I1 k k) 0 (HV.agg [.arr v0 0 m 1, .arr (v0 + 1) 0 m 2, .arr (v0 + 2) 0 m 1, .list [] .full]).cells) = nodC (I0 w nid mid K m (fupd a k v0) (fupd b k (v0 + 1)) (fupd c k (v0 + 2))) (k + 1) := by
      rw [hI1]; exact nodC_next
    change SC _ _ _ _ _ _ (h6.set nid (.cells ((List.range K).flatMap (fupd (nodC I1 k) k (putAt (nodC I1 k k) 0 (HV.agg [.arr v0 0 m 1, .arr (v0 + 1) 0 m 2, .arr (v0 + 2) 0 m 1, .list [] .full]).cells)))))
    rw [e1]
    obtain ⟨I2, hI2⟩ : ∃ I2, I2 = I0 w nid mid K m (fupd a k v0) (fupd b k (v0 + 1)) (fupd c k (v0 + 2)) := ⟨_, rfl⟩
    rw [← hI2]
    have hnod : (List.range (k + 1)).flatMap (nodeL I2 (ct0 wh 0)) = (List.range k).flatMap (nodeL I1 (ct0 wh 0)) ++ [(v0, .cells (List.replicate m [HV.nilptr]).flatten), (v0 + 1, .cells (List.replicate m [ii 0, ii 0]).flatten), (v0 + 2, .cells (List.replicate m [ii 0]).flatten)] := by
      rw [List.range_succ, List.flatMap_append]
      congr 1
      · refine fm_congr fun i hi => ?_
        have hne : i ≠ k := by have := List.mem_range.1 hi; omega
        rw [hI1, hI2]
        simp only [nodeL, I0, fupd_ne hne]
      · have z1 := hereO_0 I2 wh k
        have z2 := sureO_0 I2 wh k
        have z3 := seqO_0 I2 wh k
        have z4 : I2.m = m := by rw [hI2]; rfl
        rw [z4] at z1 z2 z3
        rw [List.flatMap_cons, List.flatMap_nil, List.append_nil]
        show [(I2.hid k, hereO I2 ((ct0 wh 0).here k)), (I2.sid k, sureO I2 ((ct0 wh 0).sn k) ((ct0 wh 0).st k)), (I2.qid k, seqO I2 ((ct0 wh 0).sq k))] ++ [] = _
        rw [z1, z2, z3, List.append_nil, hI2]
        simp only [I0, fupd_eq]
    have t5 : Sep (h6.set nid (.cells ((List.range K).flatMap (nodC I2 (k + 1))))) (LA wh I2 (k + 1)) := by
      refine t4.upd (M := (v0 + 2, .cells (List.replicate m [ii 0]).flatten) :: (v0 + 1, .cells (List.replicate m [ii 0, ii 0]).flatten) :: (v0, .cells (List.replicate m [HV.nilptr]).flatten) :: (w, .cells [.arr nid 0 K 4, .map mid]) ::
        (mid, (GM.nil : GM Key (RW It)).obj eKey (RW.hv (eIt fun _ => 0))) :: ((List.range k).flatMap (nodeL I1 (ct0 wh 0)) ++ [(0, told0)])) (i := nid) (o := .cells ((List.range K).flatMap (nodC I1 k))) (perm_c fun c e ca cc c0 cp => ?_) (perm_c fun c e ca cc c0 cp => ?_)
      · have : LA wh I1 k = (w, .cells [.arr nid 0 K 4, .map mid]) :: (mid, (GM.nil : GM Key (RW It)).obj eKey (RW.hv (eIt fun _ => 0))) :: (nid, .cells ((List.range K).flatMap (nodC I1 k))) :: ((List.range k).flatMap (nodeL I1 (ct0 wh 0)) ++ [(0, told0)]) := by rw [hI1]; rfl
        simp only [this, ca, cc, c0]
        omega
      · have : LA wh I2 (k + 1) = (w, .cells [.arr nid 0 K 4, .map mid]) :: (mid, (GM.nil : GM Key (RW It)).obj eKey (RW.hv (eIt fun _ => 0))) :: (nid, .cells ((List.range K).flatMap (nodC I2 (k + 1)))) :: ((List.range (k + 1)).flatMap (nodeL I2 (ct0 wh 0)) ++ [(0, told0)]) := by rw [hI2]; rfl
        simp only [this, hnod, ca, cc, c0]
        omega
    rw [hI2] at t5 ⊢
    refine s_reg ?_
    repeat (first | refine a_op (fun _ => rfl) ?_ | refine a_load rfl (by assumption) rfl ?_ | refine a_load_at rfl (by assumption) (by assumption) ?_ | refine a_iaddr_at rfl rfl (by assumption) ?_ | refine a_iaddr_l rfl rfl (by assumption) rfl ?_ | refine st_load_r rfl rfl ?_ | refine a_cmp rfl rfl rfl ?_ | refine a_eqi rfl rfl ?_ | refine st_not rfl ?_ | refine st_pick_t rfl rfl rfl ?_ | refine st_pick_f rfl rfl rfl ?_ | refine st_g rfl ?_ | refine a_gtf rfl ?_ | refine a_gft rfl ?_ | refine a_gu rfl ?_ | refine a_mklist (ec rfl en) (mz mkn) ?_ | refine a_mid ?_)
    refine a_add rfl rfl (by first | omega | (dsimp only; omega)) ?_
    repeat (first | refine a_op (fun _ => rfl) ?_ | refine a_load rfl (by assumption) rfl ?_ | refine a_load_at rfl (by assumption) (by assumption) ?_ | refine a_iaddr_at rfl rfl (by assumption) ?_ | refine a_iaddr_l rfl rfl (by assumption) rfl ?_ | refine st_load_r rfl rfl ?_ | refine a_cmp rfl rfl rfl ?_ | refine a_eqi rfl rfl ?_ | refine st_not rfl ?_ | refine st_pick_t rfl rfl rfl ?_ | refine st_pick_f rfl rfl rfl ?_ | refine st_g rfl ?_ | refine a_gtf rfl ?_ | refine a_gft rfl ?_ | refine a_gu rfl ?_ | refine a_mklist (ec rfl en) (mz mkn) ?_ | refine a_mid ?_)
    first | refine a_endq (by repeat (first | exact pr_nil | (apply pr_cons; rfl))) ?_ | refine a_end (by repeat (first | exact pr_nil | (apply pr_cons; rfl))) ?_
    refine lo_n ⟨(k + 1, fupd a k v0, fupd b k (v0 + 1), fupd c k (v0 + 2), _), hkl, t5⟩ (by show K - (k + 1) < K - k; omega) (WeakF.refl _ _)
  · have hkl : ¬ k < K := by have := of_decide_eq_false hz; dsimp only at this; omega
    have hkK : k = K := by omega
    subst hkK
    refine sc_exit (sq_x (lo_x (bl_x (sq_n (SC.weak ws (kk h1 (I0 w nid mid k m a b c) rfl rfl rfl ?_))))))
    have e1 : (List.range k).flatMap (nodC (I0 w nid mid k m a b c) k) = (List.range k).flatMap (nodeC (I0 w nid mid k m a b c) fun _ => RW.nil) := fm_congr fun i hi => if_pos (List.mem_range.1 hi)
    have e2 : LA wh (I0 w nid mid k m a b c) k = layB (I0 w nid mid k m a b c) (ct0 wh 0) ++ [(0, told0)] := by
      unfold LA
      show _ :: _ :: (_, HObj.cells ((List.range k).flatMap (nodC (I0 w nid mid k m a b c) k))) :: _ = _
      rw [e1]
      rfl
    rw [← e2]
    exact s1
set_option maxRecDepth 8000 in
theorem r33 {n : Nat} {at_ : List Int} {deeds : List GMove_Deed} {wh : Nat → Nat} {pl : Nat → Nat} (h1 : 1 ≤ n) (h8 : n ≤ 8) (hm5 : at_.length ≤ 5) (hwh : ∀ w, w < at_.length → at_[w]? = some (wh w : Int) ∧ 1 ≤ wh w ∧ wh w < n + 1) (hd : deeds.length ≤ 400) (hok : ∀ d ∈ deeds, DdOk (n + 1) at_.length d)
    (hgood : ∀ k ≤ deeds.length, GoodM (runN (n + 1) (ct0 wh at_.length).abs (deeds.take k))) (hP : Pl (n + 1) at_.length (runN (n + 1) (ct0 wh at_.length).abs deeds) pl) : sp33 (n : Int) at_ deeds (toldF (runN (n + 1) (ct0 wh at_.length).abs deeds) (n + 1) at_.length pl, 0) := by
  refine zf (rs := [.c 6 (some 4), .t 7]) (g := zg33) Try.func33 hk33 ?_
  show SC Try.prog Try.f33.ntmps 0 hc33 _ [(0, ii (n : Int)), (1, ln (eInt .i64) at_), (2, ln eGMove_Deed deeds)] []
  unfold hc33
  refine q_reg (a_alloc ?_)
  repeat (first | refine a_op (fun _ => rfl) ?_ | refine a_load rfl (by assumption) rfl ?_ | refine a_load_at rfl (by assumption) (by assumption) ?_ | refine a_iaddr_at rfl rfl (by assumption) ?_ | refine a_iaddr_l rfl rfl (by assumption) rfl ?_ | refine st_load_r rfl rfl ?_ | refine a_cmp rfl rfl rfl ?_ | refine a_eqi rfl rfl ?_ | refine st_not rfl ?_ | refine st_pick_t rfl rfl rfl ?_ | refine st_pick_f rfl rfl rfl ?_ | refine st_g rfl ?_ | refine a_gtf rfl ?_ | refine a_gft rfl ?_ | refine a_gu rfl ?_ | refine a_mklist (ec rfl en) (mz mkn) ?_ | refine a_mid ?_)
  first | refine a_endq (by repeat (first | exact pr_nil | (apply pr_cons; rfl))) ?_ | refine a_end (by repeat (first | exact pr_nil | (apply pr_cons; rfl))) ?_
  have s0 : Sep ([] ++ [told0]) [(0, told0)] := (Sep.nil (h := [])).new told0
  change SC _ _ _ _ _ [(0, ii (n : Int)), (1, ln (eInt .i64) at_), (2, ln eGMove_Deed deeds), (6, .ptr 0 0)] ([] ++ [told0])
  generalize [] ++ [told0] = g0 at s0 ⊢
  refine sc_seq (q_reg ?_)
  refine a_op (fun _ => rfl) (st_lss rfl rfl (fun hx => by omega) (fun _ => ?_))
  refine a_op (fun _ => rfl) (st_g rfl (a_op (fun _ => rfl) (st_g rfl (st_gtr rfl rfl (fun hx => by omega) (fun _ => ?_)))))
  repeat (first | refine a_op (fun _ => rfl) ?_ | refine a_load rfl (by assumption) rfl ?_ | refine a_load_at rfl (by assumption) (by assumption) ?_ | refine a_iaddr_at rfl rfl (by assumption) ?_ | refine a_iaddr_l rfl rfl (by assumption) rfl ?_ | refine st_load_r rfl rfl ?_ | refine a_cmp rfl rfl rfl ?_ | refine a_eqi rfl rfl ?_ | refine st_not rfl ?_ | refine st_pick_t rfl rfl rfl ?_ | refine st_pick_f rfl rfl rfl ?_ | refine st_g rfl ?_ | refine a_gtf rfl ?_ | refine a_gft rfl ?_ | refine a_gu rfl ?_ | refine a_mklist (ec rfl en) (mz mkn) ?_ | refine a_mid ?_)
  first | refine a_endq (by repeat (first | exact pr_nil | (apply pr_cons; rfl))) ?_ | refine a_end (by repeat (first | exact pr_nil | (apply pr_cons; rfl))) ?_
  refine s_cond_f rfl (sc_skip (sq_n (sc_seq (q_reg ?_))))
  refine a_op (fun _ => rfl) (a_op (fun _ => rfl) (st_gtr rfl rfl (fun hc => ?_) (fun _ => ?_)))
  · rw [List.length_map] at hc; omega
  refine a_op (fun _ => rfl) (st_g rfl (a_op (fun _ => rfl) (st_g rfl (a_op (fun _ => rfl) (st_g rfl (st_gtr rfl rfl (fun hc => ?_) (fun _ => ?_)))))))
  · rw [List.length_map] at hc; omega
  repeat (first | refine a_op (fun _ => rfl) ?_ | refine a_load rfl (by assumption) rfl ?_ | refine a_load_at rfl (by assumption) (by assumption) ?_ | refine a_iaddr_at rfl rfl (by assumption) ?_ | refine a_iaddr_l rfl rfl (by assumption) rfl ?_ | refine st_load_r rfl rfl ?_ | refine a_cmp rfl rfl rfl ?_ | refine a_eqi rfl rfl ?_ | refine st_not rfl ?_ | refine st_pick_t rfl rfl rfl ?_ | refine st_pick_f rfl rfl rfl ?_ | refine st_g rfl ?_ | refine a_gtf rfl ?_ | refine a_gft rfl ?_ | refine a_gu rfl ?_ | refine a_mklist (ec rfl en) (mz mkn) ?_ | refine a_mid ?_)
  first | refine a_endq (by repeat (first | exact pr_nil | (apply pr_cons; rfl))) ?_ | refine a_end (by repeat (first | exact pr_nil | (apply pr_cons; rfl))) ?_
  refine s_cond_f rfl (sc_skip (sq_n (q_reg ?_)))
  repeat (first | refine a_op (fun _ => rfl) ?_ | refine a_load rfl (by assumption) rfl ?_ | refine a_load_at rfl (by assumption) (by assumption) ?_ | refine a_iaddr_at rfl rfl (by assumption) ?_ | refine a_iaddr_l rfl rfl (by assumption) rfl ?_ | refine st_load_r rfl rfl ?_ | refine a_cmp rfl rfl rfl ?_ | refine a_eqi rfl rfl ?_ | refine st_not rfl ?_ | refine st_pick_t rfl rfl rfl ?_ | refine st_pick_f rfl rfl rfl ?_ | refine st_g rfl ?_ | refine a_gtf rfl ?_ | refine a_gft rfl ?_ | refine a_gu rfl ?_ | refine a_mklist (ec rfl en) (mz mkn) ?_ | refine a_mid ?_)
  refine a_add rfl rfl (by omega) ?_
  refine a_mksln (n := n + 1) rfl rfl rfl (by omega) ?_
  have s1 := s0.new (.cells (List.replicate (n + 1) z4).flatten)
  change HO _ _ _ _ (g0 ++ [.cells (List.replicate (n + 1) z4).flatten]) _
  generalize g0.length = nid at s1 ⊢
  generalize g0 ++ [.cells (List.replicate (n + 1) z4).flatten] = g1 at s1 ⊢
  refine g_mkmap (fk := eKey) (fv := RW.hv (eIt fun _ => 0)) (n := g1.length) rfl rfl ?_
  have s2 := s1.new ((GM.nil : GM Key (RW It)).obj eKey (RW.hv (eIt fun _ => 0)))
  generalize g1.length = mid at s2 ⊢
  generalize g1 ++ [(GM.nil : GM Key (RW It)).obj eKey (RW.hv (eIt fun _ => 0))] = g2 at s2 ⊢
  repeat (first | refine a_op (fun _ => rfl) ?_ | refine a_load rfl (by assumption) rfl ?_ | refine a_load_at rfl (by assumption) (by assumption) ?_ | refine a_iaddr_at rfl rfl (by assumption) ?_ | refine a_iaddr_l rfl rfl (by assumption) rfl ?_ | refine st_load_r rfl rfl ?_ | refine a_cmp rfl rfl rfl ?_ | refine a_eqi rfl rfl ?_ | refine st_not rfl ?_ | refine st_pick_t rfl rfl rfl ?_ | refine st_pick_f rfl rfl rfl ?_ | refine st_g rfl ?_ | refine a_gtf rfl ?_ | refine a_gft rfl ?_ | refine a_gu rfl ?_ | refine a_mklist (ec rfl en) (mz mkn) ?_ | refine a_mid ?_)
  refine a_box rfl rfl rfl ?_
  repeat (first | refine a_op (fun _ => rfl) ?_ | refine a_load rfl (by assumption) rfl ?_ | refine a_load_at rfl (by assumption) (by assumption) ?_ | refine a_iaddr_at rfl rfl (by assumption) ?_ | refine a_iaddr_l rfl rfl (by assumption) rfl ?_ | refine st_load_r rfl rfl ?_ | refine a_cmp rfl rfl rfl ?_ | refine a_eqi rfl rfl ?_ | refine st_not rfl ?_ | refine st_pick_t rfl rfl rfl ?_ | refine st_pick_f rfl rfl rfl ?_ | refine st_g rfl ?_ | refine a_gtf rfl ?_ | refine a_gft rfl ?_ | refine a_gu rfl ?_ | refine a_mklist (ec rfl en) (mz mkn) ?_ | refine a_mid ?_)
  first | refine a_endq (by repeat (first | exact pr_nil | (apply pr_cons; rfl))) ?_ | refine a_end (by repeat (first | exact pr_nil | (apply pr_cons; rfl))) ?_
  have s3 := s2.new (.cells [.arr nid 0 (n + 1) 4, .map mid])
  change SC _ _ _ _ _ [(0, ii (n : Int)), (1, ln (eInt .i64) at_), (2, ln eGMove_Deed deeds), (6, .ptr 0 0), (8, .ptr g2.length 0)] (g2 ++ [HObj.cells [.arr nid 0 (n + 1) 4, .map mid]])
  generalize g2.length = w at s3 ⊢
  generalize g2 ++ [HObj.cells [.arr nid 0 (n + 1) 4, .map mid]] = g3 at s3 ⊢
  have s4 : Sep g3 (LA wh (I0 w nid mid (n + 1) at_.length (fun _ => 0) (fun _ => 0) (fun _ => 0)) 0) := by
    rw [rep_flm] at s3
    exact s3
  refine run_a (wh := wh) (by omega) rfl hm5 s4 (fun g4 I iK im iw s5 => ?_)
  subst iw
  refine run_b (wh := wh) iK h8 im.symm (by omega) (fun w hw => by rw [im] at hw; rw [iK]; exact hwh w hw) s5 (fun g5 I' jK jm jw s6 => ?_)
  have jm2 : I'.m = at_.length := jm.trans im
  have jK2 : I'.K = n + 1 := jK.trans iK
  rw [im] at s6
  rw [← jw]
  have ok0 : (ct0 wh at_.length).ok I' 0 := ⟨fun w => ⟨trivial, GM.nil_wf, Nat.le_refl _, fun p hp => by simp [body, ct0, GM.nil] at hp⟩, ⟨fun q hq => by simp [ct0, GM.nil] at hq, GM.nil_wf, by simp [GM.stamps, ct0, GM.nil]⟩, fun i => ⟨trivial, Nat.le_refl _⟩, fun q hq => by simp [ct0, GM.nil] at hq, fun i x hx => by simp [ct0, RW.nil] at hx, by omega, by omega⟩
  refine run_c (pl := pl) jm2.symm (by omega) ok0 hd (by rw [jK2, jm2]; exact hok) (by rw [jK2]; exact hgood) (by rw [jK2, jm2]; exact hP) s6 (fun g6 hg6 => ?_)
  rw [jK2, jm2] at hg6
  refine sc_ret (gr (g := zg33) (ho := fun _ => []) (a := (toldF (runN (n + 1) (ct0 wh at_.length).abs deeds) (n + 1) at_.length pl, 0)) [eGMove_Told (toldF (runN (n + 1) (ct0 wh at_.length).abs deeds) (n + 1) at_.length pl), ii 0] [eGMove_Told (toldF (runN (n + 1) (ct0 wh at_.length).abs deeds) (n + 1) at_.length pl), ii 0] rfl (.inr rfl) (weak_ren [] (by simp) (by decide) ro_nil (re_cons1 rfl rnI (re_cons rfl rnI re_nil))) ?_ rfl rfl)
  simp [resVals2, resVal, Env.get, Heap.cells, hg6, atCells, eGMove_Told, HV.cells]
end Go.Hw.VM

