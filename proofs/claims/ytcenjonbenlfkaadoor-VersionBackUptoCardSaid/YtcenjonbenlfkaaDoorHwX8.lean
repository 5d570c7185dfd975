import Derived.Test.YtcenjonbenlfkaaDoorHwX5
import Derived.Test.YtcenjonbenlfkaaDoorHwX6
set_option linter.unusedVariables false
set_option linter.unusedSimpArgs false
namespace Go.Hw.VX
open Go Go.Proofs
abbrev eR := eGVersion_Range
abbrev encR : Enc eR 2 := enc_GVersion_Range
def hpR (s : List UInt8) (l : List R) (y : List UInt8) : Heap := [.cells [.str s], .cells [.list [] .full], .cells [ii 0], .cells [.list (l.map eR) (.own 7 1 2)], .cells [.str y], .cells [.str [44]], .cells [ii 0], .tok (1 + l.length)]
theorem hpR_only (s : List UInt8) (l : List R) (y : List UInt8) : CellsOnly (hpR s l y) := by
  unfold hpR
  exact .cells (.cells (.cells (.cells (.cells (.cells (.cells (.tok .nil)))))))
set_option maxHeartbeats 1000000 in
theorem tailR {QQ : Ex → Env → Heap → Prop} {s y : List UInt8} {l : List R} {lo hi : Int} {tl th : List UInt8} (n1 : PCall Tryd.prog 21 [.str tl] (ii lo)) (n2 : PCall Tryd.prog 21 [.str th] (ii hi)) (hl : l.length < 50)
    (k : QQ .normal [(2, .ptr 1 0), (3, .ptr 2 0), (35, .bool false)] (hpR s (l ++ [⟨lo, hi⟩]) y ++ [.dead])) :
    SC Tryd.prog Tryd.f7.ntmps 9 (.seq (.dreg [oo 25 (.load none 4), mo 26 6, co 27 (.call 21 [26]), mo 28 7, co 29 (.call 21 [28]), oo 30 (.build [(.int .i64 0), (.int .i64 0)] [(0, 1, 27), (1, 1, 29)]), oo 31 (.mklist 2 [30]), oo 32 (.append 2 16 25 31), os (.store 1 4 32)] [] 0 [2, 3, 4]) (.seq (.reg [oo 33 (.load none 4), oo 34 (.len false 33), oo 35 (.bin .gtr 34 (.c (.int .i64 50)))] [2, 3, 35]) (.cond 35 (.seq (.reg [os (.store 1 2 (.c (.list [] .full))), os (.store 1 3 (.c (.int .i64 3)))] [2, 3]) .ret) .skip))) (BlkS 1 QQ)
      [(2, .ptr 1 0), (3, .ptr 2 0), (4, .ptr 3 0), (6, .str tl), (7, .str th)] (hpR s l y ++ [.dead]) := by
  refine a_dreg0 Tryd.mixed (g_load_p rfl rfl rfl (st_mv rfl (a_dcall (ec rfl en) n1 rfl (st_mv rfl (a_dcall (ec rfl en) n2 rfl ?_)))))
  refine g_build (cs := [ii lo, ii hi]) (ep_cons rfl (ep_cons rfl ep_nil)) rfl (g_mkl enc_GVersion_Range [(GVersion_Range.mk lo hi)] (ec rfl en) rfl (mz mkn) ?_)
  refine g_appo (l := l) (ys := [⟨lo, hi⟩]) encR rfl rfl rfl ⟨by simp; omega, fun _ h => h⟩ (fun z => [.cells [.str s], .cells [.list [] .full], .cells [ii 0], .cells [.list (l.map eR) (.own 7 1 2)], .cells [.str y], .cells [.str [44]], .cells [ii 0], .tok (1 + z.length), .dead]) (fun _ => rfl) fun z hz => ?_
  subst hz
  refine g_sp (h' := hpR s (l ++ [⟨lo, hi⟩]) y ++ [.dead]) rfl rfl rfl ?_
  repeat (first | refine a_op (fun _ => rfl) ?_ | refine a_load rfl (by assumption) rfl ?_ | refine a_load_at rfl (by assumption) (by assumption) ?_ | refine a_iaddr_at rfl rfl (by assumption) ?_ | refine a_iaddr_l rfl rfl (by assumption) rfl ?_ | refine st_load_r rfl rfl ?_ | refine a_cmp rfl rfl rfl ?_ | refine a_eqi rfl rfl ?_ | refine st_not rfl ?_ | refine st_pick_t rfl rfl rfl ?_ | refine st_pick_f rfl rfl rfl ?_ | refine st_g rfl ?_ | refine a_gtf rfl ?_ | refine a_gft rfl ?_ | refine a_gu rfl ?_ | refine a_mklist (ec rfl en) (mz mkn) ?_ | refine a_mid ?_)
  first | refine a_endq (by repeat (first | exact pr_nil | (apply pr_cons; rfl))) ?_ | refine a_end (by repeat (first | exact pr_nil | (apply pr_cons; rfl))) ?_
  refine q_reg (g_load_p rfl rfl rfl ?_)
  repeat (first | refine a_op (fun _ => rfl) ?_ | refine a_load rfl (by assumption) rfl ?_ | refine a_load_at rfl (by assumption) (by assumption) ?_ | refine a_iaddr_at rfl rfl (by assumption) ?_ | refine a_iaddr_l rfl rfl (by assumption) rfl ?_ | refine st_load_r rfl rfl ?_ | refine a_cmp rfl rfl rfl ?_ | refine a_eqi rfl rfl ?_ | refine st_not rfl ?_ | refine st_pick_t rfl rfl rfl ?_ | refine st_pick_f rfl rfl rfl ?_ | refine st_g rfl ?_ | refine a_gtf rfl ?_ | refine a_gft rfl ?_ | refine a_gu rfl ?_ | refine a_mklist (ec rfl en) (mz mkn) ?_ | refine a_mid ?_)
  refine g_endq [(2, .ptr 1 0), (3, .ptr 2 0), (35, .bool (decide (((l ++ [(⟨lo, hi⟩ : R)]).map eR).length > (50 : Int))))] rfl ?_
  refine sc_cond rfl (fun hc => ?_) (fun hc => ?_)
  · have := of_decide_eq_true hc
    simp at this; omega
  · rw [hc]
    exact sc_skip (bl_n k)
set_option maxHeartbeats 1000000 in
theorem s7 {a : List R} (ha : ∀ r ∈ a, okT r) (hl : a.length ≤ 50) (h6 : sp6 a (textA a, 0)) : sp7 (textA a) (a, 0) := by
  refine ⟨args1 (.str _), .tuple _ (args2 (pv_lst encR a .none (by simp)) (.int _ _)), ?_⟩
  refine sc_func2 (rs := [.c 2 none, .c 3 none]) Tryd.func7 rfl (by decide) (by kernel_rfl) (lb rfl) hk7 ?_
  show SC Tryd.prog Tryd.f7.ntmps _ hc7 _ [(0, .str (textA a))] []
  have hsl : (textA a).length ≤ 100000 := by have := textA_len ha; omega
  generalize hs : textA a = s at hsl h6 ⊢
  unfold hc7
  refine q_reg ?_
  refine a_box rfl rfl rfl ?_
  refine a_alloc ?_
  refine a_alloc ?_
  repeat (first | refine a_op (fun _ => rfl) ?_ | refine a_load rfl (by assumption) rfl ?_ | refine a_load_at rfl (by assumption) (by assumption) ?_ | refine a_iaddr_at rfl rfl (by assumption) ?_ | refine a_iaddr_l rfl rfl (by assumption) rfl ?_ | refine st_load_r rfl rfl ?_ | refine a_cmp rfl rfl rfl ?_ | refine a_eqi rfl rfl ?_ | refine st_not rfl ?_ | refine st_pick_t rfl rfl rfl ?_ | refine st_pick_f rfl rfl rfl ?_ | refine st_g rfl ?_ | refine a_gtf rfl ?_ | refine a_gft rfl ?_ | refine a_gu rfl ?_ | refine a_mklist (ec rfl en) (mz mkn) ?_ | refine a_mid ?_)
  first | refine a_endq (by repeat (first | exact pr_nil | (apply pr_cons; rfl))) ?_ | refine a_end (by repeat (first | exact pr_nil | (apply pr_cons; rfl))) ?_
  refine q_reg ?_
  refine a_alloc ?_
  repeat (first | refine a_op (fun _ => rfl) ?_ | refine a_load rfl (by assumption) rfl ?_ | refine a_load_at rfl (by assumption) (by assumption) ?_ | refine a_iaddr_at rfl rfl (by assumption) ?_ | refine a_iaddr_l rfl rfl (by assumption) rfl ?_ | refine st_load_r rfl rfl ?_ | refine a_cmp rfl rfl rfl ?_ | refine a_eqi rfl rfl ?_ | refine st_not rfl ?_ | refine st_pick_t rfl rfl rfl ?_ | refine st_pick_f rfl rfl rfl ?_ | refine st_g rfl ?_ | refine a_gtf rfl ?_ | refine a_gft rfl ?_ | refine a_gu rfl ?_ | refine a_mklist (ec rfl en) (mz mkn) ?_ | refine a_mid ?_)
  first | refine a_endq (by repeat (first | exact pr_nil | (apply pr_cons; rfl))) ?_ | refine a_end (by repeat (first | exact pr_nil | (apply pr_cons; rfl))) ?_
  refine sc_seq (q_reg ?_)
  repeat (first | refine a_op (fun _ => rfl) ?_ | refine a_load rfl (by assumption) rfl ?_ | refine a_load_at rfl (by assumption) (by assumption) ?_ | refine a_iaddr_at rfl rfl (by assumption) ?_ | refine a_iaddr_l rfl rfl (by assumption) rfl ?_ | refine st_load_r rfl rfl ?_ | refine a_cmp rfl rfl rfl ?_ | refine a_eqi rfl rfl ?_ | refine st_not rfl ?_ | refine st_pick_t rfl rfl rfl ?_ | refine st_pick_f rfl rfl rfl ?_ | refine st_g rfl ?_ | refine a_gtf rfl ?_ | refine a_gft rfl ?_ | refine a_gu rfl ?_ | refine a_mklist (ec rfl en) (mz mkn) ?_ | refine a_mid ?_)
  refine a_call (ec rfl (ec rfl en)) (r19 (n := 4) rfl ?_)
  refine g_endq [(1, .ptr 0 0), (2, .ptr 1 0), (3, .ptr 2 0), (4, .ptr 3 0), (12, .func 59 [.ptr 5 0, .ptr 4 0, .ptr 6 0])] rfl ?_
  have rest : ∀ y, SC Tryd.prog Tryd.f7.ntmps 0 (.seq (.seq (.reg [oo 37 (.load none 4), co 38 (.call 6 [37]), mo 36 38, oo 39 (.extract 36 0), oo 40 (.extract 36 1), mo 9 39, mo 10 40] [1, 2, 3, 4, 9, 10]) (.seq (.reg [mo 41 10, oo 42 (.eqv true .int 41 (.c (.int .i64 0))), mo 43 42, og 44 (.mv 9) 43 false, og 45 (.load none 1) 43 false, og 46 (.eqv true .str 44 45) 43 false, oo 47 (.pick 43 (.c (.bool true)) 46)] [2, 3, 4, 47]) (.cond 47 (.seq (.reg [os (.store 1 2 (.c (.list [] .full))), os (.store 1 3 (.c (.int .i64 3)))] [2, 3]) .ret) .skip))) (.seq (.reg [oo 48 (.load none 4), os (.store 1 2 48), os (.store 1 3 (.c (.int .i64 0)))] [2, 3]) .ret)) (RetS2 [.c 2 none, .c 3 none] 0 fun x _ => x.strip1 = zg7 (a, 0)) [(1, .ptr 0 0), (2, .ptr 1 0), (3, .ptr 2 0), (4, .ptr 3 0), (12, .func 59 [.ptr 5 0, .ptr 4 0, .ptr 6 0])] (hpR s a y) := by
    intro y
    have g0 : (hpR s a y)[0]? = some (.cells [.str s]) := rfl
    refine sc_seq (q_reg (g_load_p rfl rfl rfl (a_call (ec rfl en) (h6.use ?_))))
    repeat (first | refine a_op (fun _ => rfl) ?_ | refine a_load rfl (by assumption) rfl ?_ | refine a_load_at rfl (by assumption) (by assumption) ?_ | refine a_iaddr_at rfl rfl (by assumption) ?_ | refine a_iaddr_l rfl rfl (by assumption) rfl ?_ | refine st_load_r rfl rfl ?_ | refine a_cmp rfl rfl rfl ?_ | refine a_eqi rfl rfl ?_ | refine st_not rfl ?_ | refine st_pick_t rfl rfl rfl ?_ | refine st_pick_f rfl rfl rfl ?_ | refine st_g rfl ?_ | refine a_gtf rfl ?_ | refine a_gft rfl ?_ | refine a_gu rfl ?_ | refine a_mklist (ec rfl en) (mz mkn) ?_ | refine a_mid ?_)
    first | refine a_endq (by repeat (first | exact pr_nil | (apply pr_cons; rfl))) ?_ | refine a_end (by repeat (first | exact pr_nil | (apply pr_cons; rfl))) ?_
    refine q_reg ?_
    repeat (first | refine a_op (fun _ => rfl) ?_ | refine a_load rfl (by assumption) rfl ?_ | refine a_load_at rfl (by assumption) (by assumption) ?_ | refine a_iaddr_at rfl rfl (by assumption) ?_ | refine a_iaddr_l rfl rfl (by assumption) rfl ?_ | refine st_load_r rfl rfl ?_ | refine a_cmp rfl rfl rfl ?_ | refine a_eqi rfl rfl ?_ | refine st_not rfl ?_ | refine st_pick_t rfl rfl rfl ?_ | refine st_pick_f rfl rfl rfl ?_ | refine st_g rfl ?_ | refine a_gtf rfl ?_ | refine a_gft rfl ?_ | refine a_gu rfl ?_ | refine a_mklist (ec rfl en) (mz mkn) ?_ | refine a_mid ?_)
    refine g_nes (A := False) (B := True) rfl rfl ⟨fun h => h rfl, fun _ => trivial⟩ (fun h => h.elim) fun _ => ?_
    repeat (first | refine a_op (fun _ => rfl) ?_ | refine a_load rfl (by assumption) rfl ?_ | refine a_load_at rfl (by assumption) (by assumption) ?_ | refine a_iaddr_at rfl rfl (by assumption) ?_ | refine a_iaddr_l rfl rfl (by assumption) rfl ?_ | refine st_load_r rfl rfl ?_ | refine a_cmp rfl rfl rfl ?_ | refine a_eqi rfl rfl ?_ | refine st_not rfl ?_ | refine st_pick_t rfl rfl rfl ?_ | refine st_pick_f rfl rfl rfl ?_ | refine st_g rfl ?_ | refine a_gtf rfl ?_ | refine a_gft rfl ?_ | refine a_gu rfl ?_ | refine a_mklist (ec rfl en) (mz mkn) ?_ | refine a_mid ?_)
    first | refine a_endq (by repeat (first | exact pr_nil | (apply pr_cons; rfl))) ?_ | refine a_end (by repeat (first | exact pr_nil | (apply pr_cons; rfl))) ?_
    refine s_cond_f rfl ?_
    refine sc_skip (sq_n (q_reg (g_load_p rfl rfl rfl ?_)))
    refine g_sp (h' := [.cells [.str s], .cells [.list (a.map eR) (.own 7 1 2)], .cells [ii 0], .cells [.list (a.map eR) (.own 7 1 2)], .cells [.str y], .cells [.str [44]], .cells [ii 0], .tok (1 + a.length)]) rfl rfl rfl ?_
    refine g_sp (h' := [.cells [.str s], .cells [.list (a.map eR) (.own 7 1 2)], .cells [ii 0], .cells [.list (a.map eR) (.own 7 1 2)], .cells [.str y], .cells [.str [44]], .cells [ii 0], .tok (1 + a.length)]) rfl rfl rfl ?_
    repeat (first | refine a_op (fun _ => rfl) ?_ | refine a_load rfl (by assumption) rfl ?_ | refine a_load_at rfl (by assumption) (by assumption) ?_ | refine a_iaddr_at rfl rfl (by assumption) ?_ | refine a_iaddr_l rfl rfl (by assumption) rfl ?_ | refine st_load_r rfl rfl ?_ | refine a_cmp rfl rfl rfl ?_ | refine a_eqi rfl rfl ?_ | refine st_not rfl ?_ | refine st_pick_t rfl rfl rfl ?_ | refine st_pick_f rfl rfl rfl ?_ | refine st_g rfl ?_ | refine a_gtf rfl ?_ | refine a_gft rfl ?_ | refine a_gu rfl ?_ | refine a_mklist (ec rfl en) (mz mkn) ?_ | refine a_mid ?_)
    first | refine a_endq (by repeat (first | exact pr_nil | (apply pr_cons; rfl))) ?_ | refine a_end (by repeat (first | exact pr_nil | (apply pr_cons; rfl))) ?_
    exact sc_ret (x_ret _ rfl rfl)
  refine sc_block ?_
  refine sc_rfunS (X := List R) (c1 := 5) (c := 4) (c3 := 6) (sep := [44]) (s0 := s) rfl ⟨_, Tryd.func59, rfl, by decide⟩ (splitL_ne 44 s) (fun b1 b b3 n1 n3 => split_in 44 s hsl b1 b b3 n1 n3) (by decide) 1 (hpR s)
    (fun i l => l = a.take i ∧ (i = 0 ∨ a ≠ [])) (fun j l => j = 0 ∧ a = [] ∧ l = []) [] ⟨rfl, .inl rfl⟩
    (w_acc_cell (l := ([] : List R)) 3 0 2 (n := 7) rfl encR rfl rfl rfl) (fun _ _ => rfl) (fun _ _ => hpR_only _ _ _) ⟨by simp, fun _ _ => rfl⟩ ⟨by simp, fun _ _ => rfl⟩ ⟨by simp, fun _ _ => rfl⟩ (fun _ _ _ => rfl) (by decide) (by decide) rfl rfl ?_ ?_ ?_
  · have fin : ∀ {i : Nat} {r : R} {y : List UInt8}, a[i]? = some r → a ≠ [] → RndX 7 (fun h' => ∃ s', (s' = a.take (i + 1) ∧ (i + 1 = 0 ∨ a ≠ [])) ∧ hpR s s' y = h') (fun j h' => i + 1 = (splitL 44 s).length ∧ ∃ s', (j = 0 ∧ a = [] ∧ s' = []) ∧ hpR s s' y = h') .normal
        [(2, .ptr 1 0), (3, .ptr 2 0), (35, .bool false)] (hpR s (a.take i ++ [r]) y ++ [.dead]) := by
      intro i r y hr hane
      have e : a.take (i + 1) = a.take i ++ [r] := by rw [List.take_add_one, hr]; rfl
      rw [e]
      exact rx_n (hp := fun l => hpR s l y) (I := fun l => l = a.take i ++ [r] ∧ (i + 1 = 0 ∨ a ≠ [])) (a.take i ++ [r]) ⟨rfl, .inr hane⟩ (wrm 7 [0, 1, 2, 3, 4, 5, 6, 7])
    rintro i p l y hp ⟨rfl, hia⟩
    refine s_reg (a_op (fun _ => rfl) (g_end [(1, .ptr 0 0), (2, .ptr 1 0), (3, .ptr 2 0), (4, .ptr 3 0), (5, .str p)] rfl ?_))
    refine nr_n ?_
    show SC Tryd.prog Tryd.f7.ntmps 9 _ _ [(1, .ptr 0 0), (2, .ptr 1 0), (3, .ptr 2 0), (4, .ptr 3 0), (5, .str p)] (hpR s (a.take i) y ++ [.dead])
    refine sc_block (sc_seq (q_reg (g_load_p rfl rfl rfl (g_eqs rfl rfl ⟨fun h => h, fun h => h⟩ (fun hc => g_endq [(1, .ptr 0 0), (2, .ptr 1 0), (3, .ptr 2 0), (4, .ptr 3 0), (5, .str p), (15, .bool true)] rfl ?_) (fun hc => g_endq [(1, .ptr 0 0), (2, .ptr 1 0), (3, .ptr 2 0), (4, .ptr 3 0), (5, .str p), (15, .bool false)] rfl ?_)))))
    · refine s_cond_t rfl ?_
      have hs0 : s = [] := hc
      have ha0 : a = [] := by
        by_cases h : a = []
        · exact h
        · exact absurd (hs.trans hs0) (textA_ne ha h)
      have hi0 : i = 0 := by
        have := (List.getElem?_eq_some_iff.1 hp).1
        rw [hs0] at this; simpa [splitL] using this
      subst hi0
      refine sc_exit (sq_x ?_)
      show BlkS 1 _ (.exit 0) _ _
      simp only [BlkS]
      rw [if_neg (by decide)]
      refine rx_x (by rw [hs0]; rfl) ([] : List R) ⟨rfl, ha0, rfl⟩ ?_
      exact wrm 7 [0, 1, 2, 3, 4, 5, 6, 7]
    · refine s_cond_f rfl ?_
      have hsn : s ≠ [] := hc
      have hane : a ≠ [] := by
        intro e; subst e; exact hsn hs.symm
      rw [← hs, textA_split ha hane, List.getElem?_map] at hp
      obtain ⟨r, hr, rfl⟩ := Option.map_eq_some_iff.1 hp
      have hok := ha r (List.mem_of_getElem? hr)
      have hil := (List.getElem?_eq_some_iff.1 hr).1
      have hcut := s20 hok
      obtain ⟨q1, q2, q3⟩ := id hok
      have n1 := s21 (Lib.itoa r.Low) r.Low (itoa_len (by omega) (by omega)) (itoa_back (by omega))
      have n2 := s21 (Lib.itoa r.High) r.High (itoa_len (by omega) (by omega)) (itoa_back (by omega))
      refine sc_skip (sq_n (q_reg ?_))
      repeat (first | refine a_op (fun _ => rfl) ?_ | refine a_load rfl (by assumption) rfl ?_ | refine a_load_at rfl (by assumption) (by assumption) ?_ | refine a_iaddr_at rfl rfl (by assumption) ?_ | refine a_iaddr_l rfl rfl (by assumption) rfl ?_ | refine st_load_r rfl rfl ?_ | refine a_cmp rfl rfl rfl ?_ | refine a_eqi rfl rfl ?_ | refine st_not rfl ?_ | refine st_pick_t rfl rfl rfl ?_ | refine st_pick_f rfl rfl rfl ?_ | refine st_g rfl ?_ | refine a_gtf rfl ?_ | refine a_gft rfl ?_ | refine a_gu rfl ?_ | refine a_mklist (ec rfl en) (mz mkn) ?_ | refine a_mid ?_)
      refine a_call (ec rfl (ec rfl en)) (hcut.use ?_)
      repeat (first | refine a_op (fun _ => rfl) ?_ | refine a_load rfl (by assumption) rfl ?_ | refine a_load_at rfl (by assumption) (by assumption) ?_ | refine a_iaddr_at rfl rfl (by assumption) ?_ | refine a_iaddr_l rfl rfl (by assumption) rfl ?_ | refine st_load_r rfl rfl ?_ | refine a_cmp rfl rfl rfl ?_ | refine a_eqi rfl rfl ?_ | refine st_not rfl ?_ | refine st_pick_t rfl rfl rfl ?_ | refine st_pick_f rfl rfl rfl ?_ | refine st_g rfl ?_ | refine a_gtf rfl ?_ | refine a_gft rfl ?_ | refine a_gu rfl ?_ | refine a_mklist (ec rfl en) (mz mkn) ?_ | refine a_mid ?_)
      first | refine a_endq (by repeat (first | exact pr_nil | (apply pr_cons; rfl))) ?_ | refine a_end (by repeat (first | exact pr_nil | (apply pr_cons; rfl))) ?_
      refine sc_seq (q_reg ?_)
      repeat (first | refine a_op (fun _ => rfl) ?_ | refine a_load rfl (by assumption) rfl ?_ | refine a_load_at rfl (by assumption) (by assumption) ?_ | refine a_iaddr_at rfl rfl (by assumption) ?_ | refine a_iaddr_l rfl rfl (by assumption) rfl ?_ | refine st_load_r rfl rfl ?_ | refine a_cmp rfl rfl rfl ?_ | refine a_eqi rfl rfl ?_ | refine st_not rfl ?_ | refine st_pick_t rfl rfl rfl ?_ | refine st_pick_f rfl rfl rfl ?_ | refine st_g rfl ?_ | refine a_gtf rfl ?_ | refine a_gft rfl ?_ | refine a_gu rfl ?_ | refine a_mklist (ec rfl en) (mz mkn) ?_ | refine a_mid ?_)
      first | refine a_endq (by repeat (first | exact pr_nil | (apply pr_cons; rfl))) ?_ | refine a_end (by repeat (first | exact pr_nil | (apply pr_cons; rfl))) ?_
      by_cases hlt : r.Low < r.High
      · refine s_cond_f (by simp [X.ev, Env.get, hlt]) (sc_skip (sq_n ?_))
        simp only [if_pos hlt]
        refine SC.weak (ws (e' := [(2, .ptr 1 0), (3, .ptr 2 0), (4, .ptr 3 0), (6, .str (Lib.itoa r.Low)), (7, .str (Lib.itoa r.High))])) ?_
        exact tailR n1 n2 (by rw [List.length_take]; omega) (fin hr hane)
      · have he : r.High = r.Low := by omega
        refine s_cond_t (by simp [X.ev, Env.get, hlt]) (s_reg ?_)
        repeat (first | refine a_op (fun _ => rfl) ?_ | refine a_load rfl (by assumption) rfl ?_ | refine a_load_at rfl (by assumption) (by assumption) ?_ | refine a_iaddr_at rfl rfl (by assumption) ?_ | refine a_iaddr_l rfl rfl (by assumption) rfl ?_ | refine st_load_r rfl rfl ?_ | refine a_cmp rfl rfl rfl ?_ | refine a_eqi rfl rfl ?_ | refine st_not rfl ?_ | refine st_pick_t rfl rfl rfl ?_ | refine st_pick_f rfl rfl rfl ?_ | refine st_g rfl ?_ | refine a_gtf rfl ?_ | refine a_gft rfl ?_ | refine a_gu rfl ?_ | refine a_mklist (ec rfl en) (mz mkn) ?_ | refine a_mid ?_)
        first | refine a_endq (by repeat (first | exact pr_nil | (apply pr_cons; rfl))) ?_ | refine a_end (by repeat (first | exact pr_nil | (apply pr_cons; rfl))) ?_
        refine sq_n ?_
        rw [← he] at n1 ⊢
        have hr' : a[i]? = some ⟨r.High, r.High⟩ := by
          rw [hr]; obtain ⟨lo, hi⟩ := r; simp only at he; rw [he]
        exact tailR n1 n2 (by rw [List.length_take]; omega) (fin hr' hane)
  · rintro l y ⟨rfl, h | hane⟩
    · exact absurd h (by have := List.length_pos_iff.2 (splitL_ne 44 s); omega)
    · have hlen : (splitL 44 s).length = a.length := by rw [← hs, textA_split ha hane, List.length_map]
      rw [hlen, List.take_length]
      exact bl_n (sq_n (rest y))
  · rintro j l y ⟨rfl, rfl, rfl⟩
    exact bl_x (sq_n (rest y))
end Go.Hw.VX

