import Derived.Test.YtonoaimefgodfaaHwMoL
set_option linter.unusedVariables false
set_option linter.unusedSimpArgs false
namespace Go.Hw.VM
open Go Go.Proofs

theorem a_dregl {P : Program} {N m : Nat} {e : Env} {h : Heap} {QQ : Ex → Env → Heap → Prop} (hmix : P.follows .mixedOrders = true) {pre tail : List Op} {n : Nat} {keep : List Nat} (k : HO (DCalls P) h.length pre e (h ++ List.replicate n .res) (Mid (HCalls P) tail (Fin QQ keep))) : SC P N m (.dreg pre tail n keep) QQ e h := s_dreg hmix rfl k
def deedF (K : Nat) (t : Nw) (d : GMove_Deed) : Nw := doF K t d.Kind d.From.toNat d.To.toNat d.Who.toNat d.N
def runN (K : Nat) (t : Nw) (deeds : List GMove_Deed) : Nw := deeds.foldl (deedF K) t
structure DdOk (K m : Nat) (d : GMove_Deed) : Prop where
  kind : d.Kind = 1 ∨ d.Kind = 2 ∨ d.Kind = 3
  frm : 0 ≤ d.From
  to_ : 0 ≤ d.To ∧ d.To < K
  who : 0 ≤ d.Who ∧ d.Who < m
  put : d.Kind = 1 → 1 ≤ d.From ∧ d.From < K
  shift : d.Kind = 2 → 1 ≤ d.To
structure GoodM (t : Nw) : Prop where
  sq : ∀ i w, t.sq i w ≤ 100000000
  st : ∀ i w, t.st i w ≤ 100000000
  its : ∀ q ∈ t.ways.es, ∀ x ∈ q.2.2, x.kind = 1 ∨ x.kind = 2 ∨ x.kind = 3
  wl : ∀ i, (t.waits i).length ≤ 1000
  es : t.ways.es.length ≤ 1000
def t33c : C := (.seq (.seq (.reg [mo 115 2, oo 116 (.len false 115), oo 117 (.mv (.c (.int .i64 0)))] [1, 6, 8, 115, 116, 117]) (.block 6 (.loop (.seq (.reg [oo 118 (.bin .lss 117 116)] [1, 6, 8, 115, 116, 117, 118]) (.seq (.cond 118 .skip (.exit 6)) (.seq (.block 7 (.seq (.reg [oo 119 (.iaddr 5 115 117), oo 120 (.load (some 5) 119), oo 14 (.alloc none [(.int .i64 0), (.int .i64 0), (.int .i64 0), (.int .i64 0), (.int .i64 0)]), os (.store 5 14 120)] [1, 6, 8, 14, 115, 116, 117]) (.reg [mo 121 8, oo 122 (.load (some 5) 14), co 123 (.call 57 [121, 122])] [1, 6, 8, 115, 116, 117]))) (.reg [oo 124 (.bin .add 117 (.c (.int .i64 1))), mo 117 124] [1, 6, 8, 115, 116, 117]))))))) (.seq (.reg [mo 125 8, mo 126 1, oo 127 (.len false 126), co 128 (.call 58 [125, 127]), os (.store 4 6 128), oo 7 (.mv (.c (.int .i64 0)))] [6, 7]) .ret))
theorem run_c {h : Heap} {I : Ids} {t : Ct} {QQ : Ex → Env → Heap → Prop} {at_ : List Int} {deeds : List GMove_Deed} {pl : Nat → Nat} (hm : at_.length = I.m) (hK : 0 < I.K) (ok : t.ok I 0) (hd : deeds.length ≤ 400) (hok : ∀ d ∈ deeds, DdOk I.K I.m d)
    (hgood : ∀ k ≤ deeds.length, GoodM (runN I.K t.abs (deeds.take k))) (hP : Pl I.K I.m (runN I.K t.abs deeds) pl) (hs : Sep h (lay I t ++ [(0, told0)]))
    (kk : ∀ h', h'[0]? = some (.cells (eGMove_Told (toldF (runN I.K t.abs deeds) I.K I.m pl)).cells) → SC Try.prog Try.f33.ntmps 0 .ret QQ [(6, .ptr 0 0), (7, ii 0)] h') :
    SC Try.prog Try.f33.ntmps 0 t33c QQ [(1, ln (eInt .i64) at_), (2, ln eGMove_Deed deeds), (6, .ptr 0 0), (8, .ptr I.w 0)] h := by
  unfold t33c
  refine sc_seq (q_reg ?_)
  repeat (first | refine a_op (fun _ => rfl) ?_ | refine a_load rfl (by assumption) rfl ?_ | refine a_load_at rfl (by assumption) (by assumption) ?_ | refine a_iaddr_at rfl rfl (by assumption) ?_ | refine a_iaddr_l rfl rfl (by assumption) rfl ?_ | refine st_load_r rfl rfl ?_ | refine a_cmp rfl rfl rfl ?_ | refine a_eqi rfl rfl ?_ | refine st_not rfl ?_ | refine st_pick_t rfl rfl rfl ?_ | refine st_pick_f rfl rfl rfl ?_ | refine st_g rfl ?_ | refine a_gtf rfl ?_ | refine a_gft rfl ?_ | refine a_gu rfl ?_ | refine a_mklist (ec rfl en) (mz mkn) ?_ | refine a_mid ?_)
  first | refine a_endq (by repeat (first | exact pr_nil | (apply pr_cons; rfl))) ?_ | refine a_end (by repeat (first | exact pr_nil | (apply pr_cons; rfl))) ?_
  refine sc_block (sc_loop (X := { x : Nat × Ct × Heap // x.1 ≤ deeds.length ∧ x.2.1.ok I (4000 * x.1) ∧ x.2.1.abs = runN I.K t.abs (deeds.take x.1) ∧ Sep x.2.2 (lay I x.2.1 ++ [(0, told0)]) })
      (fun x => ([(1, ln (eInt .i64) at_), (6, .ptr 0 0), (8, .ptr I.w 0), (115, ln eGMove_Deed deeds), (116, ii (deeds.map eGMove_Deed).length), (117, ii x.1.1)], x.1.2.2)) (fun x => deeds.length - x.1.1)
      ⟨(0, t, h), Nat.zero_le _, ok, rfl, hs⟩ (WeakF.refl _ _) ?_)
  rintro ⟨⟨k, T, h5⟩, hk, hTok, hTa, s6⟩
  simp only at hk hTok hTa s6
  have hg := hgood k hk
  rw [← hTa] at hg
  refine q_reg ?_
  repeat (first | refine a_op (fun _ => rfl) ?_ | refine a_load rfl (by assumption) rfl ?_ | refine a_load_at rfl (by assumption) (by assumption) ?_ | refine a_iaddr_at rfl rfl (by assumption) ?_ | refine a_iaddr_l rfl rfl (by assumption) rfl ?_ | refine st_load_r rfl rfl ?_ | refine a_cmp rfl rfl rfl ?_ | refine a_eqi rfl rfl ?_ | refine st_not rfl ?_ | refine st_pick_t rfl rfl rfl ?_ | refine st_pick_f rfl rfl rfl ?_ | refine st_g rfl ?_ | refine a_gtf rfl ?_ | refine a_gft rfl ?_ | refine a_gu rfl ?_ | refine a_mklist (ec rfl en) (mz mkn) ?_ | refine a_mid ?_)
  first | refine a_endq (by repeat (first | exact pr_nil | (apply pr_cons; rfl))) ?_ | refine a_end (by repeat (first | exact pr_nil | (apply pr_cons; rfl))) ?_
  refine sc_seq (sc_cond rfl (fun hz => ?_) (fun hz => ?_))
  · have hkl : k < deeds.length := by have := of_decide_eq_true hz; dsimp only at this; rw [List.length_map] at this; omega
    obtain ⟨⟨kd, f, t_, w, nn⟩, hdk⟩ : ∃ x, deeds[k]? = some x := ⟨_, List.getElem?_eq_getElem hkl⟩
    have hdo := hok _ (List.mem_of_getElem? hdk)
    obtain ⟨hkind, f0, ⟨t0, t1⟩, ⟨w0, w1⟩, hput, hsh⟩ := hdo
    simp only at hkind f0 t0 t1 w0 w1 hput hsh
    obtain ⟨a, rfl⟩ : ∃ a : Nat, f = a := ⟨f.toNat, by omega⟩
    obtain ⟨b, rfl⟩ : ∃ b : Nat, t_ = b := ⟨t_.toNat, by omega⟩
    obtain ⟨c, rfl⟩ : ∃ c : Nat, w = c := ⟨w.toNat, by omega⟩
    have hstep : runN I.K t.abs (deeds.take (k + 1)) = doF I.K T.abs kd a b c nn := by
      rw [hTa]
      unfold runN
      rw [List.take_add_one, hdk, Option.toList_some, List.foldl_append]
      rfl
    have hD : DOk I T.abs kd a b c := ⟨hkind, fun h => by have := hput h; omega, fun h => by have := hsh h; omega, by omega, by omega, hg.sq a c, fun i _ => hg.st i c, hg.its, hg.wl b⟩
    refine sc_skip (sq_n (sc_seq (sc_block (q_reg ?_))))
    repeat (first | refine a_op (fun _ => rfl) ?_ | refine a_load rfl (by assumption) rfl ?_ | refine a_load_at rfl (by assumption) (by assumption) ?_ | refine a_iaddr_at rfl rfl (by assumption) ?_ | refine a_iaddr_l rfl rfl (by assumption) rfl ?_ | refine st_load_r rfl rfl ?_ | refine a_cmp rfl rfl rfl ?_ | refine a_eqi rfl rfl ?_ | refine st_not rfl ?_ | refine st_pick_t rfl rfl rfl ?_ | refine st_pick_f rfl rfl rfl ?_ | refine st_g rfl ?_ | refine a_gtf rfl ?_ | refine a_gft rfl ?_ | refine a_gu rfl ?_ | refine a_mklist (ec rfl en) (mz mkn) ?_ | refine a_mid ?_)
    refine a_alloc ?_
    refine a_store rfl rfl (List.getElem?_concat_length) ⟨rfl, lb rfl, rfl⟩ ?_
    repeat (first | refine a_op (fun _ => rfl) ?_ | refine a_load rfl (by assumption) rfl ?_ | refine a_load_at rfl (by assumption) (by assumption) ?_ | refine a_iaddr_at rfl rfl (by assumption) ?_ | refine a_iaddr_l rfl rfl (by assumption) rfl ?_ | refine st_load_r rfl rfl ?_ | refine a_cmp rfl rfl rfl ?_ | refine a_eqi rfl rfl ?_ | refine st_not rfl ?_ | refine st_pick_t rfl rfl rfl ?_ | refine st_pick_f rfl rfl rfl ?_ | refine st_g rfl ?_ | refine a_gtf rfl ?_ | refine a_gft rfl ?_ | refine a_gu rfl ?_ | refine a_mklist (ec rfl en) (mz mkn) ?_ | refine a_mid ?_)
    first | refine a_endq (by repeat (first | exact pr_nil | (apply pr_cons; rfl))) ?_ | refine a_end (by repeat (first | exact pr_nil | (apply pr_cons; rfl))) ?_
    have s7 := Sep.set (A := []) (s6.new (.cells [ii 0, ii 0, ii 0, ii 0, ii 0])) (.cells [ii kd, ii (a : Int), ii (b : Int), ii (c : Int), ii nn])
    change SC _ _ _ _ _ [(1, ln (eInt .i64) at_), (6, .ptr 0 0), (8, .ptr I.w 0), (14, .ptr h5.length 0), (115, ln eGMove_Deed deeds), (116, ii (deeds.map eGMove_Deed).length), (117, ii (k : Int))] ((h5 ++ [HObj.cells [ii 0, ii 0, ii 0, ii 0, ii 0]]).set h5.length (.cells [ii kd, ii (a : Int), ii (b : Int), ii (c : Int), ii nn]))
    generalize h5.length = o5 at s7 ⊢
    generalize (h5 ++ [HObj.cells [ii 0, ii 0, ii 0, ii 0, ii 0]]).set o5 (.cells [ii kd, ii (a : Int), ii (b : Int), ii (c : Int), ii nn]) = h6 at s7 ⊢
    simp only [List.nil_append] at s7
    have g5 : h6[o5]? = some (.cells [ii kd, ii (a : Int), ii (b : Int), ii (c : Int), ii nn]) := s7.get (by simp)
    refine s_reg ?_
    repeat (first | refine a_op (fun _ => rfl) ?_ | refine a_load rfl (by assumption) rfl ?_ | refine a_load_at rfl (by assumption) (by assumption) ?_ | refine a_iaddr_at rfl rfl (by assumption) ?_ | refine a_iaddr_l rfl rfl (by assumption) rfl ?_ | refine st_load_r rfl rfl ?_ | refine a_cmp rfl rfl rfl ?_ | refine a_eqi rfl rfl ?_ | refine st_not rfl ?_ | refine st_pick_t rfl rfl rfl ?_ | refine st_pick_f rfl rfl rfl ?_ | refine st_g rfl ?_ | refine a_gtf rfl ?_ | refine a_gft rfl ?_ | refine a_gu rfl ?_ | refine a_mklist (ec rfl en) (mz mkn) ?_ | refine a_mid ?_)
    refine a_call (ec rfl (ec rfl en)) (r57 (a := a) (b := b) (w := c) (kd := kd) (nn := nn) hTok (by omega) hD hK (s7.sub (List.sublist_cons_self _ _)) (fun h7 T' ok' hab s8 => ?_))
    repeat (first | refine a_op (fun _ => rfl) ?_ | refine a_load rfl (by assumption) rfl ?_ | refine a_load_at rfl (by assumption) (by assumption) ?_ | refine a_iaddr_at rfl rfl (by assumption) ?_ | refine a_iaddr_l rfl rfl (by assumption) rfl ?_ | refine st_load_r rfl rfl ?_ | refine a_cmp rfl rfl rfl ?_ | refine a_eqi rfl rfl ?_ | refine st_not rfl ?_ | refine st_pick_t rfl rfl rfl ?_ | refine st_pick_f rfl rfl rfl ?_ | refine st_g rfl ?_ | refine a_gtf rfl ?_ | refine a_gft rfl ?_ | refine a_gu rfl ?_ | refine a_mklist (ec rfl en) (mz mkn) ?_ | refine a_mid ?_)
    first | refine a_endq (by repeat (first | exact pr_nil | (apply pr_cons; rfl))) ?_ | refine a_end (by repeat (first | exact pr_nil | (apply pr_cons; rfl))) ?_
    refine s_reg ?_
    repeat (first | refine a_op (fun _ => rfl) ?_ | refine a_load rfl (by assumption) rfl ?_ | refine a_load_at rfl (by assumption) (by assumption) ?_ | refine a_iaddr_at rfl rfl (by assumption) ?_ | refine a_iaddr_l rfl rfl (by assumption) rfl ?_ | refine st_load_r rfl rfl ?_ | refine a_cmp rfl rfl rfl ?_ | refine a_eqi rfl rfl ?_ | refine st_not rfl ?_ | refine st_pick_t rfl rfl rfl ?_ | refine st_pick_f rfl rfl rfl ?_ | refine st_g rfl ?_ | refine a_gtf rfl ?_ | refine a_gft rfl ?_ | refine a_gu rfl ?_ | refine a_mklist (ec rfl en) (mz mkn) ?_ | refine a_mid ?_)
    refine a_add rfl rfl (by first | omega | (dsimp only; omega)) ?_
    repeat (first | refine a_op (fun _ => rfl) ?_ | refine a_load rfl (by assumption) rfl ?_ | refine a_load_at rfl (by assumption) (by assumption) ?_ | refine a_iaddr_at rfl rfl (by assumption) ?_ | refine a_iaddr_l rfl rfl (by assumption) rfl ?_ | refine st_load_r rfl rfl ?_ | refine a_cmp rfl rfl rfl ?_ | refine a_eqi rfl rfl ?_ | refine st_not rfl ?_ | refine st_pick_t rfl rfl rfl ?_ | refine st_pick_f rfl rfl rfl ?_ | refine st_g rfl ?_ | refine a_gtf rfl ?_ | refine a_gft rfl ?_ | refine a_gu rfl ?_ | refine a_mklist (ec rfl en) (mz mkn) ?_ | refine a_mid ?_)
    first | refine a_endq (by repeat (first | exact pr_nil | (apply pr_cons; rfl))) ?_ | refine a_end (by repeat (first | exact pr_nil | (apply pr_cons; rfl))) ?_
    exact lo_n ⟨(k + 1, T', h7), hkl, ok'.le (by omega), hab.trans hstep.symm, s8⟩ (by show deeds.length - (k + 1) < deeds.length - k; omega) (WeakF.refl _ _)
  · have hkl : ¬ k < deeds.length := by have := of_decide_eq_false hz; dsimp only at this; rw [List.length_map] at this; omega
    have hkn : k = deeds.length := by omega
    subst hkn
    rw [List.take_length] at hTa
    have hes : T.g.es.length ≤ 1000 := by have := hg.es; simpa [Ct.abs, gmap] using this
    refine sc_exit (sq_x (lo_x (bl_x (sq_n (q_reg ?_)))))
    have el : (List.map (eInt .i64) at_).length = I.m := by rw [List.length_map, hm]
    repeat (first | refine a_op (fun _ => rfl) ?_ | refine a_load rfl (by assumption) rfl ?_ | refine a_load_at rfl (by assumption) (by assumption) ?_ | refine a_iaddr_at rfl rfl (by assumption) ?_ | refine a_iaddr_l rfl rfl (by assumption) rfl ?_ | refine st_load_r rfl rfl ?_ | refine a_cmp rfl rfl rfl ?_ | refine a_eqi rfl rfl ?_ | refine st_not rfl ?_ | refine st_pick_t rfl rfl rfl ?_ | refine st_pick_f rfl rfl rfl ?_ | refine st_g rfl ?_ | refine a_gtf rfl ?_ | refine a_gft rfl ?_ | refine a_gu rfl ?_ | refine a_mklist (ec rfl en) (mz mkn) ?_ | refine a_mid ?_)
    refine a_callE (ws := [.ptr I.w 0, ii (I.m : Int)]) (ec rfl (ec rfl en)) (by rw [el]; rfl) (r58 hTok (by omega) hes (by rw [hTa]; exact hP) s6 (fun h6 s7 => ?_))
    have g0 : h6[0]? = some told0 := s7.get (by simp)
    refine a_store rfl rfl g0 ⟨rfl, lb rfl, rfl⟩ ?_
    repeat (first | refine a_op (fun _ => rfl) ?_ | refine a_load rfl (by assumption) rfl ?_ | refine a_load_at rfl (by assumption) (by assumption) ?_ | refine a_iaddr_at rfl rfl (by assumption) ?_ | refine a_iaddr_l rfl rfl (by assumption) rfl ?_ | refine st_load_r rfl rfl ?_ | refine a_cmp rfl rfl rfl ?_ | refine a_eqi rfl rfl ?_ | refine st_not rfl ?_ | refine st_pick_t rfl rfl rfl ?_ | refine st_pick_f rfl rfl rfl ?_ | refine st_g rfl ?_ | refine a_gtf rfl ?_ | refine a_gft rfl ?_ | refine a_gu rfl ?_ | refine a_mklist (ec rfl en) (mz mkn) ?_ | refine a_mid ?_)
    first | refine a_endq (by repeat (first | exact pr_nil | (apply pr_cons; rfl))) ?_ | refine a_end (by repeat (first | exact pr_nil | (apply pr_cons; rfl))) ?_
    rw [hTa]
    refine kk _ ?_
    have s8 := Sep.set (A := []) s7 (.cells (eGMove_Told (toldF (runN I.K t.abs deeds) I.K I.m pl)).cells)
    exact s8.get (by simp)
def Ibody (I : Ids) (b x e : Nat → Nat) : Ids := ⟨I.w, I.nid, I.mid, I.K, I.m, I.hid, I.sid, I.qid, b, x, e⟩
def t33b : C := (.seq (.seq (.reg [mo 62 1, oo 63 (.len false 62), oo 64 (.mv (.c (.int .i64 0)))] [0, 1, 2, 6, 8, 62, 63, 64]) (.block 2 (.loop (.seq (.reg [oo 65 (.bin .lss 64 63)] [0, 1, 2, 6, 8, 62, 63, 64, 65]) (.seq (.cond 65 .skip (.exit 2)) (.seq (.block 3 (.seq (.reg [mo 66 64, oo 67 (.iaddr 1 62 64), oo 68 (.load none 67), mo 10 66, mo 11 68] [0, 1, 2, 6, 8, 10, 11, 62, 63, 64]) (.seq (.seq (.reg [mo 69 11, oo 70 (.bin .lss 69 (.c (.int .i64 1))), mo 71 70, og 72 (.mv 11) 71 false, og 73 (.mv 0) 71 false, og 74 (.bin .gtr 72 73) 71 false, oo 75 (.pick 71 (.c (.bool true)) 74)] [0, 1, 2, 6, 8, 10, 11, 62, 63, 64, 75]) (.cond 75 (.seq (.reg [oo 76 (.build [(.list [] .full), (.list [] .full), (.int .i64 0), (.int .i64 0)] []), os (.store 4 6 76), oo 7 (.mv (.c (.int .i64 1)))] [6, 7]) .ret) .skip)) (.seq (.seq (.reg [mo 77 8, oo 78 (.nilck 77), oo 79 (.faddr 0 1 78), oo 80 (.load none 79), oo 81 (.len false 80), oo 82 (.mv (.c (.int .i64 0)))] [0, 1, 2, 6, 8, 10, 11, 62, 63, 64, 81, 82]) (.block 4 (.loop (.seq (.reg [oo 83 (.bin .lss 82 81)] [0, 1, 2, 6, 8, 10, 11, 62, 63, 64, 81, 82, 83]) (.seq (.cond 83 .skip (.exit 4)) (.seq (.block 5 (.seq (.reg [mo 84 82, mo 12 84] [0, 1, 2, 6, 8, 10, 11, 12, 62, 63, 64, 81, 82]) (.reg [mo 85 8, oo 86 (.nilck 85), oo 87 (.faddr 0 1 86), oo 88 (.load none 87), mo 89 12, oo 90 (.iaddr 4 88 89), oo 91 (.faddr 1 1 90), oo 92 (.load none 91), mo 93 10, mo 94 11, oo 95 (.build [(.int .i64 0), (.int .i64 0)] [(0, 1, 94)]), oo 96 (.iaddr 2 92 93), os (.store 2 96 95)] [0, 1, 2, 6, 8, 10, 11, 62, 63, 64, 81, 82]))) (.reg [oo 97 (.bin .add 82 (.c (.int .i64 1))), mo 82 97] [0, 1, 2, 6, 8, 10, 11, 62, 63, 64, 81, 82]))))))) (.dreg [mo 98 8, oo 99 (.nilck 98), oo 100 (.faddr 0 1 99), oo 101 (.load none 100), mo 102 11, oo 103 (.iaddr 4 101 102), oo 104 (.faddr 0 1 103), oo 105 (.load none 104), mo 106 10, mo 107 0, oo 108 (.bin .add 107 (.c (.int .i64 1))), oo 109 (.mkslice (some 0) 1 8 [(.int .i64 0)] 108 108), oo 110 (.mkmap (some 1)), oo 111 (.build [(.list [] .full), (.list [] .full), .nilmap] [(1, 1, 109), (2, 1, 110)]), oo 112 (.box (some 2) 3 111), oo 113 (.iaddr 1 105 106), os (.store 1 113 112)] [] 3 [0, 1, 2, 6, 8, 62, 63, 64]))))) (.reg [oo 114 (.bin .add 64 (.c (.int .i64 1))), mo 64 114] [0, 1, 2, 6, 8, 62, 63, 64]))))))) (.seq (.seq (.reg [mo 115 2, oo 116 (.len false 115), oo 117 (.mv (.c (.int .i64 0)))] [1, 6, 8, 115, 116, 117]) (.block 6 (.loop (.seq (.reg [oo 118 (.bin .lss 117 116)] [1, 6, 8, 115, 116, 117, 118]) (.seq (.cond 118 .skip (.exit 6)) (.seq (.block 7 (.seq (.reg [oo 119 (.iaddr 5 115 117), oo 120 (.load (some 5) 119), oo 14 (.alloc none [(.int .i64 0), (.int .i64 0), (.int .i64 0), (.int .i64 0), (.int .i64 0)]), os (.store 5 14 120)] [1, 6, 8, 14, 115, 116, 117]) (.reg [mo 121 8, oo 122 (.load (some 5) 14), co 123 (.call 57 [121, 122])] [1, 6, 8, 115, 116, 117]))) (.reg [oo 124 (.bin .add 117 (.c (.int .i64 1))), mo 117 124] [1, 6, 8, 115, 116, 117]))))))) (.seq (.reg [mo 125 8, mo 126 1, oo 127 (.len false 126), co 128 (.call 58 [125, 127]), os (.store 4 6 128), oo 7 (.mv (.c (.int .i64 0)))] [6, 7]) .ret)))
theorem run_b {h : Heap} {I : Ids} {QQ : Ex → Env → Heap → Prop} {at_ : List Int} {deeds : List GMove_Deed} {wh : Nat → Nat} {n : Nat} (hK : I.K = n + 1) (hn : n ≤ 8) (hm : at_.length = I.m) (hm5 : I.m ≤ 5) (hwh : ∀ w, w < I.m → at_[w]? = some (wh w : Int) ∧ 1 ≤ wh w ∧ wh w < I.K)
    (hs : Sep h (layB I (ct0 wh 0) ++ [(0, told0)]))
    (kk : ∀ (h' : Heap) (I' : Ids), I'.K = I.K → I'.m = I.m → I'.w = I.w → Sep h' (lay I' (ct0 wh I.m) ++ [(0, told0)]) → SC Try.prog Try.f33.ntmps 0 t33c QQ [(1, ln (eInt .i64) at_), (2, ln eGMove_Deed deeds), (6, .ptr 0 0), (8, .ptr I.w 0)] h') :
    SC Try.prog Try.f33.ntmps 0 t33b QQ [(0, ii (n : Int)), (1, ln (eInt .i64) at_), (2, ln eGMove_Deed deeds), (6, .ptr 0 0), (8, .ptr I.w 0)] h := by
  unfold t33b
  refine sc_seq (q_reg ?_)
  repeat (first | refine a_op (fun _ => rfl) ?_ | refine a_load rfl (by assumption) rfl ?_ | refine a_load_at rfl (by assumption) (by assumption) ?_ | refine a_iaddr_at rfl rfl (by assumption) ?_ | refine a_iaddr_l rfl rfl (by assumption) rfl ?_ | refine st_load_r rfl rfl ?_ | refine a_cmp rfl rfl rfl ?_ | refine a_eqi rfl rfl ?_ | refine st_not rfl ?_ | refine st_pick_t rfl rfl rfl ?_ | refine st_pick_f rfl rfl rfl ?_ | refine st_g rfl ?_ | refine a_gtf rfl ?_ | refine a_gft rfl ?_ | refine a_gu rfl ?_ | refine a_mklist (ec rfl en) (mz mkn) ?_ | refine a_mid ?_)
  first | refine a_endq (by repeat (first | exact pr_nil | (apply pr_cons; rfl))) ?_ | refine a_end (by repeat (first | exact pr_nil | (apply pr_cons; rfl))) ?_
  refine sc_block (sc_loop (X := { y : Nat × (Nat → Nat) × (Nat → Nat) × (Nat → Nat) × Heap // y.1 ≤ I.m ∧ Sep y.2.2.2.2 (layB (Ibody I y.2.1 y.2.2.1 y.2.2.2.1) (ct0 wh y.1) ++ ((List.range y.1).flatMap (bodyL (Ibody I y.2.1 y.2.2.1 y.2.2.2.1) (ct0 wh 0)) ++ [(0, told0)])) })
      (fun y => ([(0, ii (n : Int)), (1, ln (eInt .i64) at_), (2, ln eGMove_Deed deeds), (6, .ptr 0 0), (8, .ptr I.w 0), (62, ln (eInt .i64) at_), (63, ii (at_.map (eInt .i64)).length), (64, ii y.1.1)], y.1.2.2.2.2)) (fun y => I.m - y.1.1)
      ⟨(0, I.bid, I.xid, I.eid, h), Nat.zero_le _, hs⟩ (WeakF.refl _ _) ?_)
  rintro ⟨⟨w, b, x, e, h1⟩, hw, s1⟩
  simp only at hw s1
  refine q_reg ?_
  repeat (first | refine a_op (fun _ => rfl) ?_ | refine a_load rfl (by assumption) rfl ?_ | refine a_load_at rfl (by assumption) (by assumption) ?_ | refine a_iaddr_at rfl rfl (by assumption) ?_ | refine a_iaddr_l rfl rfl (by assumption) rfl ?_ | refine st_load_r rfl rfl ?_ | refine a_cmp rfl rfl rfl ?_ | refine a_eqi rfl rfl ?_ | refine st_not rfl ?_ | refine st_pick_t rfl rfl rfl ?_ | refine st_pick_f rfl rfl rfl ?_ | refine st_g rfl ?_ | refine a_gtf rfl ?_ | refine a_gft rfl ?_ | refine a_gu rfl ?_ | refine a_mklist (ec rfl en) (mz mkn) ?_ | refine a_mid ?_)
  first | refine a_endq (by repeat (first | exact pr_nil | (apply pr_cons; rfl))) ?_ | refine a_end (by repeat (first | exact pr_nil | (apply pr_cons; rfl))) ?_
  refine sc_seq (sc_cond rfl (fun hz => ?_) (fun hz => ?_))
  · have hwl : w < I.m := by have := of_decide_eq_true hz; dsimp only at this; rw [List.length_map] at this; omega
    obtain ⟨hat, h1w, hwK⟩ := hwh w hwl
    refine sc_skip (sq_n (sc_seq (sc_block (q_reg ?_))))
    repeat (first | refine a_op (fun _ => rfl) ?_ | refine a_load rfl (by assumption) rfl ?_ | refine a_load_at rfl (by assumption) (by assumption) ?_ | refine a_iaddr_at rfl rfl (by assumption) ?_ | refine a_iaddr_l rfl rfl (by assumption) rfl ?_ | refine st_load_r rfl rfl ?_ | refine a_cmp rfl rfl rfl ?_ | refine a_eqi rfl rfl ?_ | refine st_not rfl ?_ | refine st_pick_t rfl rfl rfl ?_ | refine st_pick_f rfl rfl rfl ?_ | refine st_g rfl ?_ | refine a_gtf rfl ?_ | refine a_gft rfl ?_ | refine a_gu rfl ?_ | refine a_mklist (ec rfl en) (mz mkn) ?_ | refine a_mid ?_)
    first | refine a_endq (by repeat (first | exact pr_nil | (apply pr_cons; rfl))) ?_ | refine a_end (by repeat (first | exact pr_nil | (apply pr_cons; rfl))) ?_
    refine sc_seq (q_reg ?_)
    refine a_op (fun _ => rfl) (st_lss rfl rfl (fun hx => by omega) (fun _ => ?_))
    refine a_op (fun _ => rfl) (st_g rfl (a_op (fun _ => rfl) (st_g rfl (a_op (fun _ => rfl) (st_g rfl (st_gtr rfl rfl (fun hx => by omega) (fun _ => ?_)))))))
    repeat (first | refine a_op (fun _ => rfl) ?_ | refine a_load rfl (by assumption) rfl ?_ | refine a_load_at rfl (by assumption) (by assumption) ?_ | refine a_iaddr_at rfl rfl (by assumption) ?_ | refine a_iaddr_l rfl rfl (by assumption) rfl ?_ | refine st_load_r rfl rfl ?_ | refine a_cmp rfl rfl rfl ?_ | refine a_eqi rfl rfl ?_ | refine st_not rfl ?_ | refine st_pick_t rfl rfl rfl ?_ | refine st_pick_f rfl rfl rfl ?_ | refine st_g rfl ?_ | refine a_gtf rfl ?_ | refine a_gft rfl ?_ | refine a_gu rfl ?_ | refine a_mklist (ec rfl en) (mz mkn) ?_ | refine a_mid ?_)
    first | refine a_endq (by repeat (first | exact pr_nil | (apply pr_cons; rfl))) ?_ | refine a_end (by repeat (first | exact pr_nil | (apply pr_cons; rfl))) ?_
    refine s_cond_f rfl (sc_skip (sq_n (sc_seq (q_reg ?_))))
    have gw : h1[I.w]? = some (netO I) := s1.get (mem_wB (I := Ibody I b x e) (t := ct0 wh w) _)
    repeat (first | refine a_op (fun _ => rfl) ?_ | refine a_load rfl (by assumption) rfl ?_ | refine a_load_at rfl (by assumption) (by assumption) ?_ | refine a_iaddr_at rfl rfl (by assumption) ?_ | refine a_iaddr_l rfl rfl (by assumption) rfl ?_ | refine st_load_r rfl rfl ?_ | refine a_cmp rfl rfl rfl ?_ | refine a_eqi rfl rfl ?_ | refine st_not rfl ?_ | refine st_pick_t rfl rfl rfl ?_ | refine st_pick_f rfl rfl rfl ?_ | refine st_g rfl ?_ | refine a_gtf rfl ?_ | refine a_gft rfl ?_ | refine a_gu rfl ?_ | refine a_mklist (ec rfl en) (mz mkn) ?_ | refine a_mid ?_)
    first | refine a_endq (by repeat (first | exact pr_nil | (apply pr_cons; rfl))) ?_ | refine a_end (by repeat (first | exact pr_nil | (apply pr_cons; rfl))) ?_
    obtain ⟨RB, hRB⟩ : ∃ RB : Lay, RB = (List.range w).flatMap (bodyL (Ibody I b x e) (ct0 wh 0)) ++ [(0, told0)] := ⟨_, rfl⟩
    rw [← hRB] at s1
    refine sc_block (sc_loop (X := { y : Nat × Heap // y.1 ≤ I.K ∧ Sep y.2 (layB (Ibody I b x e) (ct1 wh w y.1) ++ RB) })
      (fun y => ([(0, ii (n : Int)), (1, ln (eInt .i64) at_), (2, ln eGMove_Deed deeds), (6, .ptr 0 0), (8, .ptr I.w 0), (10, ii w), (11, ii (wh w)), (62, ln (eInt .i64) at_), (63, ii (at_.map (eInt .i64)).length), (64, ii w), (81, ii I.K), (82, ii y.1.1)], y.1.2)) (fun y => I.K - y.1.1)
      ⟨(0, h1), Nat.zero_le _, by rw [ct1_0]; exact s1⟩ (WeakF.refl _ _) ?_)
    rintro ⟨⟨j, h2⟩, hj, s2⟩
    simp only at hj s2
    refine q_reg ?_
    repeat (first | refine a_op (fun _ => rfl) ?_ | refine a_load rfl (by assumption) rfl ?_ | refine a_load_at rfl (by assumption) (by assumption) ?_ | refine a_iaddr_at rfl rfl (by assumption) ?_ | refine a_iaddr_l rfl rfl (by assumption) rfl ?_ | refine st_load_r rfl rfl ?_ | refine a_cmp rfl rfl rfl ?_ | refine a_eqi rfl rfl ?_ | refine st_not rfl ?_ | refine st_pick_t rfl rfl rfl ?_ | refine st_pick_f rfl rfl rfl ?_ | refine st_g rfl ?_ | refine a_gtf rfl ?_ | refine a_gft rfl ?_ | refine a_gu rfl ?_ | refine a_mklist (ec rfl en) (mz mkn) ?_ | refine a_mid ?_)
    first | refine a_endq (by repeat (first | exact pr_nil | (apply pr_cons; rfl))) ?_ | refine a_end (by repeat (first | exact pr_nil | (apply pr_cons; rfl))) ?_
    refine sc_seq (sc_cond rfl (fun hz2 => ?_) (fun hz2 => ?_))
    · have hjl : j < I.K := by have := of_decide_eq_true hz2; dsimp only at this; omega
      have gw : h2[I.w]? = some (netO I) := s2.get (mem_wB (I := Ibody I b x e) (t := ct1 wh w j) _)
      have gn : h2[I.nid]? = some (nodesO (Ibody I b x e) (ct1 wh w j).waits) := s2.get (mem_nB _)
      have gs : h2[I.sid j]? = some (sureO (Ibody I b x e) ((ct1 wh w j).sn j) ((ct1 wh w j).st j)) := s2.get (mem_nodeB (I := Ibody I b x e) (t := ct1 wh w j) (i := j) hjl (by simp [nodeL, Ibody]) _)
      refine sc_skip (sq_n (sc_seq (sc_block (q_reg ?_))))
      repeat (first | refine a_op (fun _ => rfl) ?_ | refine a_load rfl (by assumption) rfl ?_ | refine a_load_at rfl (by assumption) (by assumption) ?_ | refine a_iaddr_at rfl rfl (by assumption) ?_ | refine a_iaddr_l rfl rfl (by assumption) rfl ?_ | refine st_load_r rfl rfl ?_ | refine a_cmp rfl rfl rfl ?_ | refine a_eqi rfl rfl ?_ | refine st_not rfl ?_ | refine st_pick_t rfl rfl rfl ?_ | refine st_pick_f rfl rfl rfl ?_ | refine st_g rfl ?_ | refine a_gtf rfl ?_ | refine a_gft rfl ?_ | refine a_gu rfl ?_ | refine a_mklist (ec rfl en) (mz mkn) ?_ | refine a_mid ?_)
      first | refine a_endq (by repeat (first | exact pr_nil | (apply pr_cons; rfl))) ?_ | refine a_end (by repeat (first | exact pr_nil | (apply pr_cons; rfl))) ?_
      refine s_reg ?_
      repeat (first | refine a_op (fun _ => rfl) ?_ | refine a_load rfl (by assumption) rfl ?_ | refine a_load_at rfl (by assumption) (by assumption) ?_ | refine a_iaddr_at rfl rfl (by assumption) ?_ | refine a_iaddr_l rfl rfl (by assumption) rfl ?_ | refine st_load_r rfl rfl ?_ | refine a_cmp rfl rfl rfl ?_ | refine a_eqi rfl rfl ?_ | refine st_not rfl ?_ | refine st_pick_t rfl rfl rfl ?_ | refine st_pick_f rfl rfl rfl ?_ | refine st_g rfl ?_ | refine a_gtf rfl ?_ | refine a_gft rfl ?_ | refine a_gu rfl ?_ | refine a_mklist (ec rfl en) (mz mkn) ?_ | refine a_mid ?_)
      refine a_iaddr_n rfl rfl hjl ?_
      repeat (first | refine a_op (fun _ => rfl) ?_ | refine a_load rfl (by assumption) rfl ?_ | refine a_load_at rfl (by assumption) (by assumption) ?_ | refine a_iaddr_at rfl rfl (by assumption) ?_ | refine a_iaddr_l rfl rfl (by assumption) rfl ?_ | refine st_load_r rfl rfl ?_ | refine a_cmp rfl rfl rfl ?_ | refine a_eqi rfl rfl ?_ | refine st_not rfl ?_ | refine st_pick_t rfl rfl rfl ?_ | refine st_pick_f rfl rfl rfl ?_ | refine st_g rfl ?_ | refine a_gtf rfl ?_ | refine a_gft rfl ?_ | refine a_gu rfl ?_ | refine a_mklist (ec rfl en) (mz mkn) ?_ | refine a_mid ?_)
      refine a_load_fm (i := j) (w := 4) (j := 1) rfl gn (nodeC_len _ _) hjl (by decide) rfl ?_
      repeat (first | refine a_op (fun _ => rfl) ?_ | refine a_load rfl (by assumption) rfl ?_ | refine a_load_at rfl (by assumption) (by assumption) ?_ | refine a_iaddr_at rfl rfl (by assumption) ?_ | refine a_iaddr_l rfl rfl (by assumption) rfl ?_ | refine st_load_r rfl rfl ?_ | refine a_cmp rfl rfl rfl ?_ | refine a_eqi rfl rfl ?_ | refine st_not rfl ?_ | refine st_pick_t rfl rfl rfl ?_ | refine st_pick_f rfl rfl rfl ?_ | refine st_g rfl ?_ | refine a_gtf rfl ?_ | refine a_gft rfl ?_ | refine a_gu rfl ?_ | refine a_mklist (ec rfl en) (mz mkn) ?_ | refine a_mid ?_)
      refine a_iaddr_n (i := w) rfl rfl hwl ?_
      refine a_store_fm (i := w) (w := 2) (j := 0) (F := sureC ((ct1 wh w j).sn j) ((ct1 wh w j).st j)) rfl rfl gs (sureC_len _ _) hwl (by rfl) (by decide) rfl ?_
      repeat (first | refine a_op (fun _ => rfl) ?_ | refine a_load rfl (by assumption) rfl ?_ | refine a_load_at rfl (by assumption) (by assumption) ?_ | refine a_iaddr_at rfl rfl (by assumption) ?_ | refine a_iaddr_l rfl rfl (by assumption) rfl ?_ | refine st_load_r rfl rfl ?_ | refine a_cmp rfl rfl rfl ?_ | refine a_eqi rfl rfl ?_ | refine st_not rfl ?_ | refine st_pick_t rfl rfl rfl ?_ | refine st_pick_f rfl rfl rfl ?_ | refine st_g rfl ?_ | refine a_gtf rfl ?_ | refine a_gft rfl ?_ | refine a_gu rfl ?_ | refine a_mklist (ec rfl en) (mz mkn) ?_ | refine a_mid ?_)
      first | refine a_endq (by repeat (first | exact pr_nil | (apply pr_cons; rfl))) ?_ | refine a_end (by repeat (first | exact pr_nil | (apply pr_cons; rfl))) ?_
      obtain ⟨M, pin, pout⟩ := sure_atB (Ibody I b x e) (ct1 wh w j) hjl RB
      have s3 := (Sep.set (A := []) (B := M) (s2.perm pin) (sureO (Ibody I b x e) (fupd ((ct1 wh w j).sn j) w (wh w)) (fupd ((ct1 wh w j).st j) w 0))).perm (pout (fupd ((ct1 wh w j).sn j) w (wh w)) (fupd ((ct1 wh w j).st j) w 0)).symm
      have hst := ct1_step wh w j (t := ct1 wh w j) rfl
      rw [hst] at s3
      have e2 : fupd (sureC ((ct1 wh w j).sn j) ((ct1 wh w j).st j)) w (putAt (sureC ((ct1 wh w j).sn j) ((ct1 wh w j).st j) w) 0 (HV.agg [ii (wh w : Int), ii 0]).cells) = sureC (fupd ((ct1 wh w j).sn j) w (wh w)) (fupd ((ct1 wh w j).st j) w 0) := sureC_upd _ _ w (wh w) 0
      change SC _ _ _ _ _ _ (h2.set (I.sid j) (.cells ((List.range I.m).flatMap (fupd (sureC ((ct1 wh w j).sn j) ((ct1 wh w j).st j)) w (putAt (sureC ((ct1 wh w j).sn j) ((ct1 wh w j).st j) w) 0 (HV.agg [ii (wh w : Int), ii 0]).cells)))))
      rw [e2]
      refine s_reg ?_
      repeat (first | refine a_op (fun _ => rfl) ?_ | refine a_load rfl (by assumption) rfl ?_ | refine a_load_at rfl (by assumption) (by assumption) ?_ | refine a_iaddr_at rfl rfl (by assumption) ?_ | refine a_iaddr_l rfl rfl (by assumption) rfl ?_ | refine st_load_r rfl rfl ?_ | refine a_cmp rfl rfl rfl ?_ | refine a_eqi rfl rfl ?_ | refine st_not rfl ?_ | refine st_pick_t rfl rfl rfl ?_ | refine st_pick_f rfl rfl rfl ?_ | refine st_g rfl ?_ | refine a_gtf rfl ?_ | refine a_gft rfl ?_ | refine a_gu rfl ?_ | refine a_mklist (ec rfl en) (mz mkn) ?_ | refine a_mid ?_)
      refine a_add rfl rfl (by first | omega | (dsimp only; omega)) ?_
      repeat (first | refine a_op (fun _ => rfl) ?_ | refine a_load rfl (by assumption) rfl ?_ | refine a_load_at rfl (by assumption) (by assumption) ?_ | refine a_iaddr_at rfl rfl (by assumption) ?_ | refine a_iaddr_l rfl rfl (by assumption) rfl ?_ | refine st_load_r rfl rfl ?_ | refine a_cmp rfl rfl rfl ?_ | refine a_eqi rfl rfl ?_ | refine st_not rfl ?_ | refine st_pick_t rfl rfl rfl ?_ | refine st_pick_f rfl rfl rfl ?_ | refine st_g rfl ?_ | refine a_gtf rfl ?_ | refine a_gft rfl ?_ | refine a_gu rfl ?_ | refine a_mklist (ec rfl en) (mz mkn) ?_ | refine a_mid ?_)
      first | refine a_endq (by repeat (first | exact pr_nil | (apply pr_cons; rfl))) ?_ | refine a_end (by repeat (first | exact pr_nil | (apply pr_cons; rfl))) ?_
      refine lo_n ⟨(j + 1, _), hjl, s3⟩ (by show I.K - (j + 1) < I.K - j; omega) (WeakF.refl _ _)
    · have hjl : ¬ j < I.K := by have := of_decide_eq_false hz2; dsimp only at this; omega
      have hjK : j = I.K := by omega
      subst hjK
      refine sc_exit (sq_x (lo_x (bl_x (sq_n (SC.weak (e' := [(0, ii (n : Int)), (1, ln (eInt .i64) at_), (2, ln eGMove_Deed deeds), (6, .ptr 0 0), (8, .ptr I.w 0), (10, ii w), (11, ii (wh w)), (62, ln (eInt .i64) at_), (63, ii (at_.map (eInt .i64)).length), (64, ii w)]) ws (a_dregl Try.mixed ?_))))))
      have t1 := ((s2.new .res).new .res).new .res
      have l1 : (h2 ++ [HObj.res]).length = h2.length + 1 := by simp
      have l2 : (h2 ++ [HObj.res] ++ [HObj.res]).length = h2.length + 2 := by simp
      rw [l1, l2] at t1
      have eh : h2 ++ List.replicate 3 HObj.res = h2 ++ [HObj.res] ++ [HObj.res] ++ [HObj.res] := by simp
      change HO _ h2.length _ _ (h2 ++ List.replicate 3 HObj.res) _
      rw [eh]
      generalize h2 ++ [HObj.res] ++ [HObj.res] ++ [HObj.res] = h3 at t1 ⊢
      generalize hv0 : h2.length = v0 at t1 ⊢
      obtain ⟨I1, hI1⟩ : ∃ I1, I1 = Ibody I b x e := ⟨_, rfl⟩
      have q1 : I1.w = I.w := by rw [hI1]; rfl
      have q2 : I1.nid = I.nid := by rw [hI1]; rfl
      have q3 : I1.K = I.K := by rw [hI1]; rfl
      have q4 : I1.m = I.m := by rw [hI1]; rfl
      have q5 : I1.mid = I.mid := by rw [hI1]; rfl
      rw [← hI1] at t1 hRB
      rw [← q3] at t1
      have hwK1 : wh w < I1.K := by rw [q3]; exact hwK
      have hwl1 : w < I1.m := by rw [q4]; exact hwl
      have hK1 : I1.K = n + 1 := by rw [q3]; exact hK
      have gw : h3[I.w]? = some (netO I1) := by
        rw [← q1]
        exact t1.get (List.mem_cons_of_mem _ (List.mem_cons_of_mem _ (List.mem_cons_of_mem _ (mem_wB _))))
      have gn : h3[I1.nid]? = some (nodesO I1 (ct1 wh w I1.K).waits) := t1.get (List.mem_cons_of_mem _ (List.mem_cons_of_mem _ (List.mem_cons_of_mem _ (mem_nB _))))
      repeat (first | refine a_op (fun _ => rfl) ?_ | refine a_load rfl (by assumption) rfl ?_ | refine a_load_at rfl (by assumption) (by assumption) ?_ | refine a_iaddr_at rfl rfl (by assumption) ?_ | refine a_iaddr_l rfl rfl (by assumption) rfl ?_ | refine st_load_r rfl rfl ?_ | refine a_cmp rfl rfl rfl ?_ | refine a_eqi rfl rfl ?_ | refine st_not rfl ?_ | refine st_pick_t rfl rfl rfl ?_ | refine st_pick_f rfl rfl rfl ?_ | refine st_g rfl ?_ | refine a_gtf rfl ?_ | refine a_gft rfl ?_ | refine a_gu rfl ?_ | refine a_mklist (ec rfl en) (mz mkn) ?_ | refine a_mid ?_)
      refine a_iaddr_n (i := wh w) rfl rfl hwK1 ?_
      repeat (first | refine a_op (fun _ => rfl) ?_ | refine a_load rfl (by assumption) rfl ?_ | refine a_load_at rfl (by assumption) (by assumption) ?_ | refine a_iaddr_at rfl rfl (by assumption) ?_ | refine a_iaddr_l rfl rfl (by assumption) rfl ?_ | refine st_load_r rfl rfl ?_ | refine a_cmp rfl rfl rfl ?_ | refine a_eqi rfl rfl ?_ | refine st_not rfl ?_ | refine st_pick_t rfl rfl rfl ?_ | refine st_pick_f rfl rfl rfl ?_ | refine st_g rfl ?_ | refine a_gtf rfl ?_ | refine a_gft rfl ?_ | refine a_gu rfl ?_ | refine a_mklist (ec rfl en) (mz mkn) ?_ | refine a_mid ?_)
      refine a_load_fm (i := wh w) (w := 4) (j := 0) rfl gn (nodeC_len _ _) hwK1 (by decide) rfl ?_
      repeat (first | refine a_op (fun _ => rfl) ?_ | refine a_load rfl (by assumption) rfl ?_ | refine a_load_at rfl (by assumption) (by assumption) ?_ | refine a_iaddr_at rfl rfl (by assumption) ?_ | refine a_iaddr_l rfl rfl (by assumption) rfl ?_ | refine st_load_r rfl rfl ?_ | refine a_cmp rfl rfl rfl ?_ | refine a_eqi rfl rfl ?_ | refine st_not rfl ?_ | refine st_pick_t rfl rfl rfl ?_ | refine st_pick_f rfl rfl rfl ?_ | refine st_g rfl ?_ | refine a_gtf rfl ?_ | refine a_gft rfl ?_ | refine a_gu rfl ?_ | refine a_mklist (ec rfl en) (mz mkn) ?_ | refine a_mid ?_)
      refine a_add rfl rfl (by omega) ?_
      have g0 : h3[v0]? = some .res := t1.get (by simp)
      refine a_mksl (id := v0) (n := n + 1) rfl g0 rfl rfl rfl (by omega) ?_
      have e0 : (List.replicate (n + 1) [HV.int .i64 0]).flatten = (List.range I1.K).map fun i => ii ((0 : Nat) : Int) := by
        rw [hK1, rep_flm, map_fm]
        rfl
      rw [e0]
      have t2 := Sep.set (A := [(v0 + 2, .res), (v0 + 1, .res)]) (B := layB I1 (ct1 wh w I1.K) ++ RB) t1 (nxO I1.K fun _ => 0)
      generalize h3.set v0 _ = h4 at t2 ⊢
      have g1 : h4[v0 + 1]? = some .res := t2.get (by simp)
      refine g_mkmap_r (fk := eKey) (fv := ii) (id := v0 + 1) rfl g1 rfl ?_
      have t3 := Sep.set (A := [(v0 + 2, .res)]) (B := (v0, nxO I1.K fun _ => 0) :: (layB I1 (ct1 wh w I1.K) ++ RB)) t2 ((GM.nil : GM Key Int).obj eKey ii)
      generalize h4.set (v0 + 1) _ = h5 at t3 ⊢
      have g2 : h5[v0 + 2]? = some .res := t3.get (by simp)
      repeat (first | refine a_op (fun _ => rfl) ?_ | refine a_load rfl (by assumption) rfl ?_ | refine a_load_at rfl (by assumption) (by assumption) ?_ | refine a_iaddr_at rfl rfl (by assumption) ?_ | refine a_iaddr_l rfl rfl (by assumption) rfl ?_ | refine st_load_r rfl rfl ?_ | refine a_cmp rfl rfl rfl ?_ | refine a_eqi rfl rfl ?_ | refine st_not rfl ?_ | refine st_pick_t rfl rfl rfl ?_ | refine st_pick_f rfl rfl rfl ?_ | refine st_g rfl ?_ | refine a_gtf rfl ?_ | refine a_gft rfl ?_ | refine a_gu rfl ?_ | refine a_mklist (ec rfl en) (mz mkn) ?_ | refine a_mid ?_)
      refine a_boxr rfl rfl rfl (id := v0 + 2) rfl g2 ?_
      have t4 := Sep.set (A := []) (B := (v0 + 1, (GM.nil : GM Key Int).obj eKey ii) :: (v0, nxO I1.K fun _ => 0) :: (layB I1 (ct1 wh w I1.K) ++ RB)) t3 (.cells [.list [] .full, .arr v0 0 (n + 1) 1, .map (v0 + 1)])
      change HO _ _ _ _ (h5.set (v0 + 2) (.cells [.list [] .full, .arr v0 0 (n + 1) 1, .map (v0 + 1)])) _
      generalize h5.set (v0 + 2) _ = h6 at t4 ⊢
      simp only [List.nil_append] at t4
      have gh : h6[I1.hid (wh w)]? = some (hereO I1 ((ct1 wh w I1.K).here (wh w))) := t4.get (List.mem_cons_of_mem _ (List.mem_cons_of_mem _ (List.mem_cons_of_mem _ (mem_nodeB (I := I1) (t := ct1 wh w I1.K) hwK1 (by simp [nodeL]) _))))
      repeat (first | refine a_op (fun _ => rfl) ?_ | refine a_load rfl (by assumption) rfl ?_ | refine a_load_at rfl (by assumption) (by assumption) ?_ | refine a_iaddr_at rfl rfl (by assumption) ?_ | refine a_iaddr_l rfl rfl (by assumption) rfl ?_ | refine st_load_r rfl rfl ?_ | refine a_cmp rfl rfl rfl ?_ | refine a_eqi rfl rfl ?_ | refine st_not rfl ?_ | refine st_pick_t rfl rfl rfl ?_ | refine st_pick_f rfl rfl rfl ?_ | refine st_g rfl ?_ | refine a_gtf rfl ?_ | refine a_gft rfl ?_ | refine a_gu rfl ?_ | refine a_mklist (ec rfl en) (mz mkn) ?_ | refine a_mid ?_)
      refine a_store_rg (F := hereC I1.bid ((ct1 wh w I1.K).here (wh w))) (v := .ptr (v0 + 2) 0) rfl rfl gh rfl rfl hwl1 ?_
      repeat (first | refine a_op (fun _ => rfl) ?_ | refine a_load rfl (by assumption) rfl ?_ | refine a_load_at rfl (by assumption) (by assumption) ?_ | refine a_iaddr_at rfl rfl (by assumption) ?_ | refine a_iaddr_l rfl rfl (by assumption) rfl ?_ | refine st_load_r rfl rfl ?_ | refine a_cmp rfl rfl rfl ?_ | refine a_eqi rfl rfl ?_ | refine st_not rfl ?_ | refine st_pick_t rfl rfl rfl ?_ | refine st_pick_f rfl rfl rfl ?_ | refine st_g rfl ?_ | refine a_gtf rfl ?_ | refine a_gft rfl ?_ | refine a_gu rfl ?_ | refine a_mklist (ec rfl en) (mz mkn) ?_ | refine a_mid ?_)
      first | refine a_endq (by repeat (first | exact pr_nil | (apply pr_cons; rfl))) ?_ | refine a_end (by repeat (first | exact pr_nil | (apply pr_cons; rfl))) ?_
      obtain ⟨M0, p1, p2⟩ := fm_at I1.K (nodeL I1 (ct1 wh w I1.K)) hwK1
      have n1 : ∀ i, nodeL I1 (ct1 wh w I1.K) i = [(I1.hid i, hereO I1 ((ct1 wh w I1.K).here i)), (I1.sid i, sureO I1 ((ct1 wh w I1.K).sn i) ((ct1 wh w I1.K).st i)), (I1.qid i, seqO I1 ((ct1 wh w I1.K).sq i))] := fun i => by
        show _ ++ [] = _
        rw [List.append_nil]
      obtain ⟨I2, hI2⟩ : ∃ I2 : Ids, I2 = { I1 with bid := fupd I1.bid w (v0 + 2), xid := fupd I1.xid w v0, eid := fupd I1.eid w (v0 + 1) } := ⟨_, rfl⟩
      have n2 : ∀ i, i < I1.K → nodeL I2 (ct0 wh (w + 1)) i = [(I1.hid i, .cells ((List.range I1.m).map (if wh w = i then fupd (hereC I1.bid ((ct1 wh w I1.K).here i)) w (.ptr (v0 + 2) 0) else hereC I1.bid ((ct1 wh w I1.K).here i)))), (I1.sid i, sureO I1 ((ct1 wh w I1.K).sn i) ((ct1 wh w I1.K).st i)), (I1.qid i, seqO I1 ((ct1 wh w I1.K).sq i))] := fun i hi => by
        rw [hI2]; exact node_next hi hwl1
      have p3 := p2 (fun i => if i < I1.K then nodeL I2 (ct0 wh (w + 1)) i else nodeL I1 (ct1 wh w I1.K) i) fun j hj => by
        split
        · rename_i hjK
          rw [n2 j hjK, n1 j, if_neg (fun e => hj e.symm)]
        · rfl
      rw [fm_congr (l := List.range I1.K) (g := nodeL I2 (ct0 wh (w + 1))) fun i hi => if_pos (List.mem_range.1 hi)] at p3
      simp only [if_pos hwK1, n2 _ hwK1, if_pos] at p3
      rw [n1] at p1
      have hbod : (List.range (w + 1)).flatMap (bodyL I2 (ct0 wh 0)) = (List.range w).flatMap (bodyL I1 (ct0 wh 0)) ++ [(v0 + 2, .cells [.list [] .full, .arr v0 0 (n + 1) 1, .map (v0 + 1)]), (v0, nxO I1.K fun _ => 0), (v0 + 1, (GM.nil : GM Key Int).obj eKey ii)] := by
        rw [List.range_succ, List.flatMap_append]
        congr 1
        · refine fm_congr fun i hi => ?_
          have hne : i ≠ w := by have := List.mem_range.1 hi; omega
          rw [hI2]
          simp only [bodyL, body, fupd_ne hne]
        · rw [hI2]
          simp only [List.flatMap_cons, List.flatMap_nil, List.append_nil, bodyL, body, fupd_eq, PB.lay, PB.obj, ← hK1]
          rfl
      have q6 : ∀ Z : Lay, layB I2 (ct0 wh (w + 1)) ++ Z = (I1.w, netO I1) :: (I1.mid, wayO I1.bid GM.nil) :: ((I1.nid, nodesO I1 (ct1 wh w I1.K).waits) :: ((List.range I1.K).flatMap (nodeL I2 (ct0 wh (w + 1))) ++ Z)) := fun Z => by rw [hI2]; rfl
      have q7 : ∀ Z : Lay, layB I1 (ct1 wh w I1.K) ++ Z = (I1.w, netO I1) :: (I1.mid, wayO I1.bid GM.nil) :: ((I1.nid, nodesO I1 (ct1 wh w I1.K).waits) :: ((List.range I1.K).flatMap (nodeL I1 (ct1 wh w I1.K)) ++ Z)) := fun Z => rfl
      have t5 : Sep (h6.set (I1.hid (wh w)) (.cells ((List.range I1.m).map (fupd (hereC I1.bid ((ct1 wh w I1.K).here (wh w))) w (.ptr (v0 + 2) 0))))) (layB I2 (ct0 wh (w + 1)) ++ ((List.range (w + 1)).flatMap (bodyL I2 (ct0 wh 0)) ++ [(0, told0)])) := by
        refine t4.upd (M := (v0 + 2, .cells [.list [] .full, .arr v0 0 (n + 1) 1, .map (v0 + 1)]) :: (v0 + 1, (GM.nil : GM Key Int).obj eKey ii) :: (v0, nxO I1.K fun _ => 0) :: (I1.w, netO I1) :: (I1.mid, wayO I1.bid GM.nil) :: (I1.nid, nodesO I1 (ct1 wh w I1.K).waits) ::
          (I1.sid (wh w), sureO I1 ((ct1 wh w I1.K).sn (wh w)) ((ct1 wh w I1.K).st (wh w))) :: (I1.qid (wh w), seqO I1 ((ct1 wh w I1.K).sq (wh w))) :: (M0 ++ ((List.range w).flatMap (bodyL I1 (ct0 wh 0)) ++ [(0, told0)]))) (i := I1.hid (wh w)) (o := hereO I1 ((ct1 wh w I1.K).here (wh w))) (perm_c fun c e ca cc c0 cp => ?_) (perm_c fun c e ca cc c0 cp => ?_)
        · have := cp _ _ p1
          simp only [ca, cc, c0] at this
          simp only [q7, hRB, ca, cc, c0, this]
          omega
        · have := cp _ _ p3
          simp only [ca, cc, c0] at this
          simp only [q6, hbod, ca, cc, c0, this]
          omega
      have hI3 : I2 = Ibody I (fupd b w (v0 + 2)) (fupd x w v0) (fupd e w (v0 + 1)) := by rw [hI2, hI1]; rfl
      rw [hI3] at t5
      refine s_reg ?_
      repeat (first | refine a_op (fun _ => rfl) ?_ | refine a_load rfl (by assumption) rfl ?_ | refine a_load_at rfl (by assumption) (by assumption) ?_ | refine a_iaddr_at rfl rfl (by assumption) ?_ | refine a_iaddr_l rfl rfl (by assumption) rfl ?_ | refine st_load_r rfl rfl ?_ | refine a_cmp rfl rfl rfl ?_ | refine a_eqi rfl rfl ?_ | refine st_not rfl ?_ | refine st_pick_t rfl rfl rfl ?_ | refine st_pick_f rfl rfl rfl ?_ | refine st_g rfl ?_ | refine a_gtf rfl ?_ | refine a_gft rfl ?_ | refine a_gu rfl ?_ | refine a_mklist (ec rfl en) (mz mkn) ?_ | refine a_mid ?_)
      refine a_add rfl rfl (by first | omega | (dsimp only; omega)) ?_
      repeat (first | refine a_op (fun _ => rfl) ?_ | refine a_load rfl (by assumption) rfl ?_ | refine a_load_at rfl (by assumption) (by assumption) ?_ | refine a_iaddr_at rfl rfl (by assumption) ?_ | refine a_iaddr_l rfl rfl (by assumption) rfl ?_ | refine st_load_r rfl rfl ?_ | refine a_cmp rfl rfl rfl ?_ | refine a_eqi rfl rfl ?_ | refine st_not rfl ?_ | refine st_pick_t rfl rfl rfl ?_ | refine st_pick_f rfl rfl rfl ?_ | refine st_g rfl ?_ | refine a_gtf rfl ?_ | refine a_gft rfl ?_ | refine a_gu rfl ?_ | refine a_mklist (ec rfl en) (mz mkn) ?_ | refine a_mid ?_)
      first | refine a_endq (by repeat (first | exact pr_nil | (apply pr_cons; rfl))) ?_ | refine a_end (by repeat (first | exact pr_nil | (apply pr_cons; rfl))) ?_
      refine lo_n ⟨(w + 1, fupd b w (v0 + 2), fupd x w v0, fupd e w (v0 + 1), _), hwl, t5⟩ (by show I.m - (w + 1) < I.m - w; omega) (WeakF.refl _ _)
  · have hwl : ¬ w < I.m := by have := of_decide_eq_false hz; dsimp only at this; rw [List.length_map] at this; omega
    have hwm : w = I.m := by omega
    subst hwm
    refine sc_exit (sq_x (lo_x (bl_x (sq_n (SC.weak ws (kk h1 (Ibody I b x e) rfl rfl rfl ?_))))))
    rw [lay_B]
    exact s1
end Go.Hw.VM

